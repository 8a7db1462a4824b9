import Derived.Test.YtknchlpcpgflkaaGreatDoorKGAY
import Derived.Test.YtknchlpcpgflkaaGreatDoorKGBB
import Derived.BigQuiet
import Derived.Test.YtknchlpcpgflkaaGreatDoorKGBD
set_option maxRecDepth 100000
set_option maxHeartbeats 16000000
namespace Go.Proofs.YtknchlpcpgflkaaGreatDoor
open Go.RowKit Go.Shelf
theorem mg_dup {g:Mg} (h:¬ (g.rs.map (·.1)).Nodup∨¬ (g.ts.map (·.id)).Nodup):mgB g=false:=by
 cases hm:mgB g with
 | false=>rfl
 | true=>
  obtain ⟨-,-,-,-,h5,h6⟩:=mgB_iff.1 hm;rcases h with h | h
  · exact absurd (difB_iff.1 h5).2.1 h
  · exact absurd (difB_iff.1 h6).2.1 h
theorem mg_all {g:Mg} (h1:nameB g.fr=true) (h2:nameB g.tn=true) (h3:g.st≠[]) (l1:g.st.length≤60) (l2:g.rs.length≤60) (l3:g.ts.length≤60) (h4:∀ s∈g.st,stB s=true) (h5:∀ r∈g.rs,rnB r=true) (h6:∀ t∈g.ts,tmB t=true) (h7:(g.rs.map (·.1)).Nodup) (h8:(g.ts.map (·.id)).Nodup):mgB g=true:=
 mgB_iff.2 ⟨h1,h2,⟨h3,l1⟩,fun s hs=>of_decide_eq_true (h4 s hs),difB_iff.2 ⟨h5,h7,l2⟩,difB_iff.2 ⟨h6,h8,l3⟩⟩
theorem dup_at {α:Type} {f:α→ByteArray} {l:List α} {j k:Nat} {x y:α} (hj:l[j]? = some y) (hk:l[k]? = some x) (hjk:j<k) (he:f y=f x):¬ (l.map f).Nodup:=by
 intro h;obtain ⟨h1,e1⟩:=List.getElem?_eq_some_iff.1 hj;obtain ⟨h2,e2⟩:=List.getElem?_eq_some_iff.1 hk;have:=List.pairwise_iff_getElem.1 h j k (by rw [List.length_map];exact h1) (by rw [List.length_map];exact h2) hjk;rw [List.getElem_map,List.getElem_map,e1,e2] at this;exact this he
theorem nodup_step {α:Type} {f:α→ByteArray} {l:List α} {k:Nat} {x:α} (hk:l[k]? = some x) (h:((l.take k).map f).Nodup) (hx:∀ y∈l.take k,f y≠f x):((l.take (k+1)).map f).Nodup:=by
 rw [take_snoc' hk,List.map_append,List.nodup_append];refine ⟨h,by simp,fun a ha b hb=>?_⟩;obtain ⟨y,hy,rfl⟩:=List.mem_map.1 ha;have:b=f x:=by simpa using hb
 rw [this];exact hx y hy
theorem all_step {α:Type} {p:α→Prop} {l:List α} {k:Nat} {x:α} (hk:l[k]? = some x) (h:∀ y∈l.take k,p y) (hx:p x):∀ y∈l.take (k+1),p y:=by
 rw [take_snoc' hk];intro y hy;rcases List.mem_append.1 hy with h1 | h1
 · exact h y h1
 · have:y=x:=by simpa using h1
   rw [this];exact hx
theorem tm_no {t:Lm} (h:nmB t.id.data.toList=false∨ptB t.n t.u=false∨isB t.f=false∨¬ t.S.length=0):tmB t=false:=by
 cases hm:tmB t with
 | false=>rfl
 | true=>
  unfold tmB at hm;rw [Bool.and_eq_true,decide_eq_true_eq] at hm;obtain ⟨h1,h2⟩:=hm;obtain ⟨p1,p2,p3,-⟩:=prB_iff.1 h1;rcases h with h | h | h | h
  · rw [p1] at h;cases h
  · rw [p3] at h;cases h
  · rw [p2] at h;cases h
  · exact absurd (by rw [h2];rfl) h
theorem tm_yes {t:Lm} (h1:nmB t.id.data.toList=true) (h2:ptB t.n t.u=true) (h3:isB t.f=true) (h4:t.S.length=0):tmB t=true:=by
 have hs:t.S=[]:=List.length_eq_zero_iff.1 h4;unfold tmB;rw [Bool.and_eq_true,decide_eq_true_eq];exact ⟨prB_iff.2 ⟨h1,h3,h2,by omega,by rw [hs];simp⟩,hs⟩
theorem rformedG_any (w:World) (B:Nat) (g:Mg) (x:MgX) (h:MgAt w B g x) (hB:B≤w.heap.size) (hs:SmlG g) :
 Calls Tryz.prog 62 #[.agg (mgC g x)] w fun e w'=>e = .returned (.bool (mgB g))∧Below w.heap.size w w':=by
 have hno := @mg_no g;have hdu := @mg_dup g;have hal := @mg_all g;obtain ⟨R,hR⟩:∃ R,mgB g=R:=⟨_,rfl⟩;rw [hR] at hno hdu hal ⊢;have HH:=hd_ h;have HS:=hd_ hs;have HBB:=hd_ hB;have hnf:=fun W=>name_any W g.fr h.fr;have hnt:=fun W=>name_any W g.tn h.tn;have hnr:=fun W r (hr:r∈g.rs)=>And.intro (name_any W r.1 (h.rn r hr).1) (name_any W r.2 (h.rn r hr).2);have htl:x.tv.length=g.ts.length:=by have:=congrArg List.length h.tv;simp only [List.length_map] at this;exact this
 obtain ⟨n0,hn0⟩:∃ r,nmB g.fr.data.toList=r:=⟨_,rfl⟩;obtain ⟨n1,hn1⟩:∃ r,nmB g.tn.data.toList=r:=⟨_,rfl⟩;have HN0:Hid (nameB g.fr=n0):=hd_ hn0;have HN1:Hid (nameB g.tn=n1):=hd_ hn1;rw [hn0] at hnf;rw [hn1] at hnt;clear h hs hB hR hn0 hn1;obtain ⟨fr,tn,st,rs,ts⟩:=g;obtain ⟨a1,c1,a2,c2,a3,c3,tv⟩:=x;simp only at htl hnr hnf hnt hno hdu hal;obtain ⟨an,h1⟩:∃ k,st.length=k:=⟨_,rfl⟩;obtain ⟨ar,h2⟩:∃ k,rs.length=k:=⟨_,rfl⟩;obtain ⟨aj,h3⟩:∃ k,ts.length=k:=⟨_,rfl⟩;have eG:mgC ⟨fr,tn,st,rs,ts⟩ ⟨a1,c1,a2,c2,a3,c3,tv⟩=#[.string fr,.string tn,.slice a1 an c1,.slice a2 ar c2,.slice a3 aj c3]:=by unfold mgC;simp only [h1,h2,h3]
 rw [eG];have hb:=below_self_alloc w (.cells #[.string fr,.string tn,.slice a1 an c1,.slice a2 ar c2,.slice a3 aj c3] 30);have kx:=Blk.new w 30 #[.string fr,.string tn,.slice a1 an c1,.slice a2 ar c2,.slice a3 aj c3];have HNO:=hd_ hno;have HDU:=hd_ hdu;have HAL:=hd_ hal;have NMF:=hd_ hnf;have NMT:=hd_ hnt;have NMR:=hd_ hnr;have HA:=hd_ h1;have HR:=hd_ h2;have HJ:=hd_ h3;have HTL:=hd_ (htl.trans h3);have HTV:Hid (tv.map (·.1)=ts):=hd_ HH.out.tv;have HB:=hd_ hb;have KX:=hd_ kx;clear hno hdu hal hnf hnt hnr h1 h2 h3 htl eG hb kx;obtain ⟨t0,t1,t2⟩:=KX.out.all;go_enter Tryz.func62,Tryz.ntmps62
 go_upto_region 1 with fail
 generalize w.alloc (.cells #[.string fr,.string tn,.slice a1 an c1,.slice a2 ar c2,.slice a3 aj c3] 30)=W at *;go_wp2_with fail
 refine (NMF.out W).mono ?_;rintro e W1 ⟨rfl,rfl⟩
 cases n0 with
 | false=>
  obtain rfl:R=false:=HNO.out (.inl HN0.out);go_wp2
  go_ret
  exact ⟨rfl,HB.out⟩
 | true=>
 go_wp2_with fail
 refine (NMT.out W).mono ?_;rintro e W1 ⟨rfl,rfl⟩
 cases n1 with
 | false=>
  obtain rfl:R=false:=HNO.out (.inr (.inl HN1.out));go_wp2
  go_ret
  exact ⟨rfl,HB.out⟩
 | true=>
 by_cases hz:an<1
 · have z1:(an:Int)<1:=by omega
   have z2:an=0:=by omega
   obtain rfl:R=false:=HNO.out (.inr (.inr (.inl (List.length_eq_zero_iff.1 (HA.out.trans z2)))));subst z2;go_wp2
   go_ret
   exact ⟨rfl,HB.out⟩
 have z1:¬ (an:Int)<1:=by omega
 have z2:¬ an=0:=by omega
 have HZ:=hd_ z2;by_cases hz3:60<an
 · have c4:decide ((60:Int)<(an:Int))=true:=decide_eq_true (by omega)
   obtain rfl:R=false:=HNO.out (.inr (.inr (.inr (.inl (by rw [HA.out];exact hz3)))));go_wp2
   go_ret
   exact ⟨rfl,HB.out⟩
 by_cases hz4:60<ar
 · have c4:decide ((60:Int)<(an:Int))=false:=decide_eq_false (by omega)
   have c5:decide ((60:Int)<(ar:Int))=true:=decide_eq_true (by omega);obtain rfl:R=false:=HNO.out (.inr (.inr (.inr (.inr (.inl (by rw [HR.out];exact hz4))))));go_wp2
   go_ret
   exact ⟨rfl,HB.out⟩
 by_cases hz5:60<aj
 · have c4:decide ((60:Int)<(an:Int))=false:=decide_eq_false (by omega)
   have c5:decide ((60:Int)<(ar:Int))=false:=decide_eq_false (by omega);have c6:decide ((60:Int)<(aj:Int))=true:=decide_eq_true (by omega);obtain rfl:R=false:=HNO.out (.inr (.inr (.inr (.inr (.inr (.inl (by rw [HJ.out];exact hz5)))))));go_wp2
   go_ret
   exact ⟨rfl,HB.out⟩
 have c4:decide ((60:Int)<(an:Int))=false:=decide_eq_false (by omega);have c5:decide ((60:Int)<(ar:Int))=false:=decide_eq_false (by omega);have c6:decide ((60:Int)<(aj:Int))=false:=decide_eq_false (by omega);go_wp2_with fail
 clear c4 c5 c6 hz z1 z2;go_loopw [3] (fun i wr=>∃ k:Nat,k≤an∧i = .int .i64 (k:Int)∧Hid (∀ s∈st.take k,stB s=true)∧Hid (Blk wr w.heap.size 30 #[.string fr,.string tn,.slice a1 an c1,.slice a2 ar c2,.slice a3 aj c3])∧Hid (Below w.heap.size w wr)) (fun i _=>an - (intOf i).toNat)
 case atStart=>exact ⟨0,Nat.zero_le _,rfl,hd_ (fun s hs=>by simp at hs),KX,HB⟩
 case round=>
  clear KX HB t0 t1 t2;obtain ⟨k,hk,rfl,HI,KX,HB⟩:=hrel;obtain ⟨t0,t1,t2⟩:=KX.out.all;by_cases hlt:k<an
  · obtain ⟨s,hs⟩:∃ s,st[k]? = some s:=⟨_,List.getElem?_eq_getElem (by rw [HA.out];exact hlt)⟩
    obtain ⟨ga,oa,hA1,hga,p0⟩:=(HH.out.below (HB.out.mono HBB.out)).st k s hs;have hA1:a1=some ⟨ga,oa,none⟩:=hA1;subst hA1;have p0:wr.cell? ⟨ga,oa+k,none⟩=some (.int .i64 s):=p0;have ib0:(0:Int)≤(k:Int):=by omega
    have ib1:(k:Int)<(an:Int):=by omega
    have hbad:stB s=false→R=false:=fun h=>HNO.out (.inr (.inr (.inr (.inr (.inr (.inr (.inl (List.any_eq_true.2 ⟨s,List.mem_of_getElem? hs,by rw [h];rfl⟩))))))));have HBAD:=hd_ hbad;have hst:=fun h=>all_step (p:=fun s=>stB s=true) hs HI.out h;have HST:=hd_ hst;clear hs hbad hst;by_cases hs1:s < -1
    · have c1:decide (s < -1)=true:=decide_eq_true hs1
      obtain rfl:R=false:=HBAD.out (decide_eq_false (by omega));go_wp2
      go_ret
      exact ⟨rfl,HB.out⟩
    have c1:decide (s < -1)=false:=decide_eq_false hs1;by_cases hs2:59<s
    · have c2':decide (59<s)=true:=decide_eq_true hs2
      obtain rfl:R=false:=HBAD.out (decide_eq_false (by omega));go_wp2
      go_ret
      exact ⟨rfl,HB.out⟩
    have c2':decide (59<s)=false:=decide_eq_false hs2;have HI2:=hd_ (HST.out (decide_eq_true (by omega)));clear hs1 hs2;go_wp2
    go_roundw
    case rel=>exact ⟨k+1,by omega,by go_num,HI2,KX,HB⟩
    case measure=>simp [intOf];omega
  · obtain rfl:k=an:=by omega
    have nb:¬ (k:Int)<(k:Int):=by omega
    have HST:Hid (∀ s∈st,stB s=true):=hd_ (by have:=HI.out;rwa [List.take_of_length_le (by rw [HA.out];exact Nat.le_refl _)] at this);go_wp2_with fail
    clear hlt hk nb HI;go_loopw [4] (fun i wr=>∃ k2:Nat,k2≤ar∧i = .int .i64 (k2:Int)∧Hid (∀ r∈rs.take k2,rnB r=true)∧Hid (((rs.take k2).map (·.1)).Nodup)∧Hid (Blk wr w.heap.size 30 #[.string fr,.string tn,.slice a1 k c1,.slice a2 ar c2,.slice a3 aj c3])∧Hid (Below w.heap.size w wr)) (fun i _=>ar - (intOf i).toNat)
    case atStart=>exact ⟨0,Nat.zero_le _,rfl,hd_ (fun s hs=>by simp at hs),hd_ (by simp),KX,HB⟩
    case round=>
     clear KX HB t0 t1 t2;obtain ⟨k2,hk2,rfl,HI,HD,KX,HB⟩:=hrel;obtain ⟨t0,t1,t2⟩:=KX.out.all;by_cases hlt:k2<ar
     · obtain ⟨r,hr⟩:∃ r,rs[k2]? = some r:=⟨_,List.getElem?_eq_getElem (by rw [HR.out];exact hlt)⟩
       obtain ⟨ga,oa,hA2,hga,p0,p1⟩:=(HH.out.below (HB.out.mono HBB.out)).rs k2 r hr;have hA2:a2=some ⟨ga,oa,none⟩:=hA2;subst hA2;have nm:=fun W=>NMR.out W r (List.mem_of_getElem? hr);obtain ⟨r1,r2⟩:=r;have p0:wr.cell? ⟨ga,oa+k2*2,none⟩=some (.string r1):=p0;have p1:wr.cell? ⟨ga,oa+k2*2+1,none⟩=some (.string r2):=p1;simp only at nm;obtain ⟨q1,hq1⟩:∃ q,nmB r1.data.toList=q:=⟨_,rfl⟩;obtain ⟨q2,hq2⟩:∃ q,nmB r2.data.toList=q:=⟨_,rfl⟩;rw [hq1,hq2] at nm;have hrn:rnB (r1,r2)=(q1 && q2):=by rw [← hq1,← hq2];rfl
       have HNM:=hd_ nm;have HQ:=hd_ hrn;have ib0:(0:Int)≤(k2:Int):=by omega
       have ib1:(k2:Int)<(ar:Int):=by omega
       have hbad:rnB (r1,r2)=false→R=false:=fun h=>HNO.out (.inr (.inr (.inr (.inr (.inr (.inr (.inr (.inl (List.any_eq_true.2 ⟨_,List.mem_of_getElem? hr,by rw [h];rfl⟩)))))))));have HBAD:=hd_ hbad;have hst:=fun h=>all_step (p:=fun r=>rnB r=true) hr HI.out h;have HSTP:=hd_ hst;have hnd:=fun h=>nodup_step (f:=(·.1)) hr HD.out h;have HNDP:=hd_ hnd;have HRR:=hd_ hr;clear hr hbad hst hnd nm hq1 hq2 hrn HI HD;go_wp2_with fail
       refine (HNM.out wr).1.mono ?_;rintro e w3 ⟨rfl,rfl⟩
       cases q1 with
       | false=>
        obtain rfl:R=false:=HBAD.out HQ.out;go_wp2
        go_ret
        exact ⟨rfl,HB.out⟩
       | true=>
       go_wp2_with fail
       refine (HNM.out wr).2.mono ?_;rintro e w3 ⟨rfl,rfl⟩
       cases q2 with
       | false=>
        obtain rfl:R=false:=HBAD.out HQ.out;go_wp2
        go_ret
        exact ⟨rfl,HB.out⟩
       | true=>
       have HI2:=hd_ (HSTP.out HQ.out);go_wp2_with fail
       clear p1 t0 t1 t2 HNM HQ HSTP HBAD;have P0:=hd_ p0;clear p0;obtain ⟨ws,rfl⟩:∃ q,q=wr:=⟨wr,rfl⟩;go_loopw [5] (fun i wr=>∃ j:Nat,j≤k2∧i = .int .i64 (j:Int)∧Hid (∀ y∈rs.take j,y.1≠r1)∧Hid (Below ws.heap.size ws wr)) (fun i _=>k2 - (intOf i).toNat)
       case atStart=>exact ⟨0,Nat.zero_le _,rfl,hd_ (fun s hs=>by simp at hs),hd_ (Below.refl _ _)⟩
       case round=>
        obtain ⟨j,hj,rfl,HY,HW⟩:=hrel;by_cases hlj:j<k2
        · obtain ⟨t0,t1,t2⟩:=(KX.out.below HW.out KX.out.lt).all
          obtain ⟨y,hy⟩:∃ y,rs[j]? = some y:=⟨_,List.getElem?_eq_getElem (by rw [HR.out];omega)⟩;obtain ⟨gb,ob,hB2,hgb,r0,-⟩:=(HH.out.below ((HB.out.trans (HW.out.mono HB.out.size)).mono HBB.out)).rs j y hy;injection hB2 with hB2;injection hB2 with e1 e2 e3;subst e1 e2;have p0:=(HW.out.cell (p:=⟨ga,oa+k2*2,none⟩) (Nat.lt_of_lt_of_le hga (Nat.le_trans HBB.out HB.out.size))).trans P0.out;have jb0:(0:Int)≤(j:Int):=by omega
          have jb1:(j:Int)<(ar:Int):=by omega
          have HYY:=hd_ hy;clear e3;by_cases he:y.1=r1
          · obtain rfl:R=false:=HDU.out (.inl (dup_at (f:=(·.1)) HYY.out HRR.out hlj he))
            have d2:(y.1.toList == r1.toList)=true:=by rw [he];simp
            clear he hy;go_wp2_with fail
            go_quiet (fail)
            go_wp2
            go_ret
            exact ⟨rfl,below_drewN (HB.out.trans (HW.out.mono HB.out.size)) nq⟩
          · have d2:=str_no he
            have HY2:=hd_ (all_step (p:=fun y:S2=>y.1≠r1) HYY.out HY.out he);clear he hy;go_wp2_with fail
            go_quiet (fail)
            have HW2:=hd_ (below_drewN HW.out nq);go_wp2
            go_roundw
            case rel=>exact ⟨j+1,by omega,by go_num,HY2,HW2⟩
            case measure=>simp [intOf];omega
        · obtain rfl:j=k2:=by omega
          have nb:¬ (j:Int)<(j:Int):=by omega
          have HD2:=hd_ (HNDP.out HY.out);have KX2:=hd_ (KX.out.below HW.out KX.out.lt);have HB2:=hd_ (HB.out.trans (HW.out.mono HB.out.size));go_wp2
          go_roundw
          case rel=>exact ⟨j+1,by omega,by go_num,HI2,HD2,KX2,HB2⟩
          case measure=>simp [intOf];omega
     · obtain rfl:k2=ar:=by omega
       have nb:¬ (k2:Int)<(k2:Int):=by omega
       have HRT:Hid (∀ r∈rs,rnB r=true):=hd_ (by have:=HI.out;rwa [List.take_of_length_le (by rw [HR.out];exact Nat.le_refl _)] at this);have HRD:Hid ((rs.map (·.1)).Nodup):=hd_ (by have:=HD.out;rwa [List.take_of_length_le (by rw [HR.out];exact Nat.le_refl _)] at this);go_wp2_with fail
       clear hlt hk2 nb HI HD;go_loopw [6] (fun i wr=>∃ k3:Nat,k3≤aj∧i = .int .i64 (k3:Int)∧Hid (∀ t∈ts.take k3,tmB t=true)∧Hid (((ts.take k3).map (·.id)).Nodup)∧Hid (Blk wr w.heap.size 30 #[.string fr,.string tn,.slice a1 k c1,.slice a2 k2 c2,.slice a3 aj c3])∧Hid (Below w.heap.size w wr)) (fun i _=>aj - (intOf i).toNat)
       case atStart=>exact ⟨0,Nat.zero_le _,rfl,hd_ (fun s hs=>by simp at hs),hd_ (by simp),KX,HB⟩
       case round=>
        clear KX HB t0 t1 t2;obtain ⟨k3,hk3,rfl,HI,HD,KX,HB⟩:=hrel;obtain ⟨t0,t1,t2⟩:=KX.out.all;by_cases hlt:k3<aj
        · obtain ⟨t,ht⟩:∃ t,tv[k3]? = some t:=⟨_,List.getElem?_eq_getElem (by rw [HTL.out];exact hlt)⟩
          have hts:ts[k3]? = some t.1:=by rw [← HTV.out,List.getElem?_map,ht];rfl
          obtain ⟨ga,oa,hA3,hga,p0,p1,p2,p3,p4,hL⟩:=(HH.out.below (HB.out.mono HBB.out)).ts k3 t ht;have hA3:a3=some ⟨ga,oa,none⟩:=hA3;subst hA3;obtain ⟨⟨ti,tk,tu,tf,tS⟩,tA,tc⟩:=t;simp only at p0 p1 p2 p3 p4 hL hts;have nm:=fun W=>name_any W ti hL.2.1;obtain ⟨tl,htl⟩:∃ n,tS.length=n:=⟨_,rfl⟩;rw [htl] at p4;obtain ⟨q1,hq1⟩:∃ q,nmB ti.data.toList=q:=⟨_,rfl⟩;obtain ⟨q2,hq2⟩:∃ q,ptB tk tu=q:=⟨_,rfl⟩;obtain ⟨q3,hq3⟩:∃ q,isB tf=q:=⟨_,rfl⟩;rw [hq1] at nm;have hno:=fun h=>tm_no (t:=⟨ti,tk,tu,tf,tS⟩) h;have hye:=fun h1 h2 h3 h4=>tm_yes (t:=⟨ti,tk,tu,tf,tS⟩) h1 h2 h3 h4;simp only at hno hye;rw [hq1,hq2,hq3,htl] at hno hye;have hrt:=fun W=>rTerm_any W tk tu;rw [hq2] at hrt;have hrd:=fun W=>rDay_any W tf;rw [hq3] at hrd;have hbad:tmB ⟨ti,tk,tu,tf,tS⟩=false→R=false:=fun h=>HNO.out (.inr (.inr (.inr (.inr (.inr (.inr (.inr (.inr (List.any_eq_true.2 ⟨_,List.mem_of_getElem? hts,by rw [h];rfl⟩)))))))));have hst:=fun h=>all_step (p:=fun t=>tmB t=true) hts HI.out h;have hnd:=fun h=>nodup_step (f:=(·.id)) hts HD.out h;have HNM:=hd_ nm;have HRT2:=hd_ hrt;have HRDY:=hd_ hrd;have HNT:=hd_ hno;have HYE:=hd_ hye;have HBAD:=hd_ hbad;have HSTP:=hd_ hst;have HNDP:=hd_ hnd;have HTS:=hd_ hts;have ib0:(0:Int)≤(k3:Int):=by omega
          have ib1:(k3:Int)<(aj:Int):=by omega
          have kl:=Blk.new wr 44 #[.string ti,.int .i64 tk,.int .i64 tu,.int .i64 tf,.slice tA tl tc];have bb:=below_self_alloc wr (.cells #[.string ti,.int .i64 tk,.int .i64 tu,.int .i64 tf,.slice tA tl tc] 44);clear ht hL nm htl hq1 hq2 hq3 hno hye hrt hrd hbad hst hnd hts HI HD;go_upto_region 22 with fail
          clear t0 t1 t2 p0 p1 p2 p3 p4;replace KX:=hd_ (KX.out.below bb KX.out.lt);replace HB:=hd_ (HB.out.trans (bb.mono HB.out.size));have KL:=hd_ kl;clear kl bb;generalize wr.alloc (.cells #[.string ti,.int .i64 tk,.int .i64 tu,.int .i64 tf,.slice tA tl tc] 44)=W1 at *;generalize wr.heap.size=gl at *;obtain ⟨s0,s1,s2⟩:=KL.out.all;go_wp2_with fail
          refine (HNM.out W1).mono ?_;rintro e w3 ⟨rfl,rfl⟩
          cases q1 with
          | false=>
           obtain rfl:R=false:=HBAD.out (HNT.out (.inl rfl));go_wp2
           go_ret
           exact ⟨rfl,HB.out⟩
          | true=>
          go_wp2_with fail
          refine (HRT2.out W1).mono ?_;rintro e W2 ⟨rfl,bb⟩;replace KX:=hd_ (KX.out.below bb KX.out.lt);replace KL:=hd_ (KL.out.below bb KL.out.lt);replace HB:=hd_ (HB.out.trans (bb.mono HB.out.size));clear bb s0 s1 s2;obtain ⟨s0,s1,s2⟩:=KL.out.all
          cases q2 with
          | false=>
           obtain rfl:R=false:=HBAD.out (HNT.out (.inr (.inl rfl)));go_wp2
           go_ret
           exact ⟨rfl,HB.out⟩
          | true=>
          go_wp2_with fail
          refine (HRDY.out W2).mono ?_;rintro e w3 ⟨rfl,rfl⟩
          cases q3 with
          | false=>
           obtain rfl:R=false:=HBAD.out (HNT.out (.inr (.inr (.inl rfl))));go_wp2
           go_ret
           exact ⟨rfl,HB.out⟩
          | true=>
          by_cases hl0:tl=0
          case neg=>
           have c1:decide ((0:Int)<(tl:Int))=true:=decide_eq_true (by omega);have c2':decide (0<tl)=true:=decide_eq_true (by omega);obtain rfl:R=false:=HBAD.out (HNT.out (.inr (.inr (.inr hl0))));go_wp2
           go_ret
           exact ⟨rfl,HB.out⟩
          have HI2:=hd_ (HSTP.out (HYE.out (by trivial) (by trivial) (by trivial) hl0));subst hl0;go_wp2_with fail
          clear s0 s1 s2 HNM HRT2 HRDY HNT HYE HBAD HSTP;obtain ⟨ws,rfl⟩:∃ q,q=W2:=⟨W2,rfl⟩;go_loopw [8] (fun i wr=>∃ j:Nat,j≤k3∧i = .int .i64 (j:Int)∧Hid (∀ y∈ts.take j,y.id≠ti)∧Hid (Below ws.heap.size ws wr)) (fun i _=>k3 - (intOf i).toNat)
          case atStart=>exact ⟨0,Nat.zero_le _,rfl,hd_ (fun s hs=>by simp at hs),hd_ (Below.refl _ _)⟩
          case round=>
           obtain ⟨j,hj,rfl,HY,HW⟩:=hrel;by_cases hlj:j<k3
           · obtain ⟨t0,t1,t2⟩:=(KX.out.below HW.out KX.out.lt).all
             obtain ⟨s0,s1,s2⟩:=(KL.out.below HW.out KL.out.lt).all;obtain ⟨y,hy⟩:∃ y,tv[j]? = some y:=⟨_,List.getElem?_eq_getElem (by rw [HTL.out];omega)⟩;have hys:ts[j]? = some y.1:=by rw [← HTV.out,List.getElem?_map,hy];rfl
             obtain ⟨gb,ob,hB2,hgb,r0,-⟩:=(HH.out.below ((HB.out.trans (HW.out.mono HB.out.size)).mono HBB.out)).ts j y hy;injection hB2 with hB2;injection hB2 with e1 e2 e3;subst e1 e2;have jb0:(0:Int)≤(j:Int):=by omega
             have jb1:(j:Int)<(aj:Int):=by omega
             have HYY:=hd_ hys;clear e3 hys hy;by_cases he:y.1.id=ti
             · obtain rfl:R=false:=HDU.out (.inr (dup_at (f:=(·.id)) HYY.out HTS.out hlj he))
               have d2:(y.1.id.toList == ti.toList)=true:=by rw [he];simp
               clear he;go_wp2_with fail
               go_quiet (fail)
               go_wp2
               go_ret
               exact ⟨rfl,below_drewN (HB.out.trans (HW.out.mono HB.out.size)) nq⟩
             · have d2:=str_no he
               have HY2:=hd_ (all_step (p:=fun y:Lm=>y.id≠ti) HYY.out HY.out he);clear he;go_wp2_with fail
               go_quiet (fail)
               have HW2:=hd_ (below_drewN HW.out nq);go_wp2
               go_roundw
               case rel=>exact ⟨j+1,by omega,by go_num,HY2,HW2⟩
               case measure=>simp [intOf];omega
           · obtain rfl:j=k3:=by omega
             have nb:¬ (j:Int)<(j:Int):=by omega
             have HD2:=hd_ (HNDP.out HY.out);have KX2:=hd_ (KX.out.below HW.out KX.out.lt);have HB2:=hd_ (HB.out.trans (HW.out.mono HB.out.size));go_wp2
             go_roundw
             case rel=>exact ⟨j+1,by omega,by go_num,HI2,HD2,KX2,HB2⟩
             case measure=>simp [intOf];omega
        · obtain rfl:k3=aj:=by omega
          have nb:¬ (k3:Int)<(k3:Int):=by omega
          have hR:R=true:=HAL.out HN0.out HN1.out (fun h=>HZ.out (by rw [← HA.out,h];rfl)) (by rw [HA.out];omega) (by rw [HR.out];omega) (by rw [HJ.out];omega) HST.out HRT.out (by have:=HI.out;rwa [List.take_of_length_le (by rw [HJ.out];exact Nat.le_refl _)] at this) HRD.out (by have:=HD.out;rwa [List.take_of_length_le (by rw [HJ.out];exact Nat.le_refl _)] at this);subst hR;go_wp2
          go_ret
          exact ⟨rfl,HB.out⟩
theorem vd_st {g:Mg} {p q:Pc} {s:Int} (hs:s∈g.st) (h:¬ s<(q.ss.length:Int)):vdB g p q=false:=by
 cases hv:vdB g p q with
 | false=>rfl
 | true=>exact absurd ((vdB_iff.1 hv).2.2.2.2.2.2 s hs) h
theorem rvalidG_any (w:World) (B:Nat) (g:Mg) (x:MgX) (h:MgAt w B g x) (hB:B≤w.heap.size) (hs:SmlG g) (p:Pc) (y:PcX) (hp:PcAt w B p y) (hsp:SmlP p) (hcp:p.ss.length≤y.c1) (q:Pc) (z:PcX) (hq:PcAt w B q z) (hsq:SmlP q) (hcq:q.ss.length≤z.c1) :
 Calls Tryz.prog 29 #[.agg (mgC g x),.agg (pcC p y),.agg (pcC q z)] w fun e w'=>e = .returned (.bool (vdB g p q))∧Below w.heap.size w w':=by
 have hno := @vd_no g p q;have hst:=fun s hs h => @vd_st g p q s hs h;have hye := @vdB_iff g p q;obtain ⟨R,hR⟩:∃ R,vdB g p q=R:=⟨_,rfl⟩;rw [hR] at hno hst hye ⊢;have hf:=fun W (hW:Below w.heap.size w W)=>rformedG_any W B g x (h.below (hW.mono hB)) (Nat.le_trans hB hW.size) hs;have hpp:=fun W (hW:Below w.heap.size w W)=>rproper_any W B p y (hp.below (hW.mono hB)) (Nat.le_trans hB hW.size) hsp hcp;have hpq:=fun W (hW:Below w.heap.size w W)=>rproper_any W B q z (hq.below (hW.mono hB)) (Nat.le_trans hB hW.size) hsq hcq;obtain ⟨b0,hb0⟩:∃ R,mgB g=R:=⟨_,rfl⟩;obtain ⟨b1,hb1⟩:∃ R,pcB p=R:=⟨_,rfl⟩;obtain ⟨b2,hb2⟩:∃ R,pcB q=R:=⟨_,rfl⟩;rw [hb0] at hf hno hye;rw [hb1] at hpp hno hye;rw [hb2] at hpq hno hye;have HST:=hd_ h.st;have HSM:=hd_ hs.1;have HBB:=hd_ hB;clear h hp hq hs hsp hsq hcp hcq hR hb0 hb1 hb2 hB;obtain ⟨fr,tn,st,rs,ts⟩:=g;obtain ⟨a1,c1,a2,c2,a3,c3,tv⟩:=x;obtain ⟨pn,pss,pms⟩:=p;obtain ⟨p1,f1,p2,f2⟩:=y;obtain ⟨qn,qss,qms⟩:=q;obtain ⟨q1,h1,q2,h2⟩:=z;obtain ⟨an,e1⟩:∃ k,st.length=k:=⟨_,rfl⟩;obtain ⟨ar,e2⟩:∃ k,rs.length=k:=⟨_,rfl⟩;obtain ⟨aj,e3⟩:∃ k,ts.length=k:=⟨_,rfl⟩;obtain ⟨pl,e4⟩:∃ k,pss.length=k:=⟨_,rfl⟩;obtain ⟨pml,e5⟩:∃ k,pms.length=k:=⟨_,rfl⟩;obtain ⟨ql,e6⟩:∃ k,qss.length=k:=⟨_,rfl⟩;obtain ⟨qml,e7⟩:∃ k,qms.length=k:=⟨_,rfl⟩;have eG:mgC ⟨fr,tn,st,rs,ts⟩ ⟨a1,c1,a2,c2,a3,c3,tv⟩=#[.string fr,.string tn,.slice a1 an c1,.slice a2 ar c2,.slice a3 aj c3]:=by unfold mgC;simp only [e1,e2,e3]
 have eP:pcC ⟨pn,pss,pms⟩ ⟨p1,f1,p2,f2⟩=#[.string pn,.slice p1 pl f1,.slice p2 pml f2]:=by unfold pcC;simp only [e4,e5]
 have eQ:pcC ⟨qn,qss,qms⟩ ⟨q1,h1,q2,h2⟩=#[.string qn,.slice q1 ql h1,.slice q2 qml h2]:=by unfold pcC;simp only [e6,e7]
 simp only at hno hst hye HST HSM;rw [e1,e4] at hno hye;rw [e6] at hst hye;rw [eG] at hf;rw [eP] at hpp;rw [eQ] at hpq;rw [eG,eP,eQ];have HNO:=hd_ hno;have HSN:=hd_ hst;have HYE:=hd_ hye;have HF:=hd_ hf;have HPP:=hd_ hpp;have HPQ:=hd_ hpq;have HA:=hd_ e1;have hb:=((below_self_alloc w (.cells #[.string fr,.string tn,.slice a1 an c1,.slice a2 ar c2,.slice a3 aj c3] 30)).alloc (by simp) (.cells #[.string pn,.slice p1 pl f1,.slice p2 pml f2] 34)).alloc (by simp;omega) (.cells #[.string qn,.slice q1 ql h1,.slice q2 qml h2] 34);have k0:=((Blk.new w 30 #[.string fr,.string tn,.slice a1 an c1,.slice a2 ar c2,.slice a3 aj c3]).alloc (.cells #[.string pn,.slice p1 pl f1,.slice p2 pml f2] 34)).alloc (.cells #[.string qn,.slice q1 ql h1,.slice q2 qml h2] 34);have k1:=(Blk.new1 w (.cells #[.string fr,.string tn,.slice a1 an c1,.slice a2 ar c2,.slice a3 aj c3] 30) 34 #[.string pn,.slice p1 pl f1,.slice p2 pml f2]).alloc (.cells #[.string qn,.slice q1 ql h1,.slice q2 qml h2] 34);have k2:=Blk.new2 w (.cells #[.string fr,.string tn,.slice a1 an c1,.slice a2 ar c2,.slice a3 aj c3] 30) (.cells #[.string pn,.slice p1 pl f1,.slice p2 pml f2] 34) 34 #[.string qn,.slice q1 ql h1,.slice q2 qml h2];have HB:=hd_ hb;have KG:=hd_ k0;have KP:=hd_ k1;have KQ:=hd_ k2;clear hno hst hye hf hpp hpq e1 e2 e3 e4 e5 e6 e7 eG eP eQ hb k0 k1 k2;obtain ⟨t0,t1,t2⟩:=KG.out.all;obtain ⟨u0,u1,u2⟩:=KP.out.all;obtain ⟨v0,v1,v2⟩:=KQ.out.all;go_enter Tryz.func29,Tryz.ntmps29
 go_upto_region 1 with fail
 generalize ((w.alloc (.cells #[.string fr,.string tn,.slice a1 an c1,.slice a2 ar c2,.slice a3 aj c3] 30)).alloc (.cells #[.string pn,.slice p1 pl f1,.slice p2 pml f2] 34)).alloc (.cells #[.string qn,.slice q1 ql h1,.slice q2 qml h2] 34)=W at *;go_wp2_with fail
 refine (HF.out W HB.out).mono ?_;rintro e W1 ⟨rfl,bb⟩;replace KG:=hd_ (KG.out.below bb KG.out.lt);replace KP:=hd_ (KP.out.below bb KP.out.lt);replace KQ:=hd_ (KQ.out.below bb KQ.out.lt);replace HB:=hd_ (HB.out.trans (bb.mono HB.out.size));clear bb t0 t1 t2 u0 u1 u2 v0 v1 v2;obtain ⟨t0,t1,t2⟩:=KG.out.all;obtain ⟨u0,u1,u2⟩:=KP.out.all;obtain ⟨v0,v1,v2⟩:=KQ.out.all
 cases b0 with
 | false=>
  obtain rfl:R=false:=HNO.out (.inl rfl);go_wp2
  go_ret
  exact ⟨rfl,HB.out⟩
 | true=>
 go_wp2_with fail
 refine (HPP.out W1 HB.out).mono ?_;rintro e W2 ⟨rfl,bb⟩;replace KG:=hd_ (KG.out.below bb KG.out.lt);replace KP:=hd_ (KP.out.below bb KP.out.lt);replace KQ:=hd_ (KQ.out.below bb KQ.out.lt);replace HB:=hd_ (HB.out.trans (bb.mono HB.out.size));clear bb t0 t1 t2 u0 u1 u2 v0 v1 v2;obtain ⟨t0,t1,t2⟩:=KG.out.all;obtain ⟨u0,u1,u2⟩:=KP.out.all;obtain ⟨v0,v1,v2⟩:=KQ.out.all
 cases b1 with
 | false=>
  obtain rfl:R=false:=HNO.out (.inr (.inl rfl));go_wp2
  go_ret
  exact ⟨rfl,HB.out⟩
 | true=>
 go_wp2_with fail
 refine (HPQ.out W2 HB.out).mono ?_;rintro e W3 ⟨rfl,bb⟩;replace KG:=hd_ (KG.out.below bb KG.out.lt);replace KP:=hd_ (KP.out.below bb KP.out.lt);replace KQ:=hd_ (KQ.out.below bb KQ.out.lt);replace HB:=hd_ (HB.out.trans (bb.mono HB.out.size));clear bb t0 t1 t2 u0 u1 u2 v0 v1 v2;obtain ⟨t0,t1,t2⟩:=KG.out.all;obtain ⟨u0,u1,u2⟩:=KP.out.all;obtain ⟨v0,v1,v2⟩:=KQ.out.all
 cases b2 with
 | false=>
  obtain rfl:R=false:=HNO.out (.inr (.inr (.inl rfl)));go_wp2
  go_ret
  exact ⟨rfl,HB.out⟩
 | true=>
 by_cases hn:fr=pn
 case neg=>
  have d1:=str_no hn;obtain rfl:R=false:=HNO.out (.inr (.inr (.inr (.inl hn))));clear hn;go_wp2
  go_ret
  exact ⟨rfl,HB.out⟩
 subst hn;by_cases hn:tn=qn
 case neg=>
  have d1:=str_no hn;obtain rfl:R=false:=HNO.out (.inr (.inr (.inr (.inr (.inl hn)))));clear hn;go_wp2
  go_ret
  exact ⟨rfl,HB.out⟩
 subst hn;by_cases hn:an=pl
 case neg=>
  have d1:((an:Int) == (pl:Int))=false:=by simp;omega
  have d2:¬ (an:Int)=(pl:Int):=by omega
  obtain rfl:R=false:=HNO.out (.inr (.inr (.inr (.inr (.inr hn)))));clear hn;go_wp2
  go_ret
  exact ⟨rfl,HB.out⟩
 subst hn;go_wp2_with fail
 go_loopw [7] (fun i wr=>∃ k:Nat,k≤an∧i = .int .i64 (k:Int)∧Hid (∀ s∈st.take k,s<(ql:Int))∧Hid (Below W3.heap.size W3 wr)) (fun i _=>an - (intOf i).toNat)
 case atStart=>exact ⟨0,Nat.zero_le _,rfl,hd_ (fun s hs=>by simp at hs),hd_ (Below.refl _ _)⟩
 case round=>
  clear t0 t1 t2 u0 u1 u2 v0 v1 v2;obtain ⟨k,hk,rfl,HI,HW⟩:=hrel;obtain ⟨t0,t1,t2⟩:=(KG.out.below HW.out KG.out.lt).all;obtain ⟨v0,v1,v2⟩:=(KQ.out.below HW.out KQ.out.lt).all;have HBW:=hd_ (HB.out.trans (HW.out.mono HB.out.size));have hsm:=HSM.out;rw [HA.out] at hsm;by_cases hlt:k<an
  · obtain ⟨s,hs⟩:∃ s,st[k]? = some s:=⟨_,List.getElem?_eq_getElem (by rw [HA.out];exact hlt)⟩
    obtain ⟨ga,oa,hA1,hga,p0⟩:=(HST.out.below (HBW.out.mono HBB.out)) k s hs;have hA1:a1=some ⟨ga,oa,none⟩:=hA1;subst hA1;have p0:wr.cell? ⟨ga,oa+k,none⟩=some (.int .i64 s):=p0;have ib0:(0:Int)≤(k:Int):=by omega
    have ib1:(k:Int)<(an:Int):=by omega
    have HSS:=hd_ hs;clear hs;by_cases hsl:s<(ql:Int)
    · have d1:decide ((ql:Int)≤s)=false:=decide_eq_false (by omega)
      have HI2:=hd_ (all_step (p:=fun s=>s<(ql:Int)) HSS.out HI.out hsl);clear hsl;go_wp2_with fail
      go_quiet (fail)
      have HW2:=hd_ (below_drewN HW.out nq);go_wp2
      go_roundw
      case rel=>exact ⟨k+1,by omega,by go_num,HI2,HW2⟩
      case measure=>simp [intOf];omega
    · have d1:decide ((ql:Int)≤s)=true:=decide_eq_true (by omega)
      obtain rfl:R=false:=HSN.out s (List.mem_of_getElem? HSS.out) (by omega);clear hsl;go_wp2_with fail
      go_quiet (fail)
      go_wp2
      go_ret
      exact ⟨rfl,below_drewN HBW.out nq⟩
  · obtain rfl:k=an:=by omega
    have nb:¬ (k:Int)<(k:Int):=by omega
    have hR:R=true:=HYE.out.2 ⟨by trivial,by trivial,by trivial,by trivial,by trivial,by trivial,by have:=HI.out;rwa [List.take_of_length_le (by rw [HA.out];exact Nat.le_refl _)] at this⟩;subst hR;go_wp2
    go_ret
    exact ⟨rfl,HBW.out⟩
end Go.Proofs.YtknchlpcpgflkaaGreatDoor
