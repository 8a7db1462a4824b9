import Derived.Test.YtknchlpcpgflkaaGreatDoorKGBL
import Derived.Test.YtknchlpcpgflkaaGreatDoorKGBM
import Derived.Test.YtknchlpcpgflkaaGreatDoorKGBD
import Derived.Test.YtknchlpcpgflkaaGreatDoorKNx
import Derived.Test.YtknchlpcpgflkaaGreatDoorKGBE
set_option maxRecDepth 100000
set_option maxHeartbeats 16000000
namespace Go.Proofs.YtknchlpcpgflkaaGreatDoor
open Go.RowKit Go.Shelf
theorem rstuck_any (w:World) (B:Nat) (g:Mg) (x:MgX) (h:MgAt w B g x) (hB:B≤w.heap.size) (hs:SmlG g) (p:Pc) (y:PcX) (hp:PcAt w B p y) (hsp:SmlP p) (hcp:p.ss.length≤y.c1) (q:Pc) (z:PcX) (hq:PcAt w B q z) (hsq:SmlP q) (hcq:q.ss.length≤z.c1) :
 Calls Tryz.prog 30 #[.agg (mgC g x),.agg (pcC p y),.agg (pcC q z)] w fun e w'=>∃ A c,e = .returned (.slice A (stuckL g p q).length c)∧IntsAt w' w'.heap.size A (stuckL g p q)∧Below w.heap.size w w':=by
 obtain ⟨i0,hi0,hz0,hz1,hz2⟩:=info_parts Tryz.infoInt;have hva:=fun W (hW:Below w.heap.size w W)=>rvalidG_any W B g x (h.below (hW.mono hB)) (Nat.le_trans hB hW.size) hs p y (hp.below (hW.mono hB)) hsp hcp q z (hq.below (hW.mono hB)) hsq hcq
 have hin:vdB g p q=true→MvIn p.ss.length p.ms∧MvIn q.ss.length q.ms∧g.st.length=p.ss.length∧∀ s∈g.st,s<(q.ss.length:Int):=fun hv=>by
  obtain ⟨-,h1,h2,-,-,h3,h4⟩:=vdB_iff.1 hv;exact ⟨pc_in h1,pc_in h2,h3,h4⟩
 have he1:=fun (hi:MvIn p.ss.length p.ms) W (hW:Below w.heap.size w W)=>rends_any W B p y (hp.below (hW.mono hB)) (Nat.le_trans hB hW.size) hi hsp.1 hsp.2;have he2:=fun (hi:MvIn q.ss.length q.ms) W (hW:Below w.heap.size w W)=>rends_any W B q z (hq.below (hW.mono hB)) (Nat.le_trans hB hW.size) hi hsq.1 hsq.2;have hv1:=fun (hi:MvIn p.ss.length p.ms) i=>endVN_at (p:=p) hi (i:=i);have hv2:=fun (hi:MvIn q.ss.length q.ms) i=>endVN_at (p:=q) hi (i:=i);have hnx:=fun k=>show stuckTo g p q (k+1)=stuckTo g p q k++if stkB g p q k=true then [(k:Int)] else [] from rfl
 have hsk:∀ k s,g.st[k]? = some s→stkB g p q k=(decide (0≤s) && (endB p (k:Int) && !endB q s)):=fun k s hk=>by
  unfold stkB;rw [show newSt g (k:Int)=s from by unfold newSt;rw [Int.toNat_natCast,hk];rfl]
 have hln:=fun k=>stuckTo_len g p q k;obtain ⟨V,hV⟩:∃ v,vdB g p q=v:=⟨_,rfl⟩;obtain ⟨L0,hL0⟩:∃ v,stuckL g p q=v:=⟨_,rfl⟩;rw [hL0];unfold stuckL at hL0;rw [hV] at hva hin hL0;have hzero:stuckTo g p q 0=[]:=rfl;obtain ⟨ST,hST⟩:∃ f,stuckTo g p q=f:=⟨_,rfl⟩;rw [hST] at hnx hln hL0 hzero;obtain ⟨EP,hEP⟩:∃ v,endVN p=v:=⟨_,rfl⟩;obtain ⟨EQ,hEQ⟩:∃ v,endVN q=v:=⟨_,rfl⟩;rw [hEP] at he1 hv1;rw [hEQ] at he2 hv2;obtain ⟨SB,hSB⟩:∃ f,stkB g p q=f:=⟨_,rfl⟩;rw [hSB] at hnx hsk;obtain ⟨BP,hBP⟩:∃ f,endB p=f:=⟨_,rfl⟩;obtain ⟨BQ,hBQ⟩:∃ f,endB q=f:=⟨_,rfl⟩;rw [hBP] at hsk hv1;rw [hBQ] at hsk hv2;have HST:=hd_ h.st;have HSM:=hd_ hs.1;have HBB:=hd_ hB;clear h hp hq hs hsp hsq hcp hcq hB hV hST hEP hEQ hSB hBP hBQ;obtain ⟨fr,tn,st,rs,ts⟩:=g;obtain ⟨a1,c1,a2,c2,a3,c3,tv⟩:=x;obtain ⟨pn,pss,pms⟩:=p;obtain ⟨p1,f1,p2,f2⟩:=y;obtain ⟨qn,qss,qms⟩:=q;obtain ⟨q1,h1,q2,h2⟩:=z;obtain ⟨an,e1⟩:∃ k,st.length=k:=⟨_,rfl⟩;obtain ⟨ar,e2⟩:∃ k,rs.length=k:=⟨_,rfl⟩;obtain ⟨aj,e3⟩:∃ k,ts.length=k:=⟨_,rfl⟩;obtain ⟨pl,e4⟩:∃ k,pss.length=k:=⟨_,rfl⟩;obtain ⟨pml,e5⟩:∃ k,pms.length=k:=⟨_,rfl⟩;obtain ⟨ql,e6⟩:∃ k,qss.length=k:=⟨_,rfl⟩;obtain ⟨qml,e7⟩:∃ k,qms.length=k:=⟨_,rfl⟩;have eG:mgC ⟨fr,tn,st,rs,ts⟩ ⟨a1,c1,a2,c2,a3,c3,tv⟩=#[.string fr,.string tn,.slice a1 an c1,.slice a2 ar c2,.slice a3 aj c3]:=by unfold mgC;simp only [e1,e2,e3]
 have eP:pcC ⟨pn,pss,pms⟩ ⟨p1,f1,p2,f2⟩=#[.string pn,.slice p1 pl f1,.slice p2 pml f2]:=by unfold pcC;simp only [e4,e5]
 have eQ:pcC ⟨qn,qss,qms⟩ ⟨q1,h1,q2,h2⟩=#[.string qn,.slice q1 ql h1,.slice q2 qml h2]:=by unfold pcC;simp only [e6,e7]
 simp only at hin he1 he2 hv1 hv2 hsk hL0 HST HSM;rw [e1,e4,e6] at hin;rw [e1] at hL0 HSM;rw [e4] at he1 hv1;rw [e6] at he2 hv2;rw [eG,eP,eQ] at hva;rw [eP] at he1;rw [eQ] at he2;rw [eG,eP,eQ];have HVA:=hd_ hva;have HIN:=hd_ hin;have HE1:=hd_ he1;have HE2:=hd_ he2;have HV1:=hd_ hv1;have HV2:=hd_ hv2;have HNX:=hd_ hnx;have HSK:=hd_ hsk;have HLN:=hd_ hln;have HL0:=hd_ hL0;have HZ:=hd_ hzero;have HA:=hd_ e1;have hb:=((below_self_alloc w (.cells #[.string fr,.string tn,.slice a1 an c1,.slice a2 ar c2,.slice a3 aj c3] 30)).alloc (by simp) (.cells #[.string pn,.slice p1 pl f1,.slice p2 pml f2] 34)).alloc (by simp;omega) (.cells #[.string qn,.slice q1 ql h1,.slice q2 qml h2] 34);have k0:=((Blk.new w 30 #[.string fr,.string tn,.slice a1 an c1,.slice a2 ar c2,.slice a3 aj c3]).alloc (.cells #[.string pn,.slice p1 pl f1,.slice p2 pml f2] 34)).alloc (.cells #[.string qn,.slice q1 ql h1,.slice q2 qml h2] 34);have k1:=(Blk.new1 w (.cells #[.string fr,.string tn,.slice a1 an c1,.slice a2 ar c2,.slice a3 aj c3] 30) 34 #[.string pn,.slice p1 pl f1,.slice p2 pml f2]).alloc (.cells #[.string qn,.slice q1 ql h1,.slice q2 qml h2] 34);have k2:=Blk.new2 w (.cells #[.string fr,.string tn,.slice a1 an c1,.slice a2 ar c2,.slice a3 aj c3] 30) (.cells #[.string pn,.slice p1 pl f1,.slice p2 pml f2] 34) 34 #[.string qn,.slice q1 ql h1,.slice q2 qml h2];have HB:=hd_ hb;have KG:=hd_ k0;have KP:=hd_ k1;have KQ:=hd_ k2;clear hva hin he1 he2 hv1 hv2 hnx hsk hln hL0 hzero e1 e2 e3 e4 e5 e6 e7 eG eP eQ hb k0 k1 k2;obtain ⟨t0,t1,t2⟩:=KG.out.all;obtain ⟨u0,u1,u2⟩:=KP.out.all;obtain ⟨v0,v1,v2⟩:=KQ.out.all;go_enter Tryz.func30,Tryz.ntmps30
 go_upto_region 1 with fail
 generalize ((w.alloc (.cells #[.string fr,.string tn,.slice a1 an c1,.slice a2 ar c2,.slice a3 aj c3] 30)).alloc (.cells #[.string pn,.slice p1 pl f1,.slice p2 pml f2] 34)).alloc (.cells #[.string qn,.slice q1 ql h1,.slice q2 qml h2] 34)=W at *;go_wp2_with fail
 refine (HVA.out W HB.out).mono ?_;rintro e W1 ⟨rfl,bb⟩;replace KG:=hd_ (KG.out.below bb KG.out.lt);replace KP:=hd_ (KP.out.below bb KP.out.lt);replace KQ:=hd_ (KQ.out.below bb KQ.out.lt);replace HB:=hd_ (HB.out.trans (bb.mono HB.out.size));clear bb t0 t1 t2 u0 u1 u2 v0 v1 v2;obtain ⟨t0,t1,t2⟩:=KG.out.all;obtain ⟨u0,u1,u2⟩:=KP.out.all;obtain ⟨v0,v1,v2⟩:=KQ.out.all
 cases V with
 | false=>
  have hl:L0=[]:=HL0.out.symm;subst hl;go_wp2
  go_ret
  exact ⟨none,0,rfl,fun i x hi=>by simp at hi,HB.out⟩
 | true=>
 obtain ⟨hi1,hi2,hi3,hi4⟩:=HIN.out (by trivial);obtain rfl:an=pl:=hi3;have HI4:=hd_ hi4;have C1:=hd_ (HE1.out hi1);have C2:=hd_ (HE2.out hi2);have D1:=hd_ (HV1.out hi1);have D2:=hd_ (HV2.out hi2);clear hi1 hi2 hi4 HE1 HE2 HV1 HV2 HIN;go_wp2_with fail
 refine (C1.out W1 HB.out).mono ?_;rintro e W2 ⟨go_,rfl,hgo,kgo,bb⟩;have KO:=hd_ kgo;clear kgo;replace KG:=hd_ (KG.out.below bb KG.out.lt);replace KP:=hd_ (KP.out.below bb KP.out.lt);replace KQ:=hd_ (KQ.out.below bb KQ.out.lt);replace HB:=hd_ (HB.out.trans (bb.mono HB.out.size));clear bb t0 t1 t2 u0 u1 u2 v0 v1 v2;obtain ⟨t0,t1,t2⟩:=KG.out.all;obtain ⟨u0,u1,u2⟩:=KP.out.all;obtain ⟨v0,v1,v2⟩:=KQ.out.all;go_wp2_with fail
 refine (C2.out W2 HB.out).mono ?_;rintro e W4 ⟨gn,rfl,hgn,kgn,bb⟩;have KN:=hd_ kgn;replace KO:=hd_ (KO.out.below bb KO.out.lt);clear kgn;replace KG:=hd_ (KG.out.below bb KG.out.lt);replace KP:=hd_ (KP.out.below bb KP.out.lt);replace KQ:=hd_ (KQ.out.below bb KQ.out.lt);replace HB:=hd_ (HB.out.trans (bb.mono HB.out.size));clear bb t0 t1 t2 u0 u1 u2 v0 v1 v2;obtain ⟨t0,t1,t2⟩:=KG.out.all;obtain ⟨u0,u1,u2⟩:=KP.out.all;obtain ⟨v0,v1,v2⟩:=KQ.out.all;have hsm:=HSM.out;go_wp2_with fail
 clear C1 C2 hgo hgn;go_loopg [7,10] an (fun nn a i wr=>∃ (k:Nat) (A:Option Addr) (c:Nat),k+nn=an∧a = .slice A (ST k).length c∧i = .int .i64 (k:Int)∧Hid (wr.ownsRow W4.heap.size 3 1 (.slice A (ST k).length c) (ST k).length (intCells (ST k)))∧Hid (Below W4.heap.size W4 wr))
 case atStart=>exact ⟨0,none,0,Nat.zero_add _,by rw [HZ.out];rfl,rfl,hd_ (by rw [HZ.out];exact World.ownsRow_nil _ _ _ _),hd_ (Below.refl _ _)⟩
 case round=>
  clear t0 t1 t2 u0 u1 u2 v0 v1 v2;obtain ⟨k,A,c,hk,rfl,rfl,OW,HW⟩:=hrel;obtain ⟨t0,t1,t2⟩:=(KG.out.below HW.out KG.out.lt).all;have hLk:=HLN.out k;by_cases hlt:k<an
  · obtain ⟨mm,rfl⟩:∃ m,gk=m+1:=⟨gk - 1,by omega⟩
    obtain ⟨s,hs⟩:∃ s,st[k]? = some s:=⟨_,List.getElem?_eq_getElem (by rw [HA.out];exact hlt)⟩;obtain ⟨ga,oa,hA1,hga,p0⟩:=(HST.out.below ((HB.out.trans (HW.out.mono HB.out.size)).mono HBB.out)) k s hs;have hA1:a1=some ⟨ga,oa,none⟩:=hA1;subst hA1;have p0:wr.cell? ⟨ga,oa+k,none⟩=some (.int .i64 s):=p0;have hsq:=HI4.out s (List.mem_of_getElem? hs);have hnx:=HNX.out k;rw [HSK.out k s hs] at hnx;obtain ⟨r4,hr4⟩:∃ r,BP (k:Int)=r:=⟨_,rfl⟩;have qo:=blk_bools (KO.out.below HW.out KO.out.lt) ((D1.out k hlt).trans (by rw [hr4]));rw [hr4] at hnx;have ib0:(0:Int)≤(k:Int):=by omega
    have ib1:(k:Int)<(an:Int):=by omega
    have jk:k<an*1:=by omega
    obtain ⟨L,hL⟩:∃ L,ST k=L:=⟨_,rfl⟩;rw [hL] at hnx OW hLk ⊢;have HNX0:=hd_ hnx;clear hs hnx hL hr4;by_cases hs0:0≤s
    case neg=>
     have d0:decide (0≤s)=false:=decide_eq_false hs0;have hnx:=HNX0.out;rw [d0,Bool.false_and,if_neg (by decide),List.append_nil] at hnx;have HNX:=hd_ hnx;clear hnx hs0;go_wp2
     go_roundg mm
     case rel=>exact ⟨k+1,A,c,by omega,by rw [HNX.out],by go_num,hd_ (by rw [HNX.out];exact OW.out),HW⟩
     case measure=>omega
    have d0:decide (0≤s)=true:=decide_eq_true hs0
    cases r4 with
    | false=>
     have hnx:=HNX0.out;rw [Bool.false_and,Bool.and_false,if_neg (by decide),List.append_nil] at hnx;have HNX:=hd_ hnx;clear hnx;go_wp2
     go_roundg mm
     case rel=>exact ⟨k+1,A,c,by omega,by rw [HNX.out],by go_num,hd_ (by rw [HNX.out];exact OW.out),HW⟩
     case measure=>omega
    | true=>
    obtain ⟨sn,rfl⟩:∃ n:Nat,s=(n:Int):=⟨s.toNat,by omega⟩;have hsn:sn<ql:=by omega
    obtain ⟨r5,hr5⟩:∃ r,BQ (sn:Int)=r:=⟨_,rfl⟩;have qn':=blk_bools (KN.out.below HW.out KN.out.lt) ((D2.out sn hsn).trans (by rw [hr5]));have js:sn<ql*1:=by omega
    have hnx:=HNX0.out;rw [d0,hr5] at hnx;clear hr5
    cases r5 with
    | true=>
     rw [Bool.not_true,Bool.and_false,Bool.and_false,if_neg (by decide),List.append_nil] at hnx;have HNX:=hd_ hnx;clear hnx;go_wp2
     go_roundg mm
     case rel=>exact ⟨k+1,A,c,by omega,by rw [HNX.out],by go_num,hd_ (by rw [HNX.out];exact OW.out),HW⟩
     case measure=>omega
    | false=>
     have hnx:ST (k+1)=L++[(k:Int)]:=hnx;have HNX:=hd_ hnx;have kn:=Blk.new wr 3 #[.int .i64 (k:Int)];have own3:=OW.out.alloc (.cells #[.int .i64 (k:Int)] 3);have o3:=HW.out.alloc HW.out.size (.cells #[.int .i64 (k:Int)] 3);have hsz:=o3.size;have O3:=hd_ o3;clear o3 hnx;go_wp2_with (at_builtin;refine wpList_append_lies _ rfl _ _ 22 rfl W4.heap.size 3 i0 _ 1 8 Tryz.underlying22 hi0 hz0 hz1 hz2 rfl (by omega) (.slice A L.length c) L.length _ rfl own3 ⟨wr.heap.size,0,none⟩ 1 1 [.int .i64 (k:Int)] rfl rfl (World.news_of_block kn) (intCells_one [(k:Int)]) (by omega) (by unfold maxLen;omega) (by omega) (by omega) _ rfl ?_;intro gz cz Y own4 gr4 l4 z4)
     have o4:=O3.out.grown gr4 O3.out.size (fun i hi=>(World.ownsRow.lt own3 i hi).1);have OW4:=hd_ own4;have O4:=hd_ o4;clear o4 own4 own3 gr4 l4 kn;go_wp2
     go_roundg mm
     case rel=>exact ⟨k+1,_,_,by omega,by rw [HNX.out,List.length_append];rfl,by go_num,hd_ (by rw [HNX.out,List.length_append,intCells_app];exact OW4.out),O4⟩
     case measure=>omega
  · obtain rfl:gk=0:=by omega
    obtain rfl:k=an:=by omega
    have nb:¬ (k:Int)<(k:Int):=by omega
    have hl:L0=ST k:=HL0.out.symm;subst hl;go_wp2
    go_ret
    have hown:=OW.out;exact ⟨A,⟨c,rfl⟩,IntsAt.of_row rfl hown,HB.out.trans (HW.out.mono HB.out.size)⟩
structure RtS (w W:World) (Ca Cb:Array Value) (bo:Nat) (C:Array Value) (vs:Value) (n:Nat) (ss:List Int) (vr:Value) (k:Nat) (rr:List S2) (vl:Value) (J:Nat) (lv:List LmV):Prop where
 th:ThS w W Ca Cb bo C vs n ss vr k rr vl J lv
 k6:Blk W (w.heap.size+1+1+1) 30 Z5
 lo:w.heap.size+1+1+1<bo
section
variable {w W W' : World} {Ca Cb C : Array Value} {bo n k J : Nat} {ss : List Int} {rr : List S2} {vs vr vl : Value} {lv : List LmV}
theorem RtS.below (h:RtS w W Ca Cb bo C vs n ss vr k rr vl J lv) (hb:Below W.heap.size W W'):RtS w W' Ca Cb bo C vs n ss vr k rr vl J lv:=⟨h.th.below hb,h.k6.below hb h.k6.lt,h.lo⟩
theorem RtS.right {v':Value} {k':Nat} {rr':List S2} (h:RtS w W Ca Cb bo C vs n ss vr k rr vl J lv) (o:W'.ownsRow w.heap.size 75 2 v' k' (prCells rr')) (hg:W.grownBy W' vr.ownBlock):RtS w W' Ca Cb bo C vs n ss v' k' rr' vl J lv:=
 ⟨h.th.right o hg,(Only.of_grown hg).blk h.k6 (own_blk_ne h.th.or_ h.k6 (by decide)),h.lo⟩
theorem RtS.set (h:RtS w W Ca Cb bo C vs n ss vr k rr vl J lv) (i:Nat) (v:Value):RtS w (W.setCell ⟨bo,i,none⟩ v) Ca Cb bo (C.setIfInBounds i v) vs n ss vr k rr vl J lv:=by
 have hlo:=h.lo;exact ⟨h.th.set i v,(only_set3 (W:=W) (g:=bo) (i:=i) (v:=v)).blk h.k6 (by omega),h.lo⟩
theorem RtS.stage {v':Value} {n':Nat} {ss':List Int} (h:RtS w W Ca Cb bo C vs n ss vr k rr vl J lv) (o:W'.ownsRow w.heap.size 3 1 v' n' (intCells ss')) (hg:W.grownBy W' vs.ownBlock):RtS w W' Ca Cb bo C v' n' ss' vr k rr vl J lv:=by
 have hO:=Only.of_grown hg;have t:=h.th;exact ⟨⟨t.hb.trans (hO.below t.hb.size (fun i hi=>(t.os.lt i hi).1)),hO.blk t.ka (own_blk_ne t.os t.ka (by decide)),hO.blk t.kb (own_blk_ne t.os t.kb (by decide)),hO.blk t.kz (own_blk_ne t.os t.kz (by decide)),hO.blk t.ko (own_blk_ne t.os t.ko (by decide)),o,hO.owns t.or_ (fun b hb f=>own_own_ne t.or_ t.os (by decide) hb f),hO.owns t.ol (fun b hb f=>own_own_ne t.ol t.os (by decide) hb f),t.lo⟩,hO.blk h.k6 (own_blk_ne t.os h.k6 (by decide)),h.lo⟩
theorem RtS.lims {v':Value} {J':Nat} {lv':List LmV} (h:RtS w W Ca Cb bo C vs n ss vr k rr vl J lv) (o:W'.ownsRow w.heap.size 44 5 v' J' (lmCells lv')) (hg:W.grownBy W' vl.ownBlock):RtS w W' Ca Cb bo C vs n ss vr k rr v' J' lv':=by
 have hO:=Only.of_grown hg;have t:=h.th;exact ⟨⟨t.hb.trans (hO.below t.hb.size (fun i hi=>(t.ol.lt i hi).1)),hO.blk t.ka (own_blk_ne t.ol t.ka (by decide)),hO.blk t.kb (own_blk_ne t.ol t.kb (by decide)),hO.blk t.kz (own_blk_ne t.ol t.kz (by decide)),hO.blk t.ko (own_blk_ne t.ol t.ko (by decide)),hO.owns t.os (fun b hb f=>own_own_ne t.os t.ol (by decide) hb f),hO.owns t.or_ (fun b hb f=>own_own_ne t.or_ t.ol (by decide) hb f),o,t.lo⟩,hO.blk h.k6 (own_blk_ne t.ol h.k6 (by decide)),h.lo⟩
end
theorem ids_both {a b:Mg} (ha:mgB a=true) (hb:mgB b=true):((a.ts++b.ts).map (·.id)).Nodup↔∀ t∈b.ts,termI a.ts t.id = -1:=by
 have h1:=(difB_iff.1 (mgB_iff.1 ha).2.2.2.2.2).2.1;have h2:=(difB_iff.1 (mgB_iff.1 hb).2.2.2.2.2).2.1;rw [List.map_append,List.nodup_append]
 have key:∀ n:ByteArray,termI a.ts n = -1↔n∉a.ts.map (·.id):=fun n=>by
  constructor
  · intro h hn
    obtain ⟨t,ht,rfl⟩:=List.mem_map.1 hn;unfold termI at h
    cases hf:a.ts.findIdx? fun x=>decide (x.id=t.id) with
    | none=>
     have:=List.findIdx?_eq_none_iff.1 hf t ht;simp at this
    | some i=>rw [hf] at h;simp only at h;omega
  · intro h
    exact termI_no fun r hr he=>h (he▸List.mem_map.2 ⟨r,hr,rfl⟩)
 constructor
 · rintro ⟨-,-,h⟩ t ht
   exact (key _).2 fun hn=>h _ hn _ (List.mem_map.2 ⟨t,ht,rfl⟩) rfl
 · intro h
   refine ⟨h1,h2,fun x hx y hy he=>?_⟩;obtain ⟨t,ht,rfl⟩:=List.mem_map.1 hy;exact (key _).1 (h t ht) (he▸hx)
theorem termI_neg {ts:List Lm} {n:ByteArray} : termI ts n = -1∨0≤termI ts n:=by
 unfold termI
 cases ts.findIdx? fun t=>decide (t.id=n) with
 | none=>exact .inl rfl
 | some i=>exact .inr (by simp only;omega)
end Go.Proofs.YtknchlpcpgflkaaGreatDoor
