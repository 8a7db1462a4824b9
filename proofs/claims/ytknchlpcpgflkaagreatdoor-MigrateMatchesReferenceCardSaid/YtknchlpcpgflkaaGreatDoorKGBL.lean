import Derived.Test.YtknchlpcpgflkaaGreatDoorKGAL
import Derived.Test.YtknchlpcpgflkaaGreatDoorKGAB
import Derived.Test.YtknchlpcpgflkaaGreatDoorKGBK
set_option maxRecDepth 100000
set_option maxHeartbeats 16000000
namespace Go.Proofs.YtknchlpcpgflkaaGreatDoor
open Go.RowKit Go.Shelf
theorem Tryz.infoBool:(Tryz.prog.info? 4).map (fun i=>(i.zero,i.size,i.bytes))=some (some (Value.bool false),1,1):=by kernel_rfl
theorem blk_bools {w:World} {g:Nat} {v:List Bool} (h:Blk w g 4 (v.map Value.bool).toArray) {i:Nat} {b:Bool} (hi:v[i]? = some b):w.cell? ⟨g,i,none⟩=some (.bool b):=by
 rw [h.cell];simp [hi]
theorem blk_bset {w:World} {g:Nat} {v:List Bool} (h:Blk w g 4 (v.map Value.bool).toArray) (i:Nat) (b:Bool):Blk (w.setCell ⟨g,i,none⟩ (.bool b)) g 4 ((v.set i b).map Value.bool).toArray:=by
 have:=h.set_ i (.bool b);rw [List.setIfInBounds_toArray] at this;rw [List.map_set];exact this
def noMv (ms:List I2) (i:Nat):Bool:=ms.all fun m=>decide (m.1≠(i:Int))
theorem noMv_next {ms:List I2} {j:Nat} {m:I2} (h:ms[j]? = some m) (i:Nat):noMv (ms.take (j+1)) i=(noMv (ms.take j) i && decide (m.1≠(i:Int))):=by
 unfold noMv;rw [List.take_add_one,h,List.all_append];simp
def endV0 (p:Pc):List Bool:=(List.range p.ss.length).map (noMv p.ms)
theorem endV0_len (p:Pc):(endV0 p).length=p.ss.length:=by unfold endV0;rw [List.length_map,List.length_range]
theorem endV0_at {p:Pc} {i:Nat} (h:i<p.ss.length):(endV0 p)[i]? = some (noMv p.ms i):=by unfold endV0;rw [List.getElem?_map,List.getElem?_range h];rfl
theorem endV0_of {p:Pc} {v:List Bool} (hl:v.length=p.ss.length) (h:∀ x,x<p.ss.length→v[x]? = some (noMv p.ms x)):v=endV0 p:=by
 apply List.ext_getElem?;intro i;by_cases hi:i<p.ss.length
 · rw [h i hi,endV0_at hi]
 · rw [List.getElem?_eq_none (by omega),List.getElem?_eq_none (by rw [endV0_len];omega)]
def swpK (ms:List I2) (j:Nat) (v:List Bool):List Bool:=swp (ms.take j) v
theorem swpK_len (ms:List I2) (j:Nat) (v:List Bool):(swpK ms j v).length=v.length:=swp_len _ v
theorem swpK_next {ms:List I2} {j:Nat} {m:I2} (h:ms[j]? = some m) (v:List Bool):swpK ms (j+1) v=swp1 (swpK ms j v) m:=by
 unfold swpK swp;rw [List.take_add_one,h,List.foldl_append];rfl
theorem swpK_all (ms:List I2) (v:List Bool):swpK ms ms.length v=swp ms v:=by unfold swpK;rw [List.take_length]
def endVN (p:Pc):List Bool:=swpN p.ms p.ss.length (endV0 p)
theorem endVN_len (p:Pc):(endVN p).length=p.ss.length:=(swpN_len _ _ _).trans (endV0_len p)
def EndOn (p:Pc) (v:List Bool):Prop:=∀ i:Nat,onAt v i→Ends p (i:Int)
theorem EndOn.one {p:Pc} (hin:MvIn p.ss.length p.ms) {v:List Bool} (h:EndOn p v) {m:I2} (hm:m∈p.ms):EndOn p (swp1 v m):=by
 intro i hi;obtain ⟨⟨h1,-⟩,h2,-⟩:=hin m hm;rcases swp1_only hi with h' | ⟨rfl,h'⟩
 · exact h i h'
 · obtain ⟨t,ht,hr⟩:=h _ h'
   rw [Int.toNat_of_nonneg h2] at hr;rw [Int.toNat_of_nonneg h1];exact ⟨t,ht,.step hm hr⟩
theorem EndOn.round {p:Pc} (hin:MvIn p.ss.length p.ms):∀ (l:List I2) {v:List Bool},(∀ m∈l,m∈p.ms)→EndOn p v→EndOn p (swp l v)
 | [],_,_,h=>h
 | m::l,v,hl,h=>EndOn.round hin l (v:=swp1 v m) (fun x hx=>hl x (List.mem_cons_of_mem _ hx)) (h.one hin (hl m (by simp)))
theorem EndOn.rounds {p:Pc} (hin:MvIn p.ss.length p.ms) {v:List Bool} (h:EndOn p v):∀ k,EndOn p (swpN p.ms k v)
 | 0=>h
 | k+1=>EndOn.round hin p.ms (fun _ h=>h) (EndOn.rounds hin h k)
theorem noMv_iff {ms:List I2} {i:Nat} : noMv ms i=true↔∀ m∈ms,m.1≠(i:Int):=by
 unfold noMv;rw [List.all_eq_true];exact ⟨fun h m hm=>of_decide_eq_true (h m hm),fun h m hm=>decide_eq_true (h m hm)⟩
theorem endVN_at {p:Pc} (hin:MvIn p.ss.length p.ms) {i:Nat} (hi:i<p.ss.length):(endVN p)[i]? = some (endB p (i:Int)):=by
 have key:onAt (endVN p) i↔endB p (i:Int)=true:=by
  rw [endB_iff];constructor
  · refine EndOn.rounds hin ?_ _ i
    intro j hj
    have hjl:j<p.ss.length:=by
     have:=(List.getElem?_eq_some_iff.1 hj).1;rwa [endV0_len] at this
    have h1:some (noMv p.ms j)=some true:=(endV0_at hjl).symm.trans hj;injection h1 with h1;exact ⟨(j:Int),⟨by omega,by omega,noMv_iff.1 h1⟩,.refl _⟩
  · rintro ⟨t,⟨t0,t1,tm⟩,hr⟩
    have hsh:∀ m∈p.ms,onAt (endVN p) m.2.toNat→onAt (endVN p) m.1.toNat:=fun m hm ho=>by
     have:=swpN_shut (ms:=p.ms) (v:=endV0 p) (by rw [endV0_len];exact hin) m hm;rw [endV0_len] at this;exact this ho
    have ht:onAt (endVN p) t.toNat:=swpN_on _ (show (endV0 p)[t.toNat]? = some true by
     rw [endV0_at (by omega),noMv_iff.2 (by rw [Int.toNat_of_nonneg t0];exact tm)]) _
    have:=hr.back (V:=fun x=>0≤x∧onAt (endVN p) x.toNat) (fun m hm h=>⟨(hin m hm).1.1,hsh m hm h.2⟩) ⟨t0,ht⟩;have h2:=this.2;rwa [Int.toNat_natCast] at h2
 obtain ⟨b,hb⟩:∃ b,(endVN p)[i]? = some b:=⟨_,List.getElem?_eq_getElem (by rw [endVN_len];exact hi)⟩;rw [hb]
 congr 1
 rw [Bool.eq_iff_iff,← key];unfold onAt;rw [hb];exact ⟨fun h=>by rw [h],fun h=>by injection h⟩
theorem rends_any (w:World) (B:Nat) (p:Pc) (y:PcX) (h:PcAt w B p y) (hB:B≤w.heap.size) (hin:MvIn p.ss.length p.ms) (z1:p.ss.length≤1000000) (z2:p.ms.length≤1000000) :
 Calls Tryz.prog 65 #[.agg (pcC p y)] w fun e w'=>∃ g,e = .returned (.slice (some ⟨g,0,none⟩) p.ss.length p.ss.length)∧w.heap.size≤g∧Blk w' g 4 ((endVN p).map Value.bool).toArray∧Below w.heap.size w w':=by
 have hms:=h.ms;have hev:=fun v hl hv=>endV0_of (p:=p) (v:=v) hl hv;obtain ⟨E,hE⟩:∃ v,endVN p=v:=⟨_,rfl⟩;have hE2:swpN p.ms p.ss.length (endV0 p)=E:=hE;obtain ⟨V0,hV0⟩:∃ v,endV0 p=v:=⟨_,rfl⟩;have hl0:V0.length=p.ss.length:=by rw [← hV0];exact endV0_len p
 rw [hV0] at hev hE2;rw [hE];clear h hE hV0;obtain ⟨pn,pss,pms⟩:=p;obtain ⟨a1,c1,a2,c2⟩:=y;simp only at hms hev hE2 hl0 z1 z2 hin ⊢;obtain ⟨n,hn⟩:∃ n,pss.length=n:=⟨_,rfl⟩;obtain ⟨M,hM⟩:∃ n,pms.length=n:=⟨_,rfl⟩;have eP:pcC ⟨pn,pss,pms⟩ ⟨a1,c1,a2,c2⟩=#[.string pn,.slice a1 n c1,.slice a2 M c2]:=by unfold pcC;simp only [hn,hM]
 rw [eP];rw [hn] at hev hE2 hl0 z1 hin ⊢;rw [hM] at z2;have mk:=run_make_one (P:=Tryz.prog) 101 4 (.bool false) 1 (by kernel_rfl) Tryz.infoBool rfl (n:Int) n rfl (by omega) (by omega);have hb:=below_self_alloc w (.cells #[.string pn,.slice a1 n c1,.slice a2 M c2] 34);have kx:=Blk.new w 34 #[.string pn,.slice a1 n c1,.slice a2 M c2];have hb1:=hb.alloc hb.size (.cells (Array.replicate n (.bool false)) 4);have kv:=Blk.new1 w (.cells #[.string pn,.slice a1 n c1,.slice a2 M c2] 34) 4 (Array.replicate n (.bool false));have kx1:=kx.alloc (.cells (Array.replicate n (.bool false)) 4);rw [show (Array.replicate n (Value.bool false))=((List.replicate n false).map Value.bool).toArray from by simp] at kv;have HIN:=hd_ hin;have HMS:=hd_ hms;have HEV:=hd_ hev;have HE:=hd_ hE2;have HL0:=hd_ hl0;have HM:=hd_ hM;have HB1:=hd_ hb1;have KX1:=hd_ kx1;have KV:=hd_ kv;obtain ⟨t0,t1,t2⟩:=kx.all;clear hin hms hev hE2 hl0 hn hM hb1 kx1 kv eP;go_enter Tryz.func65,Tryz.ntmps65
 go_upto_region 2 with fail
 clear mk hb kx t0 t1 t2
 try rw [show (w.alloc (.cells #[.string pn,.slice a1 n c1,.slice a2 M c2] 34)).heap.size=w.heap.size+1 from by simp]
 replace KV:Hid (Blk ((w.alloc (.cells #[.string pn,.slice a1 n c1,.slice a2 M c2] 34)).alloc (.cells (Array.replicate n (.bool false)) 4)) (w.heap.size+1) 4 ((List.replicate n false).map Value.bool).toArray):=hd_ (by have:=KV.out;simpa using this);generalize ((w.alloc (.cells #[.string pn,.slice a1 n c1,.slice a2 M c2] 34)).alloc (.cells (Array.replicate n (.bool false)) 4))=W1 at *;go_wp2_with fail
 go_loopg [4] n (fun nn i wr=>∃ (k:Nat) (v:List Bool),k+nn=n∧i = .int .i64 (k:Int)∧Hid (v.length=n)∧Hid (∀ x,x<k→v[x]? = some (noMv pms x))∧Hid (Blk wr w.heap.size 34 #[.string pn,.slice a1 n c1,.slice a2 M c2])∧Hid (Blk wr (w.heap.size+1) 4 (v.map Value.bool).toArray)∧Hid (Below w.heap.size w wr))
 case atStart=>exact ⟨0,_,Nat.zero_add _,rfl,hd_ (by simp),hd_ (fun x hx=>absurd hx (Nat.not_lt_zero x)),KX1,KV,HB1⟩
 case round=>
  clear KX1 KV HB1;obtain ⟨k,v,hk,rfl,HL,HV,KX,KV,HB⟩:=hrel;by_cases hlt:k<n
  · obtain ⟨mm,rfl⟩:∃ m,gk=m+1:=⟨gk - 1,by omega⟩
    have jk:k<n*1:=by omega
    obtain ⟨b0,hb0⟩:∃ b,v[k]? = some b:=⟨_,List.getElem?_eq_getElem (by rw [HL.out];exact hlt)⟩;have qk:=blk_bools KV.out hb0;obtain ⟨v0,v1,v2⟩:=KV.out.all;clear v0 hb0;go_upto_region 6 with fail
    have ho:Only (fun i=>i=w.heap.size+1) wr (wr.setCell ⟨w.heap.size+1,k,none⟩ (.bool true)):=(Only.refl (fun i=>i=w.heap.size+1) wr).setCell (p:=⟨w.heap.size+1,k,none⟩) (.inl rfl) (.bool true);replace HB:=hd_ (HB.out.trans (ho.below HB.out.size (fun i hi=>by omega)));replace KX:=hd_ (ho.blk KX.out (by omega));replace KV:=hd_ (blk_bset KV.out k true);have HL2:Hid ((v.set k true).length=n):=hd_ (by rw [List.length_set];exact HL.out);have HV2:Hid (∀ x,x<k→(v.set k true)[x]? = some (noMv pms x)):=hd_ (fun x hx=>by rw [List.getElem?_set,if_neg (by omega)];exact HV.out x hx);have HK2:Hid ((v.set k true)[k]? = some (noMv (pms.take 0) k)):=hd_ (by rw [List.getElem?_set,if_pos rfl,if_pos (by rw [HL.out];exact hlt)];rfl);clear ho v1 v2 qk HL HV;generalize wr.setCell ⟨w.heap.size+1,k,none⟩ (.bool true)=W2 at *;generalize v.set k true=v at *;go_wp2_with fail
    go_loopg [5] M (fun nn i wr=>∃ (j:Nat) (v:List Bool),j+nn=M∧i = .int .i64 (j:Int)∧Hid (v.length=n)∧Hid (∀ x,x<k→v[x]? = some (noMv pms x))∧Hid (v[k]? = some (noMv (pms.take j) k))∧Hid (Blk wr w.heap.size 34 #[.string pn,.slice a1 n c1,.slice a2 M c2])∧Hid (Blk wr (w.heap.size+1) 4 (v.map Value.bool).toArray)∧Hid (Below w.heap.size w wr))
    case atStart=>exact ⟨0,v,Nat.zero_add _,rfl,HL2,HV2,HK2,KX,KV,HB⟩
    case round=>
     clear KX KV HB HL2 HV2 HK2;obtain ⟨j,v,hj,rfl,HL,HV,HK,KX,KV,HB⟩:=hrel;obtain ⟨t0,t1,t2⟩:=KX.out.all;by_cases hlj:j<M
     · obtain ⟨m2,rfl⟩:∃ m,gk=m+1:=⟨gk - 1,by omega⟩
       obtain ⟨m,hm⟩:∃ m,pms[j]? = some m:=⟨_,List.getElem?_eq_getElem (by rw [HM.out];exact hlj)⟩;obtain ⟨g,off,hA,hg,c0,-⟩:=(HMS.out.below (HB.out.mono hB)) j m hm;subst hA;have hnx:=noMv_next hm k;have ib0:(0:Int)≤(j:Int):=by omega
       have ib1:(j:Int)<(M:Int):=by omega
       by_cases he:m.1=(k:Int)
       · rw [decide_eq_false (fun h=>h he),Bool.and_false] at hnx
         obtain ⟨bk,hbk⟩:∃ b,v[k]? = some b:=⟨_,HK.out⟩;have qk:=blk_bools KV.out hbk;obtain ⟨v0,v1,v2⟩:=KV.out.all;have ho:Only (fun i=>i=w.heap.size+1) wr (wr.setCell ⟨w.heap.size+1,k,none⟩ (.bool false)):=(Only.refl (fun i=>i=w.heap.size+1) wr).setCell (p:=⟨w.heap.size+1,k,none⟩) (.inl rfl) (.bool false);have HB2:=hd_ (HB.out.trans (ho.below HB.out.size (fun i hi=>by omega)));have KX2:=hd_ (ho.blk KX.out (by omega));have KV2:=hd_ (blk_bset KV.out k false);have HL2:Hid ((v.set k false).length=n):=hd_ (by rw [List.length_set];exact HL.out);have HV2:Hid (∀ x,x<k→(v.set k false)[x]? = some (noMv pms x)):=hd_ (fun x hx=>by rw [List.getElem?_set,if_neg (by omega)];exact HV.out x hx);have HK2:Hid ((v.set k false)[k]? = some (noMv (pms.take (j+1)) k)):=hd_ (by rw [hnx,List.getElem?_set,if_pos rfl,if_pos (by rw [HL.out];exact hlt)]);rw [he] at c0;clear ho v0 hnx hm he HL HV HK hbk t1 t2;go_upto_region 10 with fail
         have HLJ:=hd_ hlj;have HJJ:=hd_ hj;have HWJ:Hid (wrap64 ((j:Int)+1)=((j+1:Nat):Int)):=hd_ (by unfold wrap64;omega);clear c0 t0 ib0 ib1 hlj hj hg;have jj:k<n*1:=jk;go_wp2
         go_roundg m2
         case rel=>exact ⟨j+1,_,by have:=HJJ.out;omega,by rw [HWJ.out],HL2,HV2,HK2,KX2,KV2,HB2⟩
         case measure=>omega
       · rw [decide_eq_true he,Bool.and_true] at hnx
         have HK2:Hid (v[k]? = some (noMv (pms.take (j+1)) k)):=hd_ (by rw [hnx];exact HK.out);have d0:(m.1 == (k:Int))=false:=by simpa using he
         clear hnx hm HK;go_wp2
         go_roundg m2
         case rel=>exact ⟨j+1,v,by omega,by go_num,HL,HV,HK2,KX,KV,HB⟩
         case measure=>omega
     · obtain rfl:gk=0:=by omega
       obtain rfl:j=M:=by omega
       have nb:¬ (j:Int)<(j:Int):=by omega
       have HV2:Hid (∀ x,x<k+1→v[x]? = some (noMv pms x)):=hd_ (fun x hx=>by
        by_cases h:x=k
        · rw [h]
          have:=HK.out;rwa [List.take_of_length_le (by rw [HM.out];exact Nat.le_refl _)] at this
        · exact HV.out x (by omega))
       clear HV HK;go_wp2
       go_roundg mm
       case rel=>exact ⟨k+1,v,by omega,by go_num,HL,HV2,KX,KV,HB⟩
       case measure=>omega
  · obtain rfl:gk=0:=by omega
    obtain rfl:k=n:=by omega
    have nb:¬ (k:Int)<(k:Int):=by omega
    obtain rfl:v=V0:=HEV.out v HL.out HV.out;clear HL HV HEV;go_wp2_with fail
    clear nb hlt;go_loopw [6] (fun i wr=>∃ t:Nat,t≤k∧i = .int .i64 (t:Int)∧Hid (Blk wr w.heap.size 34 #[.string pn,.slice a1 k c1,.slice a2 M c2])∧Hid (Blk wr (w.heap.size+1) 4 ((swpN pms t v).map Value.bool).toArray)∧Hid (Below w.heap.size w wr)) (fun i _=>k - (intOf i).toNat)
    case atStart=>exact ⟨0,Nat.zero_le _,rfl,KX,KV,HB⟩
    case round=>
     clear KX KV HB;obtain ⟨t,ht,rfl,KX,KV,HB⟩:=hrel;by_cases hlt:t<k
     · obtain ⟨t0,t1,t2⟩:=KX.out.all
       obtain ⟨u,hu⟩:∃ u,swpN pms t v=u:=⟨_,rfl⟩;have hul:u.length=k:=by rw [← hu,swpN_len];exact HL0.out
       have hun:swpN pms (t+1) v=swpK pms M u:=by rw [← HM.out,swpK_all,← hu];rfl
       rw [hu] at KV;have HUL:=hd_ hul;have HUN:=hd_ hun;clear hu hul hun;go_wp2_with fail
       go_loopw [7] (fun i wr=>∃ j:Nat,j≤M∧i = .int .i64 (j:Int)∧Hid (Blk wr w.heap.size 34 #[.string pn,.slice a1 k c1,.slice a2 M c2])∧Hid (Blk wr (w.heap.size+1) 4 ((swpK pms j u).map Value.bool).toArray)∧Hid (Below w.heap.size w wr)) (fun i _=>M - (intOf i).toNat)
       case atStart=>exact ⟨0,Nat.zero_le _,rfl,KX,KV,HB⟩
       case round=>
        clear KX KV HB t0 t1 t2;obtain ⟨j,hj,rfl,KX,KV,HB⟩:=hrel;obtain ⟨t0,t1,t2⟩:=KX.out.all;by_cases hlj:j<M
        · obtain ⟨m,hm⟩:∃ m,pms[j]? = some m:=⟨_,List.getElem?_eq_getElem (by rw [HM.out];exact hlj)⟩
          obtain ⟨⟨x0,x1⟩,y0,y1⟩:=HIN.out m (List.mem_of_getElem? hm);obtain ⟨g,off,hA,hg,c0,c1'⟩:=(HMS.out.below (HB.out.mono hB)) j m hm;subst hA;have hnx:=swpK_next hm u;obtain ⟨q,hq⟩:∃ q,swpK pms j u=q:=⟨_,rfl⟩;have hql:q.length=k:=by rw [← hq,swpK_len];exact HUL.out
          rw [hq] at hnx KV;obtain ⟨x,y⟩:=m;simp only at x0 x1 y0 y1 c0 c1';obtain ⟨x,rfl⟩:∃ q:Nat,x=(q:Int):=⟨x.toNat,by omega⟩;obtain ⟨y,rfl⟩:∃ q:Nat,y=(q:Int):=⟨y.toNat,by omega⟩;obtain ⟨bx,hbx⟩:∃ b,q[x]? = some b:=⟨_,List.getElem?_eq_getElem (by omega)⟩;obtain ⟨by_,hby⟩:∃ b,q[y]? = some b:=⟨_,List.getElem?_eq_getElem (by omega)⟩
          replace hnx:swpK pms (j+1) u=if by_=true then q.set x true else q:=by
           rw [hnx];unfold swp1;simp only [Int.toNat_natCast,hby,Option.getD_some]
          have HNX:=hd_ hnx;have jx:x<k*1:=by omega
          have jy:y<k*1:=by omega
          have ib0:(0:Int)≤(j:Int):=by omega
          have ib1:(j:Int)<(M:Int):=by omega
          have HBX:=hd_ hbx;have HBY:=hd_ hby;clear hnx hq hm hql hbx hby;go_upto_region 18 with fail
          have KX3:=hd_ (KX.out.alloc (.cells #[.int .i64 (x:Int),.int .i64 (y:Int)] 76));have KV3:=KV.out.alloc (.cells #[.int .i64 (x:Int),.int .i64 (y:Int)] 76);have HB3:=hd_ (HB.out.alloc HB.out.size (.cells #[.int .i64 (x:Int),.int .i64 (y:Int)] 76));have KM:=Blk.new wr 76 #[.int .i64 (x:Int),.int .i64 (y:Int)];obtain ⟨a0,a1',a2'⟩:=KM.all;obtain ⟨v0,v1,v2⟩:=KV3.all;have qx:=blk_bools KV3 HBX.out;have qy:=blk_bools KV3 HBY.out;clear t0 t1 t2 c0 c1' v0 KX KV HB HBX HBY;generalize wr.alloc (.cells #[.int .i64 (x:Int),.int .i64 (y:Int)] 76)=W3 at *;generalize wr.heap.size=gm at *
          cases by_ with
          | true=>
           go_wp2
           have ho:Only (fun i=>i=w.heap.size+1) W3 (W3.setCell ⟨w.heap.size+1,x,none⟩ (.bool true)):=(Only.refl (fun i=>i=w.heap.size+1) W3).setCell (p:=⟨w.heap.size+1,x,none⟩) (.inl rfl) (.bool true);have HB4:=hd_ (HB3.out.trans (ho.below HB3.out.size (fun i hi=>by omega)));have KX4:=hd_ (ho.blk KX3.out (by omega));have KV4:=hd_ (blk_bset KV3 x true);clear ho;go_roundw
           case rel=>exact ⟨j+1,by omega,by go_num,KX4,hd_ (by rw [HNX.out,if_pos rfl];exact KV4.out),HB4⟩
           case measure=>simp [intOf];omega
          | false=>
           have KV4:=hd_ KV3;clear KV3;go_wp2
           go_roundw
           case rel=>exact ⟨j+1,by omega,by go_num,KX3,hd_ (by rw [HNX.out,if_neg (by decide)];exact KV4.out),HB3⟩
           case measure=>simp [intOf];omega
        · obtain rfl:j=M:=by omega
          have nb:¬ (j:Int)<(j:Int):=by omega
          go_wp2
          go_roundw
          case rel=>exact ⟨t+1,by omega,by go_num,KX,hd_ (by rw [HUN.out];exact KV.out),HB⟩
          case measure=>simp [intOf];omega
     · obtain rfl:t=k:=by omega
       have nb:¬ (t:Int)<(t:Int):=by omega
       go_wp2
       go_ret
       exact ⟨_,rfl,by omega,by rw [← HE.out];exact KV.out,HB.out⟩
end Go.Proofs.YtknchlpcpgflkaaGreatDoor
