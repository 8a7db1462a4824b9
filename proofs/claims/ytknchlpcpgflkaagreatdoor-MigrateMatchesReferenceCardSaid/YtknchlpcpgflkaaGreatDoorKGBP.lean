import Derived.Test.YtknchlpcpgflkaaGreatDoorKGBG
import Derived.Test.YtknchlpcpgflkaaGreatDoorKGAZ
import Derived.Test.YtknchlpcpgflkaaGreatDoorKGBE
import Derived.Test.YtknchlpcpgflkaaGreatDoorKGAT
set_option maxRecDepth 100000
set_option maxHeartbeats 16000000
namespace Go.Proofs.YtknchlpcpgflkaaGreatDoor
open Go.RowKit Go.Shelf
def IsB (t:TypeId) (n:Nat) (w:World) (g:Nat):Prop:=∃ cs,Blk w g t cs∧cs.size=n
def FinB (t:TypeId) (Fin:Array Value→Prop) (w:World) (g:Nat):Prop:=∃ cs,Fin cs∧Blk w g t cs
structure RX (base:Nat) (t:TypeId) (n:Nat) (Fin:Array Value→Prop) (w w':World):Prop where
 only:Only (fun i=>base≤i∧IsB t n w i) w w'
 is_:∀ g,IsB t n w g→IsB t n w' g
 fin:∀ g,FinB t Fin w g→FinB t Fin w' g
section
variable {base n : Nat} {t : TypeId} {Fin : Array Value → Prop} {w w' : World}
theorem RX.of_below (h:Below w.heap.size w w'):RX base t n Fin w w' where
 only:=Only.of_below h _
 is_ g hg:=by
  obtain ⟨cs,h1,h2⟩:=hg;exact ⟨cs,h1.below h h1.lt,h2⟩
 fin g hg:=by
  obtain ⟨cs,h1,h2⟩:=hg;exact ⟨cs,h1,h2.below h h2.lt⟩
theorem RX.store {g:Nat} {cs:Array Value} (hg:base≤g) (hm:IsB t n w g) (ho:Only (fun i=>i=g) w w') (hk:Blk w' g t cs) (hn:cs.size=n) (hf:Fin cs):RX base t n Fin w w'∧FinB t Fin w' g:=by
 refine ⟨⟨ho.mono (fun i hi=>by subst hi;exact ⟨hg,hm⟩),fun i hi=>?_,fun i hi=>?_⟩,cs,hf,hk⟩
 · by_cases he:i=g
   · subst he;exact ⟨_,hk,hn⟩
   · obtain ⟨c,h1,h2⟩:=hi
     exact ⟨c,ho.blk h1 he,h2⟩
 · by_cases he:i=g
   · subst he;exact ⟨_,hf,hk⟩
   · obtain ⟨c,h1,h2⟩:=hi
     exact ⟨c,h1,ho.blk h2 he⟩
end
def ptrX (base:Nat) (t:TypeId) (n:Nat):Phi:=⟨none,fun _ v w=>∃ g,v = .pointer (some ⟨g,0,none⟩)∧base≤g∧IsB t n w g⟩
def finX (base:Nat) (t:TypeId) (Fin:Array Value→Prop) (i:Nat):Phi:=⟨some i,fun x _ w=>∃ g,x = .pointer (some ⟨g,0,none⟩)∧base≤g∧FinB t Fin w g⟩
def pV (K:Value→Prop):Phi:=⟨none,fun _ v _=>K v⟩
section
variable (base : Nat) (t : TypeId) (n : Nat) (Fin : Array Value → Prop)
theorem ptrX_mono:∀ x v w w',RX base t n Fin w w'→(ptrX base t n).p x v w→(ptrX base t n).p x v w':=fun _ _ _ _ hr ⟨g,h1,h2,h3⟩=>⟨g,h1,h2,hr.is_ g h3⟩
theorem finX_mono (i:Nat):∀ x v w w',RX base t n Fin w w'→(finX base t Fin i).p x v w→(finX base t Fin i).p x v w':=fun _ _ _ _ hr ⟨g,h1,h2,h3⟩=>⟨g,h1,h2,hr.fin g h3⟩
theorem pV_mono (K:Value→Prop) {R:World→World→Prop} : ∀ x v w w',R w w'→(pV K).p x v w→(pV K).p x v w':=fun _ _ _ _ _ h=>h
end
theorem one2 {a:ByteArray} {n:Int} : (#[.string a,.int .i64 n]:Array Value).all (·.oneCell')=true:=by simp [Value.oneCell']
theorem one5L {a:ByteArray} {n u f:Int} {A:Option Addr} {m c:Nat} : (#[.string a,.int .i64 n,.int .i64 u,.int .i64 f,.slice A m c]:Array Value).all (·.oneCell')=true:=by simp [Value.oneCell']
theorem wp_rowR {ops:Array Oper} {rest:List Oper} {o:Oper} {a:Act} {W:World} {Q:Exit→Act→World→Prop} (hgd:o.guard=none) (x y:Operand) (ho:o.op = .store 56 x y) (g:Nat) (C:Array Value)
 (hx:a.eval x = .pointer (some ⟨g,0,none⟩)) (hy:a.eval y = .agg C) (hC:C.size=2) (h1:C.all (·.oneCell')=true) {old:Array Value} (hold:old.size=2) (hb:Blk W g 56 old)
 (h:wpList Tryz.prog ops Q rest (a.put o.dst undef) (W.setRow g C)):wpList Tryz.prog ops Q (o::rest) a W:=
 wpList_store_row hgd 56 x y ho g C hx hy 56 old hb (by rw [hC];kernel_rfl) (by rw [hC,hold]) h1 h
theorem wp_rowL {ops:Array Oper} {rest:List Oper} {o:Oper} {a:Act} {W:World} {Q:Exit→Act→World→Prop} (hgd:o.guard=none) (x y:Operand) (ho:o.op = .store 44 x y) (g:Nat) (C:Array Value)
 (hx:a.eval x = .pointer (some ⟨g,0,none⟩)) (hy:a.eval y = .agg C) (hC:C.size=5) (h1:C.all (·.oneCell')=true) {old:Array Value} (hold:old.size=5) (hb:Blk W g 44 old)
 (h:wpList Tryz.prog ops Q rest (a.put o.dst undef) (W.setRow g C)):wpList Tryz.prog ops Q (o::rest) a W:=
 wpList_store_row hgd 44 x y ho g C hx hy 44 old hb (by rw [hC];kernel_rfl) (by rw [hC,hold]) h1 h
theorem blk_row {W:World} {g:Nat} {t:TypeId} {old cells:Array Value} (h:Blk W g t old):Blk (W.setRow g cells) g t cells:=setRow_heap W g old cells _ _ h
theorem only_row {W:World} {g:Nat} {cells:Array Value} : Only (fun i=>i=g) W (W.setRow g cells):=
 ⟨rfl,rfl,rfl,by rw [size_setRow];exact Nat.le_refl _,fun i _ hi=>setRow_other W g i cells hi⟩
theorem boxes6a {w W:World} {c0 c1 c2 c3 c4 c5:Array Value} {t0 t1 t2 t3 t4 t5:TypeId} (hW:(((((w.alloc (.cells c0 t0)).alloc (.cells c1 t1)).alloc (.cells c2 t2)).alloc (.cells c3 t3)).alloc (.cells c4 t4)).alloc (.cells c5 t5)=W) :
 Below w.heap.size w W∧Blk W w.heap.size t0 c0∧Blk W (w.heap.size+1) t1 c1∧Blk W (w.heap.size+1+1) t2 c2∧Blk W (w.heap.size+1+1+1) t3 c3∧Blk W (w.heap.size+1+1+1+1) t4 c4∧Blk W (w.heap.size+1+1+1+1+1) t5 c5:=by
 subst hW;have s:∀ (V:World) (o:Obj),(V.alloc o).heap.size=V.heap.size+1:=fun V o=>by simp
 have b0:=below_self_alloc w (.cells c0 t0);have b1:=b0.alloc b0.size (.cells c1 t1);have b2:=b1.alloc b1.size (.cells c2 t2);have b3:=b2.alloc b2.size (.cells c3 t3);have b4:=b3.alloc b3.size (.cells c4 t4);have k1:=Blk.new (w.alloc (.cells c0 t0)) t1 c1;have k2:=Blk.new ((w.alloc (.cells c0 t0)).alloc (.cells c1 t1)) t2 c2;have k3:=Blk.new (((w.alloc (.cells c0 t0)).alloc (.cells c1 t1)).alloc (.cells c2 t2)) t3 c3;have k4:=Blk.new ((((w.alloc (.cells c0 t0)).alloc (.cells c1 t1)).alloc (.cells c2 t2)).alloc (.cells c3 t3)) t4 c4;have k5:=Blk.new (((((w.alloc (.cells c0 t0)).alloc (.cells c1 t1)).alloc (.cells c2 t2)).alloc (.cells c3 t3)).alloc (.cells c4 t4)) t5 c5;simp only [s] at k1 k2 k3 k4 k5;exact ⟨b4.alloc b4.size _,(((((Blk.new w t0 c0).alloc _).alloc _).alloc _).alloc _).alloc _,(((k1.alloc _).alloc _).alloc _).alloc _,((k2.alloc _).alloc _).alloc _,(k3.alloc _).alloc _,k4.alloc _,k5⟩
def putT (out:List Rt) (n:ByteArray) (s:Int) (t:Nat):List Rt:=(out.take t).map (fun x=>if x.1=n then (x.1,min x.2 s) else x)++out.drop t
theorem putT_len (out:List Rt) (n:ByteArray) (s:Int) (t:Nat):(putT out n s t).length=out.length:=by
 unfold putT;rw [List.length_append,List.length_map,List.length_take,List.length_drop];omega
theorem putT_next {out:List Rt} {n:ByteArray} {s:Int} {t:Nat} {x:Rt} (h:out[t]? = some x):putT out n s (t+1)=(putT out n s t).set t (if x.1=n then (x.1,min x.2 s) else x):=by
 obtain ⟨hk,hg⟩:=List.getElem?_eq_some_iff.1 h;have hlen:((out.take t).map (fun x=>if x.1=n then (x.1,min x.2 s) else x)).length=t:=by rw [List.length_map,List.length_take];omega
 unfold putT;rw [take_snoc' h,List.map_append,List.set_append,if_neg (by rw [hlen];omega),hlen,Nat.sub_self,List.drop_eq_getElem_cons hk,List.append_assoc];rfl
theorem putT_at {out:List Rt} {n:ByteArray} {s:Int} {t:Nat} {x:Rt} (h:out[t]? = some x):(putT out n s t)[t]? = some x:=by
 obtain ⟨hk,hg⟩:=List.getElem?_eq_some_iff.1 h;have hlen:((out.take t).map (fun x=>if x.1=n then (x.1,min x.2 s) else x)).length=t:=by rw [List.length_map,List.length_take];omega
 unfold putT;rw [List.getElem?_append_right (by omega),hlen,Nat.sub_self,List.getElem?_drop];exact h
theorem putT_no {out:List Rt} {n:ByteArray} {s:Int} {t:Nat} {x:Rt} (h:out[t]? = some x) (hn:¬ x.1=n):putT out n s (t+1)=putT out n s t:=by
 rw [putT_next h,if_neg hn];have h2:=putT_at (n:=n) (s:=s) h;obtain ⟨hk,hg⟩:=List.getElem?_eq_some_iff.1 h2;rw [← hg,List.set_getElem_self]
theorem putT_yes {out:List Rt} {n:ByteArray} {s:Int} {t:Nat} {x:Rt} (h:out[t]? = some x) (hn:x.1=n):putT out n s (t+1)=(putT out n s t).set t (x.1,min x.2 s):=by
 rw [putT_next h,if_pos hn]
theorem putT_in {out:List Rt} {n:ByteArray} {s:Int} (h:n∈out.map (·.1)):putR out n s=putT out n s out.length:=by
 unfold putR putT;rw [if_pos h,List.take_length,List.drop_length,List.append_nil]
theorem putT_out {out:List Rt} {n:ByteArray} {s:Int} (h:n∉out.map (·.1)) (t:Nat):putT out n s t=out:=by
 have e:(out.take t).map (fun x:Rt=>if x.1=n then (x.1,min x.2 s) else x)=out.take t:=
  (List.map_congr_left (g:=id) fun x hx=>if_neg fun he=>h (List.mem_map.2 ⟨x,List.mem_of_mem_take hx,he⟩)).trans (List.map_id _)
 unfold putT;rw [e,List.take_append_drop]
structure RaS (w W:World) (Cm Cg:Array Value) (bo:Nat) (C:Array Value) (vr:Value) (k:Nat) (rr:List Rt) (vl:Value) (J:Nat) (lv:List LmV):Prop where
 hb:Below w.heap.size w W
 km:Blk W w.heap.size 27 Cm
 kg:Blk W (w.heap.size+1) 30 Cg
 kz:Blk W (w.heap.size+1+1+1+1) 27 Z8
 k6:Blk W (w.heap.size+1+1+1+1+1) 27 Z8
 ko:Blk W bo 27 C
 or_:W.ownsRow w.heap.size 56 2 vr k (rtCells rr)
 ol:W.ownsRow w.heap.size 44 5 vl J (lmCells lv)
 lo:w.heap.size+1+1+1+1+1<bo
section
variable {w W W' : World} {Cm Cg C : Array Value} {bo k J : Nat} {rr : List Rt} {vr vl : Value} {lv : List LmV}
theorem RaS.below (h:RaS w W Cm Cg bo C vr k rr vl J lv) (hb:Below W.heap.size W W'):RaS w W' Cm Cg bo C vr k rr vl J lv:=
 ⟨h.hb.trans (hb.mono h.hb.size),h.km.below hb h.km.lt,h.kg.below hb h.kg.lt,h.kz.below hb h.kz.lt,h.k6.below hb h.k6.lt,h.ko.below hb h.ko.lt,(Only.of_below hb (fun _=>False)).owns h.or_ (fun _ _ f=>f),(Only.of_below hb (fun _=>False)).owns h.ol (fun _ _ f=>f),h.lo⟩
theorem RaS.right {v':Value} {k':Nat} {rr':List Rt} (h:RaS w W Cm Cg bo C vr k rr vl J lv) (o:W'.ownsRow w.heap.size 56 2 v' k' (rtCells rr')) (hg:W.grownBy W' vr.ownBlock):RaS w W' Cm Cg bo C v' k' rr' vl J lv:=by
 have hO:=Only.of_grown hg;exact ⟨h.hb.trans (hO.below h.hb.size (fun i hi=>(h.or_.lt i hi).1)),hO.blk h.km (own_blk_ne h.or_ h.km (by decide)),hO.blk h.kg (own_blk_ne h.or_ h.kg (by decide)),hO.blk h.kz (own_blk_ne h.or_ h.kz (by decide)),hO.blk h.k6 (own_blk_ne h.or_ h.k6 (by decide)),hO.blk h.ko (own_blk_ne h.or_ h.ko (by decide)),o,hO.owns h.ol (fun b hb f=>own_own_ne h.ol h.or_ (by decide) hb f),h.lo⟩
theorem RaS.lims {v':Value} {J':Nat} {lv':List LmV} (h:RaS w W Cm Cg bo C vr k rr vl J lv) (o:W'.ownsRow w.heap.size 44 5 v' J' (lmCells lv')) (hg:W.grownBy W' vl.ownBlock):RaS w W' Cm Cg bo C vr k rr v' J' lv':=by
 have hO:=Only.of_grown hg;exact ⟨h.hb.trans (hO.below h.hb.size (fun i hi=>(h.ol.lt i hi).1)),hO.blk h.km (own_blk_ne h.ol h.km (by decide)),hO.blk h.kg (own_blk_ne h.ol h.kg (by decide)),hO.blk h.kz (own_blk_ne h.ol h.kz (by decide)),hO.blk h.k6 (own_blk_ne h.ol h.k6 (by decide)),hO.blk h.ko (own_blk_ne h.ol h.ko (by decide)),hO.owns h.or_ (fun b hb f=>own_own_ne h.or_ h.ol (by decide) hb f),o,h.lo⟩
theorem RaS.set (h:RaS w W Cm Cg bo C vr k rr vl J lv) (i:Nat) (v:Value):RaS w (W.setCell ⟨bo,i,none⟩ v) Cm Cg bo (C.setIfInBounds i v) vr k rr vl J lv:=by
 have hlo:=h.lo;have ho:Only (fun j=>j=bo) W (W.setCell ⟨bo,i,none⟩ v):=only_set3;exact ⟨h.hb.setCell (p:=⟨bo,i,none⟩) (show w.heap.size≤bo by omega) v,ho.blk h.km (by omega),ho.blk h.kg (by omega),ho.blk h.kz (by omega),ho.blk h.k6 (by omega),h.ko.set_ i v,ho.owns h.or_ (fun b hb f=>own_blk_ne h.or_ h.ko (by decide) (by rw [hb,f])),ho.owns h.ol (fun b hb f=>own_blk_ne h.ol h.ko (by decide) (by rw [hb,f])),h.lo⟩
theorem RaS.only {lb:Nat} (h:RaS w W Cm Cg bo C vr k rr vl J lv) (ho:Only (fun i=>i=lb) W W') (hlo:bo<lb) (h1:∀ b,vr.ownBlock=some b→¬ b=lb) (h2:∀ b,vl.ownBlock=some b→¬ b=lb):RaS w W' Cm Cg bo C vr k rr vl J lv:=by
 have hl:=h.lo;exact ⟨h.hb.trans (ho.below h.hb.size fun i hi=>by omega),ho.blk h.km (by omega),ho.blk h.kg (by omega),ho.blk h.kz (by omega),ho.blk h.k6 (by omega),ho.blk h.ko (by omega),ho.owns h.or_ (fun b hb f=>h1 b hb f),ho.owns h.ol (fun b hb f=>h2 b hb f),h.lo⟩
end
def LimA (ts:List Lm) (day:Int) (l:List Int) (lv:List LmV) (k:Nat) (lk:List LmV):Prop:=lk.map (·.1)=(lv.take k).map (fun x=>(chgS ts day l x.1).1)
theorem LimA.step {ts:List Lm} {day:Int} {l:List Int} {lv lk:List LmV} {k:Nat} {x y:LmV} (h:LimA ts day l lv k lk) (hx:lv[k]? = some x) (he:(chgS ts day l x.1).1=y.1):LimA ts day l lv (k+1) (lk++[y]):=by
 unfold LimA at *;rw [List.map_append,h,take_snoc' hx,List.map_append,List.map_cons,List.map_nil,List.map_cons,List.map_nil,he]
theorem LimA.done {ts:List Lm} {day:Int} {l:List Int} {lv lk:List LmV} (h:LimA ts day l lv lv.length lk):lk.map (·.1)=chgL ts day l (lv.map (·.1)):=by
 unfold LimA at h;rw [h,List.take_length];unfold chgL;rw [List.map_map];rfl
theorem termOf_I {ts:List Lm} {n:ByteArray} {k:Nat} {x:Lm} (h:termI ts n=(k:Int)) (hx:ts[k]? = some x):termOf ts n=some x:=by
 unfold termI at h
 cases hf:ts.findIdx? fun t=>decide (t.id=n) with
 | none=>rw [hf] at h;simp only at h;omega
 | some i=>
  rw [hf] at h;simp only at h;obtain rfl:i=k:=by omega
  obtain ⟨hi,he,hm⟩:=List.findIdx?_eq_some_iff_getElem.1 hf;obtain ⟨hi2,hg⟩:=List.getElem?_eq_some_iff.1 hx;rw [hg] at he
  exact termOf_found hx (of_decide_eq_true he) fun r hr hrn=>by
   obtain ⟨j,hj,rfl⟩:=List.mem_iff_getElem.1 hr;rw [List.length_take] at hj;have:=hm j (by omega);rw [List.getElem_take] at hrn;simp [hrn] at this
theorem termOf_N {ts:List Lm} {n:ByteArray} (h:termI ts n<0):termOf ts n=none:=by
 unfold termI at h
 cases hf:ts.findIdx? fun t=>decide (t.id=n) with
 | none=>exact termOf_no fun r hr hrn=>by have:=List.findIdx?_eq_none_iff.1 hf r hr;simp [hrn] at this
 | some i=>rw [hf] at h;simp only at h;omega
theorem termI_lt {ts:List Lm} {n:ByteArray} {k:Nat} (h:termI ts n=(k:Int)):k<ts.length:=by
 unfold termI at h
 cases hf:ts.findIdx? fun t=>decide (t.id=n) with
 | none=>rw [hf] at h;simp only at h;omega
 | some i=>
  rw [hf] at h;simp only at h;obtain ⟨hi,-⟩:=List.findIdx?_eq_some_iff_getElem.1 hf;omega
end Go.Proofs.YtknchlpcpgflkaaGreatDoor
namespace Go.Proofs.YtknchlpcpgflkaaGreatDoor.Lim
open Go.Proofs.YtknchlpcpgflkaaGreatDoor
open Go.RowKit Go.Shelf
theorem rLeap_any (w:World) (y:Int):Calls Tryz.prog 200 #[.int .i64 y] w fun e w'=>e = .returned (.bool (lpB y))∧w=w':=by
 have t4:=tmod_zero y 4;have t100:=tmod_zero y 100;have t400:=tmod_zero y 400;have hl:lpB y=(y % 4 == 0 && !(y % 100 == 0) || y % 400 == 0):=rfl;obtain ⟨r,hr⟩:∃ r,lpB y=r:=⟨_,rfl⟩;rw [hr];rw [hr] at hl;by_cases a:y % 4=0
 · have a1:(y.tmod 4 == 0)=true:=by simpa using t4.2 a
   by_cases b:y % 100=0
   · have b1:(y.tmod 100 != 0)=false:=by simpa using t100.2 b
     by_cases c:y % 400=0
     · have c1:(y.tmod 400 == 0)=true:=by simpa using t400.2 c
       obtain rfl:r=true:=by rw [hl];simp [c]
       clear hl hr t4 t100 t400 a b c;go_enter Tryz.func200,Tryz.ntmps200
       go_wp2
       go_ret
       exact ⟨rfl,rfl⟩
     · have c1:(y.tmod 400 == 0)=false:=by rw [beq_eq_false_iff_ne];exact fun h=>c (t400.1 h)
       obtain rfl:r=false:=by rw [hl];simp [b,c]
       clear hl hr t4 t100 t400 a b c;go_enter Tryz.func200,Tryz.ntmps200
       go_wp2
       go_ret
       exact ⟨rfl,rfl⟩
   · have b1:(y.tmod 100 != 0)=true:=by rw [bne_iff_ne];exact fun h=>b (t100.1 h)
     obtain rfl:r=true:=by rw [hl];simp [a,b]
     clear hl hr t4 t100 t400 a b;go_enter Tryz.func200,Tryz.ntmps200
     go_wp2
     go_ret
     exact ⟨rfl,rfl⟩
 · have a1:(y.tmod 4 == 0)=false:=by rw [beq_eq_false_iff_ne];exact fun h=>a (t4.1 h)
   have c:¬ y % 400=0:=by omega
   have c1:(y.tmod 400 == 0)=false:=by rw [beq_eq_false_iff_ne];exact fun h=>c (t400.1 h)
   obtain rfl:r=false:=by rw [hl];simp [a,c]
   clear hl hr t4 t100 t400 a c;go_enter Tryz.func200,Tryz.ntmps200
   go_wp2
   go_ret
   exact ⟨rfl,rfl⟩
theorem rBefore_any (w:World) (y:Int) (h0:1600≤y) (h1:y≤10000):Calls Tryz.prog 199 #[.int .i64 y] w fun e w'=>e = .returned (.int .i64 (beg y))∧w=w':=by
 have e1:(y - 1600+3).tdiv 4=(y - 1600+3) / 4:=Int.tdiv_eq_ediv_of_nonneg (by omega);have e2:(y - 1600+99).tdiv 100=(y - 1600+99) / 100:=Int.tdiv_eq_ediv_of_nonneg (by omega);have e3:(y - 1600+399).tdiv 400=(y - 1600+399) / 400:=Int.tdiv_eq_ediv_of_nonneg (by omega);obtain ⟨r,hr⟩:∃ r,beg y=r:=⟨_,rfl⟩;rw [hr];have HR:=hd_ hr;clear hr;go_enter Tryz.func199,Tryz.ntmps199
 go_wp2
 go_ret
 refine ⟨?_,rfl⟩;rw [← HR.out];unfold beg;rfl
theorem rLength_any (w:World) (y m:Int) (h1:1≤m) (h2:m≤12):Calls Tryz.prog 190 #[.int .i64 y,.int .i64 m] w fun e w'=>e = .returned (.int .i64 (ml y m))∧Below w.heap.size w w':=by
 have hb:=(Below.refl w.heap.size w).alloc (Nat.le_refl _) (.cells #[.int .i64 31,.int .i64 28,.int .i64 31,.int .i64 30,.int .i64 31,.int .i64 30,.int .i64 31,.int .i64 31,.int .i64 30,.int .i64 31,.int .i64 30,.int .i64 31] 3);have kn:=Blk.new w 3 #[.int .i64 31,.int .i64 28,.int .i64 31,.int .i64 30,.int .i64 31,.int .i64 30,.int .i64 31,.int .i64 31,.int .i64 30,.int .i64 31,.int .i64 30,.int .i64 31];obtain ⟨x0,x1,x2⟩:=kn.all;have hm:m=2∨m=1∨m=3∨m=4∨m=5∨m=6∨m=7∨m=8∨m=9∨m=10∨m=11∨m=12:=by omega
 clear h1 h2 kn;rcases hm with rfl | rfl | rfl | rfl | rfl | rfl | rfl | rfl | rfl | rfl | rfl | rfl
 case inl=>
  have hb0:=Below.refl w.heap.size w;have e2:ml y 2=fb y:=by unfold ml;rw [if_pos rfl]
  rw [e2]
  cases hl:lpB y with
  | true=>
   have e:fb y=29:=by unfold fb;rw [hl];rfl
   rw [e];have HL:=hd_ hl;clear hl e e2;go_enter Tryz.func190,Tryz.ntmps190
   go_wp2_with fail
   refine (rLeap_any _ y).mono ?_;rintro e w1 ⟨rfl,rfl⟩;rw [HL.out];go_wp2
   go_ret
   exact ⟨rfl,hb0⟩
  | false=>
   have HL:=hd_ hl;by_cases h0:y<1600
   · have e:fb y=29:=by unfold fb;rw [hl,show decide (y<1600)=true by simpa using h0];rfl
     rw [e];have d1:decide (y<1600)=true:=decide_eq_true h0;clear hl e e2;go_enter Tryz.func190,Tryz.ntmps190
     go_wp2_with fail
     refine (rLeap_any _ y).mono ?_;rintro e w1 ⟨rfl,rfl⟩;rw [HL.out];go_wp2
     go_ret
     exact ⟨rfl,hb0⟩
   · by_cases h1:9999<y
     · have e:fb y=29:=by unfold fb;rw [hl,show decide (9999<y)=true by simpa using h1];simp
       rw [e];have d1:decide (y<1600)=false:=decide_eq_false h0;have d2:decide (9999<y)=true:=decide_eq_true h1;clear hl e e2;go_enter Tryz.func190,Tryz.ntmps190
       go_wp2_with fail
       refine (rLeap_any _ y).mono ?_;rintro e w1 ⟨rfl,rfl⟩;rw [HL.out];go_wp2
       go_ret
       exact ⟨rfl,hb0⟩
     · have e:fb y=28:=by unfold fb;rw [hl,show decide (9999<y)=false by simpa using h1,show decide (y<1600)=false by simpa using h0];rfl
       rw [e];have d1:decide (y<1600)=false:=decide_eq_false h0;have d2:decide (9999<y)=false:=decide_eq_false h1;clear hl e e2;go_enter Tryz.func190,Tryz.ntmps190
       go_wp2_with fail
       refine (rLeap_any _ y).mono ?_;rintro e w1 ⟨rfl,rfl⟩;rw [HL.out];go_wp2
       go_ret
       exact ⟨rfl,hb⟩
 all_goals
  go_enter Tryz.func190,Tryz.ntmps190
  go_wp2
  go_ret
  exact ⟨rfl,hb⟩
theorem rDay_any (w:World) (y m d:Int):Calls Tryz.prog 189 #[.int .i64 y,.int .i64 m,.int .i64 d] w fun e w'=>e = .returned (.tuple #[.int .i64 (dayS y m d).1,.int .i64 (dayS y m d).2])∧Below w.heap.size w w':=by
 by_cases h1:m<1
 · rw [dayS_arg (.inl h1)]
   go_enter Tryz.func189,Tryz.ntmps189
   go_wp2
   go_ret2
   exact ⟨rfl,Below.refl _ _⟩
 by_cases h2:12<m
 · rw [dayS_arg (.inr (.inl h2))]
   go_enter Tryz.func189,Tryz.ntmps189
   go_wp2
   go_ret2
   exact ⟨rfl,Below.refl _ _⟩
 by_cases h3:d<1
 · rw [dayS_arg (.inr (.inr (.inl h3)))]
   go_enter Tryz.func189,Tryz.ntmps189
   go_wp2
   go_ret2
   exact ⟨rfl,Below.refl _ _⟩
 have hm1:1≤m:=by omega
 have hm2:m≤12:=by omega
 have hd1:1≤d:=by omega
 have HLE:=hd_ (rLength_any w y m hm1 hm2);by_cases h4:ml y m<d
 · rw [dayS_arg (.inr (.inr (.inr h4)))]
   generalize ml y m=q at *;clear h1 h2 h3;go_enter Tryz.func189,Tryz.ntmps189
   go_wp2_with fail
   refine HLE.out.mono ?_;rintro e w1 ⟨rfl,hb⟩;go_wp2
   go_ret2
   exact ⟨rfl,hb⟩
 have hml:=ml_bd y m;by_cases h5:y<1600∨9999<y
 · rw [dayS_rng (by omega) h5]
   generalize ml y m=q at *;clear h1 h2 h3;go_enter Tryz.func189,Tryz.ntmps189
   go_wp2_with fail
   refine HLE.out.mono ?_;rintro e w1 ⟨rfl,hb⟩;by_cases h6:y<1600
   · have d1:decide (y<1600)=true:=decide_eq_true h6
     go_wp2
     go_ret2
     exact ⟨rfl,hb⟩
   · have d1:decide (y<1600)=false:=decide_eq_false h6
     have d2:decide (9999<y)=true:=decide_eq_true (by omega);go_wp2
     go_ret2
     exact ⟨rfl,hb⟩
 have hv:Vd y m d:=⟨by omega,by omega,hm1,hm2,hd1,by omega⟩;have hnum:=num_in hv;have hb0:=beg_mono (show (1600:Int)≤y by omega);rw [beg_0] at hb0;have hb1:=beg_mono (show y≤9999 by omega);have hb9:beg 9999=3067672:=by decide
 rw [hb9] at hb1;have hc1:=hd_ (cum_one y);have hcs:=hd_ (fun (k:Int) (h1:1≤k) (h2:k≤12)=>cum_succ y k h1 h2);have hcb:=hd_ (fun (k:Int) (h1:1≤k) (h2:k≤13)=>cum_bd y k h1 h2);have HN:=hd_ (show num y m d=beg y+d - 1+cum y m by unfold num;omega);obtain ⟨r1,r2,hr⟩:∃ r1 r2,dayS y m d=(r1,r2):=⟨_,_,rfl⟩;rw [hr]
 have HD:Hid ((r1,r2)=if 1000000<num y m d then ((0:Int),(10:Int)) else (num y m d,0)):=by
  have:dayS y m d=if 1000000<num y m d then (0,10) else (num y m d,0):=by
   unfold dayS;rw [if_neg (by omega),if_neg (by omega)]
  exact hd_ (hr.symm.trans this)
 have y1:1600≤y:=by omega
 have y2:y≤9999:=by omega
 have dm:d≤31:=by omega
 have hmlb:¬ ml y m<d:=h4;generalize ml y m=q at *;clear hnum hb9 hv h1 h2 h3 h5 hr hml;obtain ⟨bg,hbg⟩:∃ bg,beg y=bg:=⟨_,rfl⟩;rw [hbg] at hb0 hb1;have HBG:=hd_ hbg;clear hbg;go_enter Tryz.func189,Tryz.ntmps189
 go_wp2_with fail
 refine HLE.out.mono ?_;rintro e w1 ⟨rfl,hb⟩;go_wp2_with fail
 have hbf:=rBefore_any w1 y y1 (by omega);rw [HBG.out] at hbf;refine hbf.mono ?_;rintro e w2 ⟨rfl,rfl⟩;clear hbf;go_wp2_with fail
 go_loopw [8,9] (fun n v wr=>∃ (j c:Int),1≤j∧j≤m∧v = .int .i64 j∧Hid (cum y j=c)∧0≤c∧c≤366∧n = .int .i64 (bg+d - 1+c)∧Below w.heap.size w wr) (fun _ v _=>(m - intOf v).toNat)
 case atStart=>exact ⟨1,0,by omega,hm1,rfl,hc1,by omega,by omega,by go_num,hb⟩
 case round=>
  clear hb;obtain ⟨j,c,j1,j2,rfl,hc,c0,c9,rfl,hb⟩:=hrel;by_cases hlt:j<m
  · have hle:=rLength_any wr y j j1 (by omega)
    have hs:=hcs.out j j1 (by omega);have hbb:=hcb.out (j+1) (by omega) (by omega);rw [hs,hc.out] at hbb;rw [hc.out] at hs;have hml:=ml_bd y j;obtain ⟨x,hx⟩:∃ x,ml y j=x:=⟨_,rfl⟩;rw [hx] at hle hs hbb hml;have HLJ:=hd_ hle;have HS:=hd_ hs;clear hle hs hx;go_wp2_with fail
    refine HLJ.out.mono ?_;rintro e w3 ⟨rfl,b⟩;replace hb:=hb.trans (b.mono hb.size);clear b HLJ;go_wp2
    go_roundw
    case rel=>exact ⟨j+1,c+x,by omega,by omega,by go_num,HS,hbb.1,hbb.2,by go_num,hb⟩
    case measure=>simp [intOf];omega
  · obtain rfl:j=m:=by omega
    have hn:=HN.out;rw [HBG.out,hc.out] at hn;have hd:=HD.out;rw [hn] at hd;by_cases h6:1000000<bg+d - 1+c
    · rw [if_pos h6] at hd
      injection hd with h7 h8;subst h7 h8;clear hn;go_wp2
      go_ret2
      exact ⟨rfl,hb⟩
    · rw [if_neg h6] at hd
      injection hd with h7 h8;subst h8;have H7:=hd_ h7;clear hn h7;go_wp2
      go_ret2
      exact ⟨by rw [H7.out];rfl,hb⟩
theorem rWeekday_any (w:World) (n:Int):Calls Tryz.prog 172 #[.int .i64 n] w fun e w'=>e = .returned (.int .i64 (wkd n))∧w=w':=by
 cases hl:isB n with
 | true=>
  have e:wkd n=(n+5) % 7:=by unfold wkd;rw [hl];rfl
  rw [e];obtain ⟨h0,h1⟩:=(isB_iff n).1 hl;have HL:=hd_ hl;clear hl e;go_enter Tryz.func172,Tryz.ntmps172
  go_wp2_with fail
  refine (rIs_any _ n).mono ?_;rintro e w1 ⟨rfl,rfl⟩;rw [HL.out];go_wp2
  go_ret
  exact ⟨rfl,rfl⟩
 | false=>
  have e:wkd n = -1:=by unfold wkd;rw [hl];rfl
  rw [e];have HL:=hd_ hl;clear hl e;go_enter Tryz.func172,Tryz.ntmps172
  go_wp2_with fail
  refine (rIs_any _ n).mono ?_;rintro e w1 ⟨rfl,rfl⟩;rw [HL.out];go_wp2
  go_ret
  exact ⟨rfl,rfl⟩
theorem rIn_any (w:World) (B:Nat) (A:Option Addr) (l:List Int) (c:Nat) (h:IntsAt w B A l) (hl:l.length≤4611686018427387904) (n:Int) :
 Calls Tryz.prog 173 #[.slice A l.length c,.int .i64 n] w fun e w'=>e = .returned (.bool (decide (n∈l)))∧w=w':=by
 go_enter Tryz.func173,Tryz.ntmps173
 go_wp2_with fail
 go_loopw [5] (fun i wr=>wr=w∧∃ k:Nat,k≤l.length∧i = .int .i64 (k:Int)∧n∉l.take k) (fun i _=>l.length - (intOf i).toNat)
 case atStart=>exact ⟨rfl,0,Nat.zero_le _,rfl,by simp⟩
 case round=>
  obtain ⟨rfl,k,hk,rfl,hni⟩:=hrel;by_cases hlt:k<l.length
  · obtain ⟨x,hx⟩:∃ x,l[k]? = some x:=⟨_,List.getElem?_eq_getElem hlt⟩
    obtain ⟨g,off,hA,hg,hc⟩:=h k x hx;subst hA;have HX:=hd_ hx;have HN:=hd_ hni;clear hx hni;by_cases hxn:x=n
    · subst hxn
      go_wp2
      go_ret
      have hm:decide (x∈l)=true:=decide_eq_true (List.mem_of_getElem? HX.out);exact ⟨by rw [hm];rfl,rfl⟩
    · have hb:(x == n)=false:=by simpa using hxn
      have HXN:=hd_ hxn;clear hxn;go_wp2
      go_roundw
      case rel=>
       refine ⟨by first | trivial | rfl,k+1,by omega,by go_num,?_⟩;obtain ⟨hk',hx'⟩:=List.getElem?_eq_some_iff.1 HX.out;rw [List.take_succ_eq_append_getElem hk',hx',List.mem_append];rintro (h1 | h1)
       · exact HN.out h1
       · simp at h1;exact HXN.out h1.symm
      case measure=>simp [intOf];omega
  · obtain rfl:k=l.length:=by omega
    rw [List.take_length] at hni;have HN:=hd_ hni;clear hni;go_wp2
    go_ret
    exact ⟨by rw [decide_eq_false HN.out];rfl,rfl⟩
theorem rWork_any (w:World) (B:Nat) (A:Option Addr) (l:List Int) (c:Nat) (h:IntsAt w B A l) (hl:l.length≤4611686018427387904) (n:Int) :
 Calls Tryz.prog 150 #[.int .i64 n,.slice A l.length c] w fun e w'=>e = .returned (.bool (opB l n))∧w=w':=by
 have hin:=rIn_any w B A l c h hl n;have HI:=hd_ hin;have HO:Hid (opB l n=(isB n && decide (wkd n<5) && !decide (n∈l))):=hd_ rfl;obtain ⟨r,hr⟩:∃ r,opB l n=r:=⟨_,rfl⟩;rw [hr];rw [hr] at HO;have hwk:=rWeekday_any w n;obtain ⟨x,hx⟩:∃ x,wkd n=x:=⟨_,rfl⟩;rw [hx] at hwk HO;have HWK:=hd_ hwk;clear hin h hr hwk hx
 cases hd:isB n with
 | false=>
  have e:r=false:=by have:=HO.out;rw [hd] at this;exact this
  subst e;have HL:=hd_ hd;clear hd;go_enter Tryz.func150,Tryz.ntmps150
  go_wp2_with fail
  refine (rIs_any _ n).mono ?_;rintro e w1 ⟨rfl,rfl⟩;rw [HL.out];go_wp2
  go_ret
  exact ⟨rfl,rfl⟩
 | true=>
  have HL:=hd_ hd;rw [hd,Bool.true_and] at HO;clear hd;go_enter Tryz.func150,Tryz.ntmps150
  go_wp2_with fail
  refine (rIs_any _ n).mono ?_;rintro e w1 ⟨rfl,rfl⟩;rw [HL.out];go_wp2_with fail
  refine HWK.out.mono ?_;rintro e w1 ⟨rfl,rfl⟩;by_cases hx:x<5
  · have d1:decide (x≤4)=true:=decide_eq_true (by omega)
    have e:r = !decide (n∈l):=by have:=HO.out;rw [decide_eq_true hx] at this;exact this
    subst e;clear HO;go_wp2_with fail
    refine HI.out.mono ?_;rintro e w1 ⟨rfl,rfl⟩;go_wp2
    go_ret
    exact ⟨rfl,rfl⟩
  · have d1:decide (x≤4)=false:=decide_eq_false (by omega)
    have e:r=false:=by have:=HO.out;rw [decide_eq_false hx] at this;exact this
    subst e;clear HO;go_wp2
    go_ret
    exact ⟨rfl,rfl⟩
theorem rDate_yes (w:World) (y m d:Int) (hv:Vd y m d) (hn:num y m d≤1000000):Calls Tryz.prog 188 #[.int .i64 (num y m d)] w fun e w'=>e = .returned (.tuple #[.int .i64 y,.int .i64 m,.int .i64 d,.int .i64 0])∧Below w.heap.size w w':=by
 have hnum:=num_in hv;obtain ⟨y1,y2,m1,m2,d1,d2⟩:=hv;have hb0:=beg_mono y1;rw [beg_0] at hb0;have hcs:=cum_succ y m m1 m2;obtain ⟨N,hN⟩:∃ N,num y m d=N:=⟨_,rfl⟩;rw [hN] at hn hnum ⊢;have hN':N=beg y+cum y m+(d - 1):=hN.symm;have n0:0≤N:=by omega
 have HY:=hd_ hnum;have HC:=hd_ (show cum y m≤N - beg y∧N - beg y<cum y (m+1) from ⟨by omega,by omega⟩);have HD:=hd_ (show d=N - beg y - cum y m+1 by omega);have hst:beg (1600+N / 366)≤N:=by unfold beg;omega
 have HST:=hd_ hst;have hbm:=beg_mono (show y≤9999 by omega);have hb9:beg 9999=3067672:=by decide
 rw [hb9] at hbm;have e1:N.tdiv 366=N / 366:=Int.tdiv_eq_ediv_of_nonneg n0;have hc1:=hd_ (cum_one y);have hcsu:=hd_ (fun (k:Int) (h1:1≤k) (h2:k≤12)=>cum_succ y k h1 h2);have hcb:=hd_ (fun (k:Int) (h1:1≤k) (h2:k≤13)=>cum_bd y k h1 h2);clear hcs hN hN' hnum hst hb9;have hi:isB N=true:=(isB_iff N).2 ⟨n0,hn⟩;have HI:=hd_ hi;clear hi;go_enter Tryz.func188,Tryz.ntmps188
 go_wp2_with fail
 refine (rIs_any _ N).mono ?_;rintro e w1 ⟨rfl,rfl⟩;rw [HI.out];go_wp2_with fail
 clear e1;have hdb:0≤N / 366∧N / 366≤2733:=by omega
 go_loopw [6] (fun v wr=>∃ x:Int,1600≤x∧x≤y∧v = .int .i64 x∧Hid (beg x≤N)∧Below w.heap.size w wr) (fun v _=>(y - intOf v).toNat)
 case atStart=>exact ⟨1600+N / 366,by omega,year_le HST.out HY.out.2,by go_num,HST,Below.refl _ _⟩
 case round=>
  obtain ⟨x,x0,x1,rfl,hx,hb⟩:=hrel;have hbf:=rBefore_any wr (x+1) (by omega) (by omega);obtain ⟨bx,hbx⟩:∃ bx,beg (x+1)=bx:=⟨_,rfl⟩;rw [hbx] at hbf;have HBX:=hd_ hbx;have HBF:=hd_ hbf;clear hbx hbf;go_wp2_with fail
  refine HBF.out.mono ?_;rintro e w2 ⟨rfl,rfl⟩;clear HBF;by_cases hle:bx≤N
  · have dl:decide (bx≤N)=true:=decide_eq_true hle
    have hxy:x+1≤y:=year_le (by rw [HBX.out];exact hle) HY.out.2;go_wp2
    go_roundw
    case rel=>exact ⟨x+1,by omega,hxy,by go_num,hd_ (by rw [HBX.out];exact hle),hb⟩
    case measure=>simp [intOf];omega
  · have dl:decide (bx≤N)=false:=decide_eq_false hle
    have hxy:x=y:=year_is hx.out (by rw [HBX.out];omega) HY.out.1 HY.out.2;subst hxy;go_wp2_with fail
    have hbf:=rBefore_any wr x (by omega) (by omega);obtain ⟨bg,hbg⟩:∃ bg,beg x=bg:=⟨_,rfl⟩;rw [hbg] at hbf hb0 hbm;have HBG:=hd_ hbg;have hge:=hx.out;rw [hbg] at hge;clear hbg;refine hbf.mono ?_;rintro e w2 ⟨rfl,rfl⟩;clear hbf dl hle;go_wp2_with fail
    go_loopw [7,8] (fun n v wq=>∃ (j c:Int),1≤j∧j≤m∧v = .int .i64 j∧Hid (cum x j=c)∧0≤c∧c≤N - bg∧n = .int .i64 (N - bg - c)∧Below w.heap.size w wq) (fun _ v _=>(m - intOf v).toNat)
    case atStart=>exact ⟨1,0,by omega,m1,rfl,hc1,by omega,by omega,by go_num,hb⟩
    case round=>
     clear hb;obtain ⟨j,c,j1,j2,rfl,hc,c0,c9,rfl,hb⟩:=hrel;have hcc:=HC.out;have hle:=rLength_any wr x j j1 (by omega);have hs:=hcsu.out j j1 (by omega);obtain ⟨q,hq⟩:∃ q,ml x j=q:=⟨_,rfl⟩;have hml:=ml_bd x j;rw [hq] at hle hs hml;rw [hc.out] at hs;have HLJ:=hd_ hle;have HS:=hd_ hs;clear hle hs hq;rw [HBG.out] at hcc;have HCC:=hd_ hcc;clear hcc;go_wp2_with fail
     refine HLJ.out.mono ?_;rintro e w3 ⟨rfl,b⟩;replace hb:=hb.trans (b.mono hb.size);clear b HLJ;by_cases hlt:q≤N - bg - c
     · have dl:decide (q≤N - bg - c)=true:=decide_eq_true hlt
       have hjm:j+1≤m:=month_le (y:=x) (r:=N - bg) (by rw [HS.out];omega) HCC.out.2 m1 (by omega);go_wp2_with fail
       have hle:=rLength_any w3 x j j1 (by omega);have hq2:ml x j=q:=by have h1:=hcsu.out j j1 (by omega);rw [HS.out,hc.out] at h1;omega
       rw [hq2] at hle;clear hq2;refine hle.mono ?_;rintro e w4 ⟨rfl,b⟩;replace hb:=hb.trans (b.mono hb.size);clear b hle dl;go_wp2
       go_roundw
       case rel=>exact ⟨j+1,c+q,by omega,hjm,by go_num,HS,by omega,by omega,by go_num,hb⟩
       case measure=>simp [intOf];omega
     · have dl:decide (q≤N - bg - c)=false:=decide_eq_false hlt
       have hjm:m≤j:=month_le (y:=x) (r:=N - bg) HCC.out.1 (by rw [HS.out];omega) j1 (by omega);obtain rfl:j=m:=by omega
       have hdd:=HD.out;rw [HBG.out,hc.out] at hdd;subst hdd;clear dl;go_wp2
       refine bodyPost_ret (v:=.tuple #[.int .i64 x,.int .i64 j,.int .i64 (N - bg - c+1),.int .i64 0]) (by simp [results,Tryz.results188,go_sem]) rfl ⟨rfl,hb⟩
end Go.Proofs.YtknchlpcpgflkaaGreatDoor.Lim
