import Derived.Test.YtknchlpcpgflkaaGreatDoorKGAA
import Derived.Maps.Own
import Derived.Maps.OwnOps
import Derived.Maps.Views
import Derived.StillTailTactics
import Derived.Deep.QuietTactic
import Derived.BigQuiet
import Derived.OrdersHeld
import Derived.Laws.CopyOwn
import Derived.Lib.BufferWrite
import Derived.Lib.LazyBuf
import Derived.Laws.BytesArg
import Derived.Laws.MakeOwn
set_option maxRecDepth 100000
set_option maxHeartbeats 16000000
namespace Go.Proofs.YtknchlpcpgflkaaGreatDoor
open Go.RowKit
open Go.Maps Go.ChangeMaps
def IntsAt (w:World) (B:Nat) (A:Option Addr) (l:List Int):Prop:=
 ∀ (i:Nat) (v:Int),l[i]? = some v→∃ g off,A=some ⟨g,off,none⟩∧g<B∧w.cell? ⟨g,off+i,none⟩=some (.int .i64 v)
theorem IntsAt.below {w w':World} {B:Nat} {A:Option Addr} {l:List Int} (h:IntsAt w B A l) (hb:Below B w w'):IntsAt w' B A l:=fun i v hi=>by
 obtain ⟨g,off,hA,hg,hc⟩:=h i v hi;exact ⟨g,off,hA,hg,(hb.cell (p:=⟨g,off+i,none⟩) hg).trans hc⟩
theorem IntsAt.wide {w:World} {B B':Nat} {A:Option Addr} {l:List Int} (h:IntsAt w B A l) (hB:B≤B'):IntsAt w B' A l:=fun i v hi=>by
 obtain ⟨g,off,hA,hg,hc⟩:=h i v hi;exact ⟨g,off,hA,Nat.lt_of_lt_of_le hg hB,hc⟩
def wf64 (x:Int):Prop := -9223372036854775808≤x∧x≤9223372036854775807
theorem wf64_lit {x:Int} : (Lit.int .i64 x).wf=true↔wf64 x:=by
 simp [Lit.wf,IntKind.min,IntKind.max,IntKind.signed,IntKind.bits,wf64]
def clD (l:List Int):DataW Unit:=l.foldl (fun D d=>D.put (.int .i64 d) (.lit (.bool true))) (.map [])
theorem clD_snoc (l:List Int) (d:Int):clD (l++[d])=(clD l).put (.int .i64 d) (.lit (.bool true)):=by unfold clD;rw [List.foldl_append];rfl
theorem clD_map (l:List Int):IsMap (clD l)∧∀ x:Int,(clD l).atKey (.int .i64 x) (.lit (.bool false)) = .lit (.bool (decide (x∈l))):=by
 have key:∀ k:Nat,k≤l.length→IsMap (clD (l.take k))∧∀ x:Int,(clD (l.take k)).atKey (.int .i64 x) (.lit (.bool false)) = .lit (.bool (decide (x∈l.take k))):=by
  intro k
  induction k with
  | zero=>intro _;exact ⟨isMap_empty,fun x=>by simp [clD];rfl⟩
  | succ k ih=>
   intro hk;obtain ⟨h1,h2⟩:=ih (by omega);rw [List.take_succ_eq_append_getElem (show k<l.length by omega),clD_snoc];refine ⟨h1.put _ _,fun x=>?_⟩;by_cases hx:x=l[k]
   · rw [← hx,atKey_put_same (k:=.int .i64 x) h1 (by exact trivial)]
     congr 2
     symm;rw [decide_eq_true_eq,List.mem_append];right;simp
   · rw [atKey_put_other (by intro e;injection e with _ e;exact hx e),h2 x]
     congr 2
     rw [decide_eq_decide,List.mem_append,List.mem_singleton];exact ⟨.inl,fun c=>c.resolve_right hx⟩
 have:=key l.length (Nat.le_refl _);rwa [List.take_length] at this
def ClMap (w:World) (b n:Nat) (l:List Int):Prop:=w.ownsMap Tryz.prog 3 (plainElem Tryz.prog 4) b n (clD l)
theorem ClMap.below {w w':World} {b n:Nat} {l:List Int} {B:Nat} (h:ClMap w b n l) (hb:Below B w w') (hB:b<B):ClMap w' b n l:=by
 obtain ⟨es,clock,h1,F,hs,hD⟩:=h;exact ⟨es,clock,(hb.block b hB).trans h1,F,hs,hD⟩
theorem plainElem_bool_inv {H:Type} {P:Program} {e:TypeId} (he:P.underlying e=some .bool) {v:Value} {z:DataW H×List MemPlace} (h:plainElem P e v=some z):∃ x,v = .bool x∧z=(.lit (.bool x),[]):=by
 unfold plainElem at h;rw [he] at h
 cases v <;> simp at h
 subst h;exact ⟨_,rfl,rfl⟩
theorem ClMap.look {w:World} {b n:Nat} {l:List Int} (h:ClMap w b n l) {x:Int} (hx:wf64 x):(Instr.lookup 134 (.map (some b)) (.int .i64 x) false).run Tryz.prog w = .ok (.bool (decide (x∈l))) w:=by
 have hz:(zeroValue 4).run Tryz.prog w = .ok (.bool false) w:=by kernel_rfl
 obtain ⟨v,ps,hrun,hv⟩:=World.ownsMap.lookup h (int_keyed Tryz.underlying3) Tryz.underlying134 hz (plainElem_bool Tryz.underlying4 false) (keyOf_int_mk Tryz.underlying3 (wf64_lit.2 hx));obtain ⟨c,rfl,hc⟩:=plainElem_bool_inv Tryz.underlying4 hv;rw [(clD_map l).2 x] at hc;injection hc with hc _;injection hc with hc;injection hc with hc;rw [hrun,hc]
theorem closed_any (w:World) (B:Nat) (A:Option Addr) (l:List Int) (c:Nat) (h:IntsAt w B A l) (hB:B≤w.heap.size) (hl:l.length≤4611686018427387904) (hw:∀ x∈l,wf64 x) :
 Calls Tryz.prog 86 #[.slice A l.length c] w fun e w'=>e = .returned (.map (some w.heap.size))∧ClMap w' w.heap.size l.length l∧Below w.heap.size w w':=by
 have hmm := @run_makeMap Tryz.prog;go_enter Tryz.func86,Tryz.ntmps86
 go_wp2_with fail
 go_loopw [9] (fun i wr=>∃ k:Nat,k≤l.length∧i = .int .i64 (k:Int)∧ClMap wr w.heap.size k (l.take k)∧Below w.heap.size w wr) (fun i _=>l.length - (intOf i).toNat)
 case atStart=>exact ⟨0,Nat.zero_le _,rfl,World.ownsMap_made _ _ _ _,(Below.refl _ _).alloc (Nat.le_refl _) _⟩
 case round=>
  obtain ⟨k,hk,rfl,hown,hnx⟩:=hrel;by_cases hlt:k<l.length
  · obtain ⟨x,hx⟩:∃ x,l[k]? = some x:=⟨_,List.getElem?_eq_getElem hlt⟩
    have hwx:=hw x (List.mem_of_getElem? hx);obtain ⟨g,off,hA,hg,hc⟩:=h k x hx;subst hA;have hcell:=(hnx.cell (p:=⟨g,off+k,none⟩) (by show g<w.heap.size;omega)).trans hc;have hkey:=keyOf_int_mk Tryz.underlying3 (wf64_lit.2 hwx);have HX:=hd_ hx
    have hsn:clD (l.take (k+1))=(clD (l.take k)).put (.int .i64 x) (.lit (.bool true)):=by
     obtain ⟨hk',hx'⟩:=List.getElem?_eq_some_iff.1 hx;rw [List.take_succ_eq_append_getElem hk',clD_snoc,hx']
    have HSN:=hd_ hsn;clear hx hc hsn;unfold ClMap at hown;go_wp2_with (at_mapUpdate;refine wpList_mapUpdate_own _ rfl _ _ _ 134 rfl 3 4 (int_keyed Tryz.underlying3) Tryz.underlying134 _ w.heap.size k _ rfl hown (by unfold maxLen;omega) _ _ _ rfl rfl hkey _ [] (plainElem_bool Tryz.underlying4 true) ?_;intro w1 hown1 hgrow1)
    go_roundw
    case rel=>exact ⟨k+1,by omega,by go_num,(by unfold ClMap;rw [HSN.out];exact hown1),hnx.grown hgrow1 hnx.size (fun j hj=>by cases hj;exact Nat.le_refl _)⟩
    case measure=>simp [intOf];omega
  · obtain rfl:k=l.length:=by omega
    rw [List.take_length] at hown;go_wp2
    go_ret
    exact ⟨rfl,hown,hnx⟩
def opB (l:List Int) (n:Int):Bool:=isB n && decide (wkd n<5) && !decide (n∈l)
theorem open_any (w:World) (b k:Nat) (l:List Int) (h:ClMap w b k l) (n:Int) :
 Calls Tryz.prog 87 #[.map (some b),.int .i64 n] w fun e w'=>e = .returned (.bool (opB l n))∧w=w':=by
 cases hi:isB n with
 | false=>
  have e:opB l n=false:=by unfold opB;rw [hi];rfl
  rw [e];have HI:=hd_ hi;clear hi e;go_enter Tryz.func87,Tryz.ntmps87
  go_wp2_with fail
  refine (is_any _ n).mono ?_;rintro e w1 ⟨rfl,rfl⟩;rw [HI.out];go_wp2
  go_ret
  exact ⟨rfl,rfl⟩
 | true=>
  have hn:=(isB_iff n).1 hi;have hk:=h.look (x:=n) (by unfold wf64;omega);obtain ⟨c,hc⟩:∃ c,decide (n∈l)=c:=⟨_,rfl⟩;have e:opB l n=(decide (wkd n<5) && !c):=by unfold opB;rw [hi,hc];rfl
  rw [hc] at hk;rw [e];have HI:=hd_ hi;clear hi e hc;by_cases h5:wkd n<5
  · rw [show decide (wkd n<5)=true by simpa using h5]
    go_enter Tryz.func87,Tryz.ntmps87
    go_wp2_with fail
    refine (is_any _ n).mono ?_;rintro e w1 ⟨rfl,rfl⟩;rw [HI.out];go_wp2_with fail
    refine (weekday_any _ n).mono ?_;rintro e w1 ⟨rfl,rfl⟩
    cases c with
    | false=>
     go_wp2
     go_ret
     exact ⟨rfl,rfl⟩
    | true=>
     go_wp2
     go_ret
     exact ⟨rfl,rfl⟩
  · rw [show decide (wkd n<5)=false by simpa using h5]
    go_enter Tryz.func87,Tryz.ntmps87
    go_wp2_with fail
    refine (is_any _ n).mono ?_;rintro e w1 ⟨rfl,rfl⟩;rw [HI.out];go_wp2_with fail
    refine (weekday_any _ n).mono ?_;rintro e w1 ⟨rfl,rfl⟩;go_wp2
    go_ret
    exact ⟨rfl,rfl⟩
theorem work_any (w:World) (B:Nat) (A:Option Addr) (l:List Int) (c:Nat) (h:IntsAt w B A l) (hB:B≤w.heap.size) (hl:l.length≤4611686018427387904) (hw:∀ x∈l,wf64 x) (n:Int) :
 Calls Tryz.prog 94 #[.int .i64 n,.slice A l.length c] w fun e w'=>e = .returned (.bool (opB l n))∧Below w.heap.size w w':=by
 go_enter Tryz.func94,Tryz.ntmps94
 go_wp2_with fail
 refine (closed_any w B A l c h hB hl hw).mono ?_;rintro e w1 ⟨rfl,hm,hb⟩;go_wp2_with fail
 refine (open_any _ _ _ _ hm n).mono ?_;rintro e w2 ⟨rfl,rfl⟩;go_wp2
 go_ret
 exact ⟨rfl,hb⟩
section
variable {P : Program} {ops : Array Oper} {md : Region.Mode} {Q : Exit → Act → World → Prop} {w : World}
def reachB (md:Region.Mode) (ops:Array Oper):Nat→Nat→Nat→Bool
 | 0,_,_=>false
 | f+1,t,g=>match ops[t]? with
  | some o=>o.after.any fun e=>Region.binds md e && (e.on == g || reachB md ops f e.on g)
  | none=>false
def Closed (md:Region.Mode) (ops:Array Oper) (listed:Array Bool):Prop:=
 ∀ j oj,ops[j]? = some oj→listed.getD j false=true→∀ e∈oj.after,Region.binds md e=true→listed.getD e.on false=true
theorem reach_not {listed:Array Bool} (hc:Closed md ops listed) {g:Nat} (hg:listed.getD g false=false) :
 ∀ (f t:Nat),reachB md ops f t g=true→listed.getD t false=false∧t∉Region.ready md ops listed:=by
 intro f
 induction f with
 | zero=>intro t h;cases h
 | succ f ih=>
  intro t h;unfold reachB at h
  cases ho:ops[t]? with
  | none=>rw [ho] at h;cases h
  | some o=>
   rw [ho] at h;obtain ⟨e,he,hb⟩:=Array.any_eq_true'.1 h;simp only [Bool.and_eq_true,Bool.or_eq_true,beq_iff_eq] at hb
   have hon:listed.getD e.on false=false:=by
    rcases hb.2 with h1 | h1
    · rw [h1];exact hg
    · exact (ih e.on h1).1
   refine ⟨?_,fun hr=>?_⟩
   · cases hl:listed.getD t false with
     | false=>rfl
     | true=>rw [hc t o ho hl e he hb.1] at hon;cases hon
   · obtain ⟨_,o',ho',hall⟩:=mem_ready.1 hr
     have:o'=o:=Option.some.inj (ho'.symm.trans ho);subst this;rw [hall e he hb.1] at hon
     cases hon
theorem Closed.set {i:Nat} {listed:Array Bool} (hc:Closed md ops listed) (hi:i∈Region.ready md ops listed):Closed md ops (listed.setIfInBounds i true):=by
 obtain ⟨_,oi,hoi,hall⟩:=mem_ready.1 hi;intro j oj hoj hl e he hb;by_cases hij:i=j
 · subst hij
   have:oj=oi:=Option.some.inj (hoj.symm.trans hoi);subst this;exact getD_set_true (hall e he hb)
 · rw [getD_set_ne false hij] at hl
   exact getD_set_true (hc j oj hoj hl e he hb)
def waitB (md:Region.Mode) (ops:Array Oper) (rest:List Nat) (hs:List Nat):Bool:=rest.all fun t=>hs.all fun g=>reachB md ops ops.size t g
def pick (l:List Oper):List Nat→List Oper
 | []=>[]
 | i::is=>(l.drop i).head?.toList++pick l is
def headB (md:Region.Mode) (ops:Array Oper):List Nat→Array Bool→Option (Array Bool)
 | [],listed=>some listed
 | k::ks,listed=>if (Region.ready md ops listed).contains k && Region.free md ops listed k then headB md ops ks (listed.setIfInBounds k true) else none
def tailB (md:Region.Mode) (ops:Array Oper):List Nat→Array Bool→Bool
 | [],listed=>(Region.ready md ops listed).isEmpty
 | t::ts,listed=>decide (Region.ready md ops listed=[t]) && tailB md ops ts (listed.setIfInBounds t true)
theorem wpAny_tail {l:List Oper} : ∀ (ts:List Nat) (listed:Array Bool) (a:Act) (w:World),tailB md l.toArray ts listed=true→wpList P l.toArray Q (pick l ts) a w →
 wpAny P md l.toArray Q ts.length listed a w
 | [],_,_,_,hB,h=>⟨by simpa [tailB] using hB,h⟩
 | t::ts,listed,a,w,hB,h=>by
  simp only [tailB,Bool.and_eq_true,decide_eq_true_eq] at hB;have hr':t∈Region.ready md l.toArray listed:=by rw [hB.1];simp
  obtain ⟨_,o,h0,_⟩:=mem_ready.1 hr'
  have hp:pick l (t::ts)=o::pick l ts:=by
   have:l[t]? = some o:=by simpa using h0
   simp [pick,this]
  rw [hp] at h;refine ⟨fun h1=>(by rw [hB.1] at h1;cases h1),fun i hi=>?_⟩;rw [hB.1] at hi;obtain rfl:i=t:=by simpa using hi
  have hw:wpOp P l.toArray Q i (wpList P l.toArray Q (pick l ts)) a w:=by unfold wpOp;simp only [h0];exact h
  exact wpOp_mono (fun a' w' h'=>wpAny_tail ts _ a' w' hB.2 h') hw
def wpAnyE (P:Program) (md:Region.Mode) (ops:Array Oper) (Q:Exit→Act→World→Prop) (S:World→Prop) (late:Nat→Bool):Nat→Array Bool→Act→World→Prop
 | 0,listed,a,w=>Region.ready md ops listed=[]∧Q .normal a w
 | fuel+1,listed,a,w=>
  (Region.ready md ops listed=[]→Q .normal a w) ∧
  ∀ i∈Region.ready md ops listed,wpOp P ops Q i (fun a' w'=>(late i=false→S w')∧wpAnyE P md ops Q S late fuel (listed.setIfInBounds i true) a' w') a w
theorem wpAny_of_E {S:World→Prop} {late:Nat→Bool} : ∀ (fuel:Nat) (listed:Array Bool) (a:Act) (w:World),wpAnyE P md ops Q S late fuel listed a w→wpAny P md ops Q fuel listed a w
 | 0,_,_,_,h=>h
 | fuel+1,_,_,_,h=>⟨h.1,fun i hi=>wpOp_mono (fun a' w' h'=>wpAny_of_E fuel _ a' w' h'.2) (h.2 i hi)⟩
theorem wpAnyE_first {S:World→Prop} {late:Nat→Bool} {i:Nat} {oi:Oper} {v:Value} (hi:ops[i]? = some oi) (hsel:∀ (j:Nat) (o:Oper) cs b,ops[j]? = some o→o.op≠.select cs b)
 (hQ:∀ c a w,Q (.panic c) (a.put oi.dst v) w→Q (.panic c) a w) (hlate:∀ j,late j=true→reachB md ops ops.size j i=true) (hli:late i=false) :
 ∀ (fuel:Nat) (listed:Array Bool) (a:Act) (w:World),Closed md ops listed →
  (∀ j oj,ops[j]? = some oj→j≠i→listed.getD j true=false→(∀ e∈oj.after,Region.binds md e=true→e.on≠i)→oi.apart ops oj=true) →
  i∈Region.ready md ops listed→YieldsIf P ops S oi v a→S w →
  wpAnyE P md ops Q S late fuel (listed.setIfInBounds i true) (a.put oi.dst v) w→wpAnyE P md ops Q S late (fuel+1) listed a w:=by
 intro fuel
 induction fuel with
 | zero=>
  intro listed a w hc _ hr hy hS H;refine ⟨fun h=>(by rw [h] at hr;cases hr),fun j hj=>?_⟩;by_cases hji:j=i
  · subst hji;exact hy.wpOp hi hS ⟨fun _=>hS,H⟩
  · have:=ready_mono hj hji
    rw [H.1] at this
    cases this
 | succ fuel ih=>
  intro listed a w hc hfree hr hy hS H;refine ⟨fun h=>(by rw [h] at hr;cases hr),fun j hj=>?_⟩;by_cases hji:j=i
  · subst hji;exact hy.wpOp hi hS ⟨fun _=>hS,H⟩
  · have h1:=H.2 j (ready_mono hj hji)
    have hun:=(mem_ready.1 hr).1
    have hlj:late j=false:=by
     cases hl:late j with
     | false=>rfl
     | true=>exact absurd hj (reach_not hc (getD_both hun) _ _ (hlate j hl)).2
    obtain ⟨hjun,oj,hoj,hall⟩:=mem_ready.1 hj
    have hnot:∀ e∈oj.after,Region.binds md e=true→e.on≠i:=fun e he hb heq=>by
     have h1:=hall e he hb;rw [heq,getD_both hun] at h1
     cases h1
    have h2:=wpOp_putIf hoj (hfree j oj hoj hji hjun hnot) (fun cs b=>hsel i oi cs b hi) (fun cs b=>hsel j oj cs b hoj) hQ hy h1
    have hfree':∀ k ok,ops[k]? = some ok→k≠i→(listed.setIfInBounds j true).getD k true=false →
     (∀ e∈ok.after,Region.binds md e=true→e.on≠i)→oi.apart ops ok=true:=fun k ok hk hki hun hno=>by
     refine hfree k ok hk hki ?_ hno;by_cases hjk:j=k
     · subst hjk;exact hjun
     · rw [getD_set_ne true hjk] at hun;exact hun
    refine wpOp_mono (fun a' w' h3=>⟨fun _=>h3.2.1 hlj,ih (listed.setIfInBounds j true) a' w' (hc.set hj) hfree' (ready_mono hr (Ne.symm hji)) h3.1 (h3.2.1 hlj) ?_⟩) h2;rw [Array.setIfInBounds_comm _ _ hji];exact h3.2.2
def wpHeld (P:Program) (ops:Array Oper) (S:World→Prop) (K:Act→Prop):List Oper→Act→Prop
 | [],a=>K a
 | o::rest,a=>∃ v,YieldsIf P ops S o v a∧wpHeld P ops S K rest (a.put o.dst v)
theorem wpHeld_nil {S:World→Prop} {K:Act→Prop} {a:Act} (h:K a):wpHeld P ops S K [] a:=h
theorem wpHeld_step {S:World→Prop} {K:Act→Prop} {a:Act} {o:Oper} {rest:List Oper} (v:Value) (hg:o.guard=none) (h:∀ w,S w→(execOp a.eval o).run P w = .ok (.value v) w) (hK:wpHeld P ops S K rest (a.put o.dst v)) :
 wpHeld P ops S K (o::rest) a:=⟨v,.inl ⟨by simp [Region.wanted,hg],h⟩,hK⟩
def wpEarly (P:Program) (ops:Array Oper) (S:World→Prop) (Q:Exit→Act→World→Prop) (K:Act→World→Prop):List Oper→Act→World→Prop
 | [],a,w=>K a w
 | o::rest,a,w=>wpList P ops (Exit.then (fun a' w'=>S w'∧wpEarly P ops S Q K rest a' w') Q) [o] a w
theorem wpOp_of_one {i:Nat} {o:Oper} {K:Act→World→Prop} {a:Act} (hi:ops[i]? = some o) (h:wpList P ops (Exit.then K Q) [o] a w):wpOp P ops Q i K a w:=by
 unfold wpOp;simp only [hi];unfold wpList at h
 split
 · rename_i hw
   rw [if_pos hw] at h;rcases h with h | ⟨h1,a0,w0,h2⟩
   · left
     unfold Oper.wp at *;generalize (execOp a.eval o).run P w=r at *
     cases r with
     | ok n w'=>
      cases n <;> simp only [Oper.upon] at h ⊢ <;>
       first
        | exact h
        | exact Calls.mono h (fun e w'' he=>by cases e <;> first | exact he | (obtain ⟨a1,w1,h1⟩:=he;exact ⟨a1,w1,h1⟩))
        | exact Rows.mono h (fun _ _ he=>he)
     | halt x w'=>cases x <;> simp only [Oper.upon] at h ⊢ <;> exact h
   · exact .inr ⟨h1,a0,w0,h2⟩
 · rename_i hw
   rw [if_neg hw] at h;exact h
def heldB (l:List Oper) (hs es fs:List Nat):Bool:=
 Region.noSelect l.toArray && decide (hs.length+es.length+fs.length=l.length) && waitB .any l.toArray fs hs && (hs.all fun i => !fs.contains i) &&
 match headB .any l.toArray hs (Array.replicate l.length false) with
 | none=>false
 | some l2=>tailB .any l.toArray (es++fs) l2
theorem wpAnyE_tail {l:List Oper} {S:World→Prop} {late:Nat→Bool} : ∀ (ts:List Nat) (listed:Array Bool) (a:Act) (w:World),(∀ t∈ts,late t=true)→tailB md l.toArray ts listed=true→wpList P l.toArray Q (pick l ts) a w →
 wpAnyE P md l.toArray Q S late ts.length listed a w
 | [],_,_,_,_,hB,h=>⟨by simpa [tailB] using hB,h⟩
 | t::ts,listed,a,w,hl,hB,h=>by
  simp only [tailB,Bool.and_eq_true,decide_eq_true_eq] at hB;have hr':t∈Region.ready md l.toArray listed:=by rw [hB.1];simp
  obtain ⟨_,o,h0,_⟩:=mem_ready.1 hr'
  have hp:pick l (t::ts)=o::pick l ts:=by
   have:l[t]? = some o:=by simpa using h0
   simp [pick,this]
  rw [hp] at h;refine ⟨fun h1=>(by rw [hB.1] at h1;cases h1),fun i hi=>?_⟩;rw [hB.1] at hi;obtain rfl:i=t:=by simpa using hi
  have hw:wpOp P l.toArray Q i (wpList P l.toArray Q (pick l ts)) a w:=by unfold wpOp;simp only [h0];exact h
  exact wpOp_mono (fun a' w' h'=>⟨fun h2=>(by rw [hl i (by simp)] at h2;cases h2),wpAnyE_tail ts _ a' w' (fun t ht=>hl t (by simp [ht])) hB.2 h'⟩) hw
theorem wpAnyE_early {l:List Oper} {S:World→Prop} {late:Nat→Bool} {fs:List Nat} (hl:∀ t∈fs,late t=true):∀ (es:List Nat) (listed:Array Bool) (a:Act) (w:World),tailB md l.toArray (es++fs) listed=true →
 wpEarly P l.toArray S Q (fun a w=>wpList P l.toArray Q (pick l fs) a w) (pick l es) a w→wpAnyE P md l.toArray Q S late (es.length+fs.length) listed a w
 | [],listed,a,w,hB,h=>by
  rw [List.length_nil,Nat.zero_add];exact wpAnyE_tail fs listed a w hl hB h
 | t::ts,listed,a,w,hB,h=>by
  simp only [List.cons_append,tailB,Bool.and_eq_true,decide_eq_true_eq] at hB;have hr':t∈Region.ready md l.toArray listed:=by rw [hB.1];simp
  obtain ⟨_,o,h0,_⟩:=mem_ready.1 hr'
  have hp:pick l (t::ts)=o::pick l ts:=by
   have:l[t]? = some o:=by simpa using h0
   simp [pick,this]
  rw [hp] at h;rw [show (t::ts).length+fs.length=(ts.length+fs.length)+1 by simp;omega];refine ⟨fun h1=>(by rw [hB.1] at h1;cases h1),fun i hi=>?_⟩;rw [hB.1] at hi;obtain rfl:i=t:=by simpa using hi
  exact wpOp_mono (fun a' w' h'=>⟨fun _=>h'.1,wpAnyE_early hl ts _ a' w' hB.2 h'.2⟩) (wpOp_of_one h0 h)
theorem wpAnyE_held {l:List Oper} {S:World→Prop} {late:Nat→Bool} {K:Act→Prop} {hs:List Nat} {listed2:Array Bool} {g:Nat} (hsel:Region.noSelect l.toArray=true) (hQ:∀ c (d:Option Tmp) (v:Value) a w,Q (.panic c) (a.put d v) w→Q (.panic c) a w)
 (hlate:∀ j i,i∈hs→late j=true→reachB md l.toArray l.toArray.size j i=true) (hln:∀ i∈hs,late i=false) (hS:S w)
 (hK:∀ a,K a→wpAnyE P md l.toArray Q S late g listed2 a w) :
 ∀ (ks:List Nat) (listed:Array Bool) (a:Act),(∀ k∈ks,k∈hs)→Closed md l.toArray listed→headB md l.toArray ks listed=some listed2 →
 wpHeld P l.toArray S K (pick l ks) a→wpAnyE P md l.toArray Q S late (ks.length+g) listed a w
 | [],listed,a,_,_,hB,h=>by
  simp only [headB,Option.some.injEq] at hB;subst hB;rw [List.length_nil,Nat.zero_add];exact hK a h
 | k::ks,listed,a,hk,hc,hB,h=>by
  unfold headB at hB
  split at hB
  · rename_i hrf
    simp only [Bool.and_eq_true] at hrf;have hr':k∈Region.ready md l.toArray listed:=by simpa using hrf.1
    obtain ⟨_,o,h0,_⟩:=mem_ready.1 hr'
    have hp:pick l (k::ks)=o::pick l ks:=by
     have:l[k]? = some o:=by simpa using h0
     simp [pick,this]
    rw [hp] at h;obtain ⟨v,hy,hr⟩:=h;rw [show (k::ks).length+g=(ks.length+g)+1 by simp;omega]
    exact wpAnyE_first h0 (Region.noSelect_spec hsel) (fun c a w=>hQ c _ _ a w) (fun j=>hlate j k (hk k (by simp))) (hln k (hk k (by simp))) _ listed a w hc (Region.free_spec h0 hrf.2) hr' hy hS
     (wpAnyE_held hsel hQ hlate hln hS hK ks _ _ (fun k' h'=>hk k' (by simp [h'])) (hc.set hr') hB hr)
  · cases hB
theorem wp_region_hold {id:Nat} {l:List Oper} {a:Act} (S:World→Prop) (hs es fs:List Nat) (hm:P.follows .mixedOrders=true) (hB:heldB l hs es fs=true)
 (hQ:∀ c (d:Option Tmp) (v:Value) a w,Q (.panic c) (a.put d v) w→Q (.panic c) a w) (hS:S w.drew)
 (h:wpHeld P l.toArray S (fun a'=>wpEarly P l.toArray S Q (fun a w=>wpList P l.toArray Q (pick l fs) a w) (pick l es) a' w.drew) (pick l hs) a):(Code.region id l.toArray true).wp P Q a w:=by
 simp only [heldB,Bool.and_eq_true,decide_eq_true_eq] at hB;obtain ⟨⟨⟨⟨hsel,hlen⟩,hw⟩,hnf⟩,hrest⟩:=hB
 cases h2:headB .any l.toArray hs (Array.replicate l.length false) with
 | none=>rw [h2] at hrest;cases hrest
 | some l2=>
  rw [h2] at hrest;simp only at hrest;have hc0:Closed .any l.toArray (Array.replicate l.length false):=fun j oj _ hl=>by rw [getD_replicate_false] at hl;cases hl
  refine wp_region_any hm ?_
  have key:=wpAnyE_held (P:=P) (Q:=Q) (md:=.any) (w:=w.drew) (S:=S) (late:=fun j=>fs.contains j) (hs:=hs) (g:=es.length+fs.length) hsel hQ
   (fun j i hi hj=>List.all_eq_true.1 (List.all_eq_true.1 hw j (by simpa using hj)) i hi) (fun i hi=>by simpa using List.all_eq_true.1 hnf i hi) hS
   (fun a' ha'=>wpAnyE_early (fun t ht=>by simpa using ht) es l2 a' w.drew hrest ha') hs (Array.replicate l.length false) a (fun k hk=>hk) hc0 h2 h
  have k3:=wpAny_of_E _ _ _ _ key;have:l.length=hs.length+(es.length+fs.length):=by omega
  rw [← this] at k3;have hsz:l.toArray.size=l.length:=by simp
  rw [hsz];exact k3
end
def bc (l:List UInt8):List Value:=l.map fun b=>Value.int .u8 (b.toNat:Int)
section
variable {P : Program} {w : World} {ops : Array Oper} {rest : List Oper} {o : Oper} {a : Act} {Q : Exit → Act → World → Prop}
theorem only_setRow (w:World) (g:Nat) (cs:Array Value):Only (· = g) w (w.setRow g cs):=
 ⟨rfl,rfl,rfl,by simp [World.setRow],fun i _ hn=>setRow_other w g i cs hn⟩
theorem size_setRow (w:World) (g:Nat) (cs:Array Value):(w.setRow g cs).heap.size=w.heap.size:=by simp [World.setRow]
theorem run_max2 (x y z:Int) (h:z=max x y) (ts:Array TypeId) (t:TypeId) (W:World):(Builtin.max_ ts t #[.int .i64 x,.int .i64 y]).run P W = .ok (.int .i64 z) W:=by
 rw [run_max_int2];congr 2;subst h;split <;> omega
theorem run_min2 (x y z:Int) (h:z=min x y) (ts:Array TypeId) (t:TypeId) (W:World):(Builtin.min_ ts t #[.int .i64 x,.int .i64 y]).run P W = .ok (.int .i64 z) W:=by
 rw [run_min_int2];congr 2;subst h;split <;> omega
theorem run_make_one (t e:TypeId) (z:Value) (b:Nat) (ht:P.underlying t=some (.slice e)) (hinfo:(P.info? e).map (fun i=>(i.zero,i.size,i.bytes))=some (some z,1,b)) (hz1:z.cells=#[z])
 (x:Int) (n:Nat) (hx:x=n) (hb:b*n≤281474976710656) (hn:n≤9223372036854775807) (W:World) :
 (Instr.makeSlice t (.int .i64 x) (.int .i64 x)).run P W = .ok (.slice (some ⟨W.heap.size,0,none⟩) n n) (W.alloc (.cells (List.replicate n z).toArray e)):=by
 subst hx;obtain ⟨i,hi,h1,h2,h3⟩:=info_parts hinfo
 have hb':(i.bytes:Int)*(n:Int)≤281474976710656:=by
  rw [h3];have h:((b*n:Nat):Int)≤281474976710656:=by omega
  rwa [Int.natCast_mul] at h
 have hr:=run_make (P:=P) W t e i z ht hi h1 .i64 .i64 n n (by omega) (by omega) hb' (by omega);simp only [Int.toNat_natCast] at hr;rw [hr,h2,hz1,Nat.mul_one]
 have:madeCells #[z] n=(List.replicate n z).toArray:=by
  apply Array.toList_inj.1;rw [toList_madeCells_one]
 rw [this]
theorem wp_region_tail {id:Nat} {l:List Oper} (n:Nat) (hm:P.follows .mixedOrders=true) (hB:Region.lexTailB .any l.toArray n=true)
 (h:wpStill P l.toArray w.drew (fun a'=>wpList P l.toArray Q (l.drop n) a' w.drew) (l.take n) a):(Code.region id l.toArray true).wp P Q a w:=
 wp_region_still_tail n hm hB h
end
end Go.Proofs.YtknchlpcpgflkaaGreatDoor
