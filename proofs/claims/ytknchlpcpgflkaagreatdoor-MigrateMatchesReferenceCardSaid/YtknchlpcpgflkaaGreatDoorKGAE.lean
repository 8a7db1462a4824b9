import Derived.Test.YtknchlpcpgflkaaGreatDoorKGAB
import Derived.Maps.AppendAt
import Derived.Test.YtknchlpcpgflkaaGreatDoorKGAD
set_option maxRecDepth 100000
set_option maxHeartbeats 16000000
namespace Go.Proofs.YtknchlpcpgflkaaGreatDoor
open Go.RowKit
section
variable {P : Program} {md : Region.Mode} {ops : Array Oper} {Q : Exit → Act → World → Prop}
def setAll (ks:List Nat) (listed:Array Bool):Array Bool:=ks.foldl (fun b k=>b.setIfInBounds k true) listed
theorem headB_set {ops:Array Oper} : ∀ (ks:List Nat) (listed l2:Array Bool),headB md ops ks listed=some l2→setAll ks listed=l2
 | [],_,_,h=>by simp only [headB,Option.some.injEq] at h;exact h
 | k::ks,listed,l2,h=>by
  unfold headB at h
  split at h
  · exact headB_set ks _ _ h
  · cases h
def lateB (n:Nat) (fs:List Nat) (listed:Array Bool):Bool:=(List.range n).all fun j=>listed.getD j false || fs.contains j
def wpBush (P:Program) (l:List Oper) (S:World→Prop) (Q:Exit→Act→World→Prop) (gs ts:List Nat):Nat→Array Bool→Act→World→Prop
 | 0,listed,a,w=>lateB l.toArray.size (gs++ts) listed=true∧(headB .any l.toArray gs listed).isSome=true∧tailB .any l.toArray ts (setAll gs listed)=true ∧
  wpHeld P l.toArray (fun _=>True) (fun a'=>wpList P l.toArray Q (pick l ts) a' w) (pick l gs) a
 | f+1,listed,a,w=>Region.ready .any l.toArray listed≠[]∧∀ i∈Region.ready .any l.toArray listed,
  wpList P l.toArray (Exit.then (fun a' w'=>S w'∧wpBush P l S Q gs ts f (listed.setIfInBounds i true) a' w') Q) (pick l [i]) a w
section
variable {l : List Oper} {S : World → Prop} {gs ts : List Nat} {listed : Array Bool} {a : Act} {w : World} {f : Nat}
theorem wpBush_end (hL:lateB l.toArray.size (gs++ts) listed=true) (hG:(headB .any l.toArray gs listed).isSome=true) (hB:tailB .any l.toArray ts (setAll gs listed)=true) (h:wpHeld P l.toArray (fun _=>True) (fun a'=>wpList P l.toArray Q (pick l ts) a' w) (pick l gs) a):wpBush P l S Q gs ts 0 listed a w:=⟨hL,hG,hB,h⟩
theorem wpBush_one (i:Nat) (hr:Region.ready .any l.toArray listed=[i])
 (h:wpList P l.toArray (Exit.then (fun a' w'=>S w'∧wpBush P l S Q gs ts f (listed.setIfInBounds i true) a' w') Q) (pick l [i]) a w):wpBush P l S Q gs ts (f+1) listed a w:=
 ⟨by rw [hr];simp,fun j hj=>by rw [hr] at hj;simp at hj;subst hj;exact h⟩
theorem wpBush_two (i k:Nat) (hr:Region.ready .any l.toArray listed=[i,k])
 (h:wpList P l.toArray (Exit.then (fun a' w'=>S w'∧wpBush P l S Q gs ts f (listed.setIfInBounds i true) a' w') Q) (pick l [i]) a w)
 (h2:wpList P l.toArray (Exit.then (fun a' w'=>S w'∧wpBush P l S Q gs ts f (listed.setIfInBounds k true) a' w') Q) (pick l [k]) a w):wpBush P l S Q gs ts (f+1) listed a w:=
 ⟨by rw [hr];simp,fun j hj=>by
  rw [hr] at hj;simp only [List.mem_cons,List.not_mem_nil,or_false] at hj;rcases hj with rfl | rfl <;> assumption⟩
end
theorem wpAnyE_any {ops:Array Oper} {S:World→Prop} {late:Nat→Bool} (hS:∀ w,S w):∀ (f:Nat) (listed:Array Bool) (a:Act) (w:World),wpAny P md ops Q f listed a w→wpAnyE P md ops Q S late f listed a w
 | 0,_,_,_,h=>h
 | f+1,_,_,_,h=>⟨h.1,fun i hi=>wpOp_mono (fun a' w' h'=>⟨fun _=>hS w',wpAnyE_any hS f _ a' w' h'⟩) (h.2 i hi)⟩
theorem wpAnyE_late {ops:Array Oper} {S:World→Prop} {late:Nat→Bool} : ∀ (f:Nat) (listed:Array Bool) (a:Act) (w:World),(∀ j,j<ops.size→listed.getD j false=false→late j=true)→wpAny P md ops Q f listed a w→wpAnyE P md ops Q S late f listed a w
 | 0,_,_,_,_,h=>h
 | f+1,listed,_,_,hl,h=>by
  refine ⟨h.1,fun i hi=>wpOp_mono (fun a' w' h'=>⟨fun hf=>?_,?_⟩) (h.2 i hi)⟩
  · obtain ⟨hn,o,ho,_⟩:=mem_ready.1 hi
    have hlt:i<ops.size:=by
     rcases Nat.lt_or_ge i ops.size with h1 | h1
     · exact h1
     · rw [Array.getElem?_eq_none h1] at ho;cases ho
    rw [hl i hlt (getD_both hn)] at hf
    cases hf
  · refine wpAnyE_late f _ a' w' (fun j hj hjl=>hl j hj ?_) h'
    by_cases hij:i=j
    · subst hij
      obtain ⟨hn,_⟩:=mem_ready.1 hi;exact getD_both hn
    · rw [getD_set_ne false hij] at hjl;exact hjl
theorem wpAnyE_bush {l:List Oper} {S:World→Prop} {gs ts:List Nat} (hsel:Region.noSelect l.toArray=true) (hQ:∀ c (d:Option Tmp) (v:Value) a w,Q (.panic c) (a.put d v) w→Q (.panic c) a w) :
 ∀ (f:Nat) (listed:Array Bool) (a:Act) (w:World),Closed .any l.toArray listed →
 wpBush P l S Q gs ts f listed a w→wpAnyE P .any l.toArray Q S (fun j=>(gs++ts).contains j) (f+(gs.length+ts.length)) listed a w
 | 0,listed,a,w,hc,h=>by
  rw [Nat.zero_add];obtain ⟨hb,h1,h2,h3⟩:=h
  cases h4:headB .any l.toArray gs listed with
  | none=>rw [h4] at h1;cases h1
  | some l2=>
   have hl2:=headB_set _ _ _ h4;rw [hl2] at h2;refine wpAnyE_late _ _ _ _ (fun j hj hjl=>?_) ?_
   · have:=List.all_eq_true.1 hb j (by simpa using hj)
     rw [hjl,Bool.false_or] at this;exact this
   refine wpAny_of_E (S:=fun _=>True) (late:=fun _=>false) _ _ _ _ ?_
   refine wpAnyE_held (P:=P) (Q:=Q) (md:=.any) (w:=w) (S:=fun _=>True) (late:=fun _=>false) (K:=fun a'=>wpList P l.toArray Q (pick l ts) a' w) (hs:=gs) (g:=ts.length) hsel hQ
    (fun j i hi hj=>by cases hj) (fun i hi=>rfl) trivial
    (fun a' ha'=>wpAnyE_any (fun _=>trivial) _ _ _ _ (wpAny_tail ts l2 a' w h2 ha')) gs listed a (fun k hk=>hk) hc h4 h3
 | f+1,listed,a,w,hc,h=>by
  rw [show f+1+(gs.length+ts.length)=(f+(gs.length+ts.length))+1 by omega];refine ⟨fun h0=>absurd h0 h.1,fun i hi=>?_⟩;obtain ⟨_,o,h0,_⟩:=mem_ready.1 hi
  have hp:pick l [i]=[o]:=by
   have:l[i]? = some o:=by simpa using h0
   simp [pick,this]
  have h2:=h.2 i hi;rw [hp] at h2;exact wpOp_mono (fun a' w' h'=>⟨fun _=>h'.1,wpAnyE_bush hsel hQ f _ a' w' (hc.set hi) h'.2⟩) (wpOp_of_one h0 h2)
def bushB (l:List Oper) (hs fs:List Nat) (n:Nat):Bool:=
 Region.noSelect l.toArray && decide (hs.length+n+fs.length=l.length) && waitB .any l.toArray fs hs && (hs.all fun i => !fs.contains i) && (headB .any l.toArray hs (Array.replicate l.length false)).isSome
theorem headB_closed {l:List Oper} : ∀ (ks:List Nat) (listed l2:Array Bool),Closed md l.toArray listed→headB md l.toArray ks listed=some l2→Closed md l.toArray l2
 | [],_,_,hc,h=>by simp only [headB,Option.some.injEq] at h;subst h;exact hc
 | k::ks,listed,l2,hc,h=>by
  unfold headB at h
  split at h
  · rename_i hrf
    simp only [Bool.and_eq_true] at hrf;exact headB_closed ks _ _ (hc.set (by simpa using hrf.1)) h
  · cases h
theorem wp_region_bush {id:Nat} {l:List Oper} {a:Act} {w:World} (S:World→Prop) (hs:List Nat) (n:Nat) (gs ts:List Nat) (hm:P.follows .mixedOrders=true) (hB:bushB l hs (gs++ts) n=true)
 (hQ:∀ c (d:Option Tmp) (v:Value) a w,Q (.panic c) (a.put d v) w→Q (.panic c) a w) (hS:S w.drew)
 (h:wpHeld P l.toArray S (fun a'=>wpBush P l S Q gs ts n (setAll hs (Array.replicate l.length false)) a' w.drew) (pick l hs) a):(Code.region id l.toArray true).wp P Q a w:=by
 simp only [bushB,Bool.and_eq_true,decide_eq_true_eq] at hB;obtain ⟨⟨⟨⟨hsel,hlen⟩,hw⟩,hnf⟩,hrest⟩:=hB
 cases h2:headB .any l.toArray hs (Array.replicate l.length false) with
 | none=>rw [h2] at hrest;cases hrest
 | some l2=>
  have hl2:=headB_set _ _ _ h2;rw [hl2] at h;have hc0:Closed .any l.toArray (Array.replicate l.length false):=fun j oj _ hl=>by rw [getD_replicate_false] at hl;cases hl
  have hc2:=headB_closed _ _ _ hc0 h2;refine wp_region_any hm ?_
  have key:=wpAnyE_held (P:=P) (Q:=Q) (md:=.any) (w:=w.drew) (S:=S) (late:=fun j=>(gs++ts).contains j) (hs:=hs) (g:=n+(gs.length+ts.length)) hsel hQ
   (fun j i hi hj=>List.all_eq_true.1 (List.all_eq_true.1 hw j (List.contains_iff_mem.1 hj)) i hi) (fun i hi=>by have:=List.all_eq_true.1 hnf i hi;cases hc:(gs++ts).contains i;rfl;rw [hc] at this;cases this) hS
   (fun a' ha'=>wpAnyE_bush hsel hQ n l2 a' w.drew hc2 ha') hs (Array.replicate l.length false) a (fun k hk=>hk) hc0 h2 h
  have k3:=wpAny_of_E _ _ _ _ key;rw [List.length_append] at hlen;have:l.length=hs.length+(n+(gs.length+ts.length)):=by omega
  rw [← this] at k3;have hsz:l.toArray.size=l.length:=by simp
  rw [hsz];exact k3
theorem wp_region_tailB {id:Nat} {l:List Oper} {a:Act} {w:World} (n:Nat) (hm:P.follows .mixedOrders=true) (hB:Region.lexTailB .any l.toArray n=true)
 (h:wpStill P l.toArray w.drew (fun a'=>wpList P l.toArray Q (l.drop n) a' w.drew) (l.take n) a):(Code.region id l.toArray true).wp P Q a w:=
 wp_region_still_tail n hm hB h
theorem wpList_append_any {w:World} {rest:List Oper} {o:Oper} {a:Act} (hgd:o.guard=none) (s x:Operand) (t:TypeId)
 (ho:o.op = .call { callee:=.builtin .append,args:=#[s,x],argTypes:=#[t,t] })
 (base:Nat) (e:TypeId) (i:TypeInfo) (z:Value) (size bytes:Nat) (ht:P.underlying t=some (.slice e)) (hi:P.info? e=some i) (hz:i.zero=some z)
 (hsize:i.size=size) (hby:i.bytes=bytes) (hzs:z.cells.size=size) (hsz:0<size)
 (v:Value) (n:Nat) (xs:List Value) (hs:a.eval s=v) (hown:w.ownsRow base e size v n xs)
 (A:Option Addr) (m c:Nat) (news:List Value) (hx:a.eval x = .slice A m c) (hl:news.length=m*size) (hnews:∀ j u,news[j]? = some u→∃ ad,A=some ad∧w.cell? (ad.add j)=some u) (h1:∀ u∈news,u.oneCell'=true)
 (h63:n+m≤maxLen) (hbytes:(n+m)*bytes≤140737488355328) (hbase:base≤w.heap.size)
 (h:∀ v' w',w'.ownsRow base e size v' (n+m) (xs++news)→w.grownBy w' v.ownBlock→(v'.ownBlock=v.ownBlock∨v'.ownBlock=some w.heap.size)→wpList P ops Q rest (a.put o.dst v') w') :
 wpList P ops Q (o::rest) a w:=by
 cases A with
 | some ad=>
  refine wpList_append_own_at w hgd s x t ho base e i z size bytes ht hi hz hsize hby hzs hsz v n xs hs hown ad m c news hx hl (fun j u hj=>?_) h1 h63 hbytes hbase (fun v' w' h2 h3 _ h5=>h v' w' h2 h3 h5);obtain ⟨ad',e1,e2⟩:=hnews j u hj;injection e1 with e1;rw [e1];exact e2
 | none=>
  have hn:news=[]:=by
   match news,hnews with
   | [],_=>rfl
   | u::us,hnews=>obtain ⟨_,e1,_⟩:=hnews 0 u rfl;cases e1
  subst hn
  have hm:m=0:=by
   rcases Nat.eq_zero_or_pos m with h0 | h0
   · exact h0
   · have:=Nat.mul_pos h0 hsz
     simp at hl;omega
  subst hm;refine wpList_plain hgd fun K hK=>?_
  have hr:(Builtin.append_ #[t,t] o.type #[v,.slice none 0 c]).run P w = .ok v w:=by
   rcases hown.2 with ⟨rfl,rfl⟩ | ⟨g,cap,cur,rfl,_,_,hnc,_⟩
   · simp [Builtin.append_,run_underlying ht,sizeOf,typeInfo,hi,Builtin.lenOf,Builtin.firstCells]
   · simp [Builtin.append_,run_underlying ht,sizeOf,typeInfo,hi,Builtin.lenOf,Builtin.firstCells,hnc,storeCells]
  unfold Oper.wp execOp;simp only [ho,resolve,invoke,builtin,Sem.run_bind,Sem.run_pure,Result.andThen_ok,List.map_toArray,List.map_cons,List.map_nil,hs,hx,hr];exact hK _ _ (h v w (by simpa using hown) ⟨rfl,rfl,rfl,Nat.le_refl _,fun _ _ _=>rfl⟩ (.inl rfl))
end
open Go.RowKit Go.Shelf
def stopCells (S:List Stp2):List Value:=S.flatMap encStop
theorem stopCells_len (S:List Stp2):(stopCells S).length=S.length*2:=by
 induction S with
 | nil=>rfl
 | cons s S ih=>simp only [stopCells,List.flatMap_cons,List.length_append,List.length_cons] at *;rw [ih];simp [encStop];omega
theorem stopCells_at:∀ (S:List Stp2) (i:Nat) (s:Stp2),S[i]? = some s→(stopCells S)[i*2]? = some (.int .i64 s.1)∧(stopCells S)[i*2+1]? = some (.int .i64 s.2)
 | [],i,s,h=>by simp at h
 | t::S,0,s,h=>by simp at h;subst h;exact ⟨rfl,rfl⟩
 | t::S,i+1,s,h=>by
  have:=stopCells_at S i s (by simpa using h);have e1:(i+1)*2=i*2+1+1:=by omega
  have e2:(i+1)*2+1=i*2+1+1+1:=by omega
  rw [e1];exact this
theorem stopCells_one (S:List Stp2):∀ u∈stopCells S,u.oneCell'=true:=by
 intro u hu;simp only [stopCells,List.mem_flatMap,encStop] at hu;obtain ⟨s,_,h⟩:=hu;simp at h;rcases h with rfl | rfl <;> rfl
theorem StopsAt.of_row {w:World} {base g n cap:Nat} {S:List Stp2} (hl:S.length=n) (h:w.ownsRow base 90 2 (.slice (some ⟨g,0,none⟩) n cap) n (stopCells S)) (hg:g<w.heap.size):StopsAt w w.heap.size (some ⟨g,0,none⟩) S:=fun i s hi=>by
 refine ⟨g,0,rfl,hg,?_⟩;have hlt:=(List.getElem?_eq_some_iff.1 hi).1;obtain ⟨h1,h2⟩:=stopCells_at S i s hi;have k1:=h.cellAt (i*2) (by omega);have k2:=h.cellAt (i*2+1) (by omega);rw [Nat.zero_add];exact ⟨k1.trans h1,k2.trans h2⟩
theorem stops_news {w:World} {B:Nat} {A:Option Addr} {S:List Stp2} (h:StopsAt w B A S):∀ j u,(stopCells S)[j]? = some u→∃ ad,A=some ad∧w.cell? (ad.add j)=some u:=fun j u hj=>by
 have hlt:=(List.getElem?_eq_some_iff.1 hj).1;rw [stopCells_len] at hlt;obtain ⟨s,hs⟩:∃ s,S[j / 2]? = some s:=⟨_,List.getElem?_eq_getElem (by omega)⟩;obtain ⟨g,off,h1,_,h2,h3⟩:=h _ s hs;obtain ⟨k1,k2⟩:=stopCells_at S _ s hs;refine ⟨_,h1,?_⟩
 have ha:(⟨g,off,none⟩:Addr).add j=⟨g,off+j,none⟩:=by
  unfold Addr.add
  split
  · rename_i h0;subst h0;rfl
  · rfl
 rw [ha];rcases Nat.mod_two_eq_zero_or_one j with hm | hm
 · have e:j=j / 2*2:=by omega
   rw [← e] at k1;rw [k1] at hj;injection hj with hj;rw [← hj,e];have e2:j / 2*2 / 2*2=j / 2*2:=by omega
   exact h2
 · have e:j=j / 2*2+1:=by omega
   rw [← e] at k2;rw [k2] at hj;injection hj with hj;rw [← hj,e];exact h3
theorem Tryz.infoStop:(Tryz.prog.info? 90).map (fun i=>(i.zero,i.size,i.bytes))=some (some (.agg #[.int .i64 0,.int .i64 0]),2,16):=by kernel_rfl
theorem stopCells_app (J K:List Stp2):stopCells (J++K)=stopCells J++stopCells K:=by simp [stopCells]
theorem StopsAt.of_own {w:World} {base cap:Nat} {A:Option Addr} {J:List Stp2} (h:w.ownsRow base 90 2 (.slice A J.length cap) J.length (stopCells J)):StopsAt w w.heap.size A J:=by
 rcases Nat.eq_zero_or_pos J.length with h0 | h0
 · rw [List.eq_nil_of_length_eq_zero h0]
   exact StopsAt.nil _ _ _
 · obtain ⟨g,cap',hv,_,hg⟩:=h.form h0
   injection hv with hA _ hcap;subst hA hcap;exact StopsAt.of_row rfl h hg
def LmAt (w:World) (B:Nat) (A:Option Addr) (L:Lm):Prop:=StopsAt w B A L.S∧L.id.size≤9223372036854775807∧L.S.length≤9223372036854775807
theorem LmAt.below {w w':World} {B:Nat} {A:Option Addr} {L:Lm} (h:LmAt w B A L) (hb:Below B w w'):LmAt w' B A L:=⟨h.1.below hb,h.2⟩
def ClonePost (w:World) (S:List Stp2) (e:Ending) (w':World):Prop:=
 ∃ A' c',e = .returned (.slice A' S.length c')∧w'.ownsRow w.heap.size 90 2 (.slice A' S.length c') S.length (stopCells S)∧Below w.heap.size w w'
theorem clone_any (w:World) (B:Nat) (A:Option Addr) (S:List Stp2) (c:Nat) (h:StopsAt w B A S) (hB:B≤w.heap.size) (hl:S.length≤100) :
 Calls Tryz.prog 169 #[.slice A S.length c] w (ClonePost w S):=by
 obtain ⟨i0,hi0,hz0,hz1,hz2⟩:=info_parts Tryz.infoStop;have hw0:w.ownsRow w.heap.size 90 2 (.slice none 0 0) 0 []:=World.ownsRow_nil _ _ _ _
 cases A with
 | none=>
  have hS:S=[]:=by
   match S,h with
   | [],_=>rfl
   | s::S,h=>obtain ⟨_,_,hA,_⟩:=h 0 s rfl;cases hA
  subst hS;clear h hl;have hnil:=fun (W:World) (n c:Nat)=>Lib.run_eql_slice_nil (P:=Tryz.prog) W 42 90 none n c 0 0 Tryz.underlying42;go_enter Tryz.func169,Tryz.ntmps169
  go_wp2
  go_ret
  exact ⟨none,0,rfl,hw0,Below.refl _ _⟩
 | some ad=>
  have own:=World.ownsRow_lit (base:=w.heap.size) (e:=90) (size:=2) w #[] 0 (Nat.le_refl _) (by unfold maxLen;omega) rfl;have hst:=h.below ((Below.refl B w).alloc hB (.cells #[] 90));have hbb:=(Below.refl w.heap.size w).alloc (Nat.le_refl _) (.cells #[] 90);clear hw0 h;have hnil:=fun (W:World) (n c:Nat)=>Lib.run_eql_slice_nil (P:=Tryz.prog) W 42 90 (some ad) n c 0 0 Tryz.underlying42;go_enter Tryz.func169,Tryz.ntmps169
  go_wp2_with (at_builtin;refine wpList_append_any rfl _ _ 42 rfl w.heap.size 90 i0 _ 2 16 Tryz.underlying42 hi0 hz0 hz1 hz2 rfl (by omega) (.slice (some ⟨w.heap.size,0,none⟩) 0 0) 0 [] rfl own (some ad) S.length c (stopCells S) rfl (stopCells_len S) (stops_news hst) (stopCells_one S) (by unfold maxLen;omega) (by omega) (by simp) ?_;intro v4 w1 own4 gr4 l4)
  simp only [Nat.zero_add,List.nil_append] at own4;have hb4:=hbb.grown gr4 (by simp) (fun x hx=>(own.lt x hx).1)
  have hv:∃ A' c',v4 = .slice A' S.length c':=by
   rcases own4.2 with ⟨hv,h0⟩ | ⟨g,cap,cur,hv,_⟩
   · exact ⟨none,0,by rw [hv,h0]⟩
   · exact ⟨_,_,hv⟩
  obtain ⟨A',c',rfl⟩:=hv;clear own hst hbb gr4 l4;go_wp2
  go_ret
  exact ⟨A',c',rfl,own4,hb4⟩
theorem owns_mono {w:World} {base base':Nat} {e:TypeId} {size:Nat} {v:Value} {n:Nat} {xs:List Value} (h:w.ownsRow base e size v n xs) (hb:base'≤base):w.ownsRow base' e size v n xs:=
 ⟨h.1,h.2.imp id fun ⟨g,cap,cur,h1,h2,h3⟩=>⟨g,cap,cur,h1,Nat.le_trans hb h2,h3⟩⟩
def Lm.zero:Lm:=⟨⟨#[]⟩,0,0,0,[]⟩
section
variable {w w0 : World} {g : Nat} {t : TypeId} {a0 a1 a2 a3 a4 b0 b1 b2 b3 b4 : Value} {B : Nat}
def set5 (w:World) (g:Nat) (b0 b1 b2 b3 b4:Value):World:=((((w.setCell ⟨g,0,none⟩ b0).setCell ⟨g,1,none⟩ b1).setCell ⟨g,2,none⟩ b2).setCell ⟨g,3,none⟩ b3).setCell ⟨g,4,none⟩ b4
theorem Blk.set5 (h:Blk w g t #[a0,a1,a2,a3,a4]):Blk (set5 w g b0 b1 b2 b3 b4) g t #[b0,b1,b2,b3,b4]:=((((h.set_ 0 b0).set_ 1 b1).set_ 2 b2).set_ 3 b3).set_ 4 b4
theorem below_set5 (h:Below B w0 w) (hg:B≤g):Below B w0 (set5 w g b0 b1 b2 b3 b4):=((((h.setCell (p:=⟨g,0,none⟩) hg b0).setCell (p:=⟨g,1,none⟩) hg b1).setCell (p:=⟨g,2,none⟩) hg b2).setCell (p:=⟨g,3,none⟩) hg b3).setCell (p:=⟨g,4,none⟩) hg b4
theorem only_set5 (h:Only (fun i=>i=g) w0 w):Only (fun i=>i=g) w0 (set5 w g b0 b1 b2 b3 b4):=((((h.setCell (p:=⟨g,0,none⟩) (.inl rfl) b0).setCell (p:=⟨g,1,none⟩) (.inl rfl) b1).setCell (p:=⟨g,2,none⟩) (.inl rfl) b2).setCell (p:=⟨g,3,none⟩) (.inl rfl) b3).setCell (p:=⟨g,4,none⟩) (.inl rfl) b4
end
def pauseS (L:Lm) (s:Stp2):Lm×Int:=if (prB L && psB s)=true then (if L.S.length=60 then (Lm.zero,2) else (⟨L.id,L.n,L.u,L.f,L.S++[s]⟩,0)) else (Lm.zero,1)
def LmPost (w:World) (r:Lm×Int) (e:Ending) (w':World):Prop:=
 ∃ A' c',e = .returned (.tuple #[.agg (r.1.cells A' c'),.int .i64 r.2])∧StopsAt w' w'.heap.size A' r.1.S∧Below w.heap.size w w'
def LmPostB (w:World) (B:Nat) (r:Lm×Int) (e:Ending) (w':World):Prop:=
 ∃ A' c',e = .returned (.tuple #[.agg (r.1.cells A' c'),.int .i64 r.2])∧StopsAt w B A' r.1.S∧Below w.heap.size w w'
theorem pause_any (w:World) (L:Lm) (s:Stp2) (B:Nat) (A:Option Addr) (c:Nat) (h:LmAt w B A L) (hB:B≤w.heap.size) :
 Calls Tryz.prog 142 #[.agg (L.cells A c),.agg (encStop s).toArray] w (LmPost w (pauseS L s)):=by
 obtain ⟨i0,hi0,hz0,hz1,hz2⟩:=info_parts Tryz.infoStop;obtain ⟨r,hr⟩:∃ r,pauseS L s=r:=⟨_,rfl⟩;rw [hr];obtain ⟨p,q⟩:=s;have hpr:=fun W (b:Below w.heap.size w W)=>proper_any W L B A c (h.below (b.mono hB)).1 (Nat.le_trans hB b.size) h.2.1 h.2.2;have hst:=fun W=>properStop_any W p q;have hcl:=fun W (b:Below w.heap.size w W)=>clone_any W B A L.S c (h.below (b.mono hB)).1 (Nat.le_trans hB b.size);show Calls Tryz.prog 142 #[.agg #[.string L.id,.int .i64 L.n,.int .i64 L.u,.int .i64 L.f,.slice A L.S.length c],.agg #[.int .i64 p,.int .i64 q]] w _;have hb:=(((Below.refl w.heap.size w).alloc (Nat.le_refl _) (.cells #[.string L.id,.int .i64 L.n,.int .i64 L.u,.int .i64 L.f,.slice A L.S.length c] 44)).alloc (by simp) (.cells #[.int .i64 p,.int .i64 q] 90)).alloc (by simp;omega) (.cells #[.string ⟨#[]⟩,.int .i64 0,.int .i64 0,.int .i64 0,.slice none 0 0] 44);have k0:=((Blk.new w 44 #[.string L.id,.int .i64 L.n,.int .i64 L.u,.int .i64 L.f,.slice A L.S.length c]).alloc (.cells #[.int .i64 p,.int .i64 q] 90)).alloc (.cells #[.string ⟨#[]⟩,.int .i64 0,.int .i64 0,.int .i64 0,.slice none 0 0] 44);have k1:=(Blk.new1 w (.cells #[.string L.id,.int .i64 L.n,.int .i64 L.u,.int .i64 L.f,.slice A L.S.length c] 44) 90 #[.int .i64 p,.int .i64 q]).alloc (.cells #[.string ⟨#[]⟩,.int .i64 0,.int .i64 0,.int .i64 0,.slice none 0 0] 44);have k2:=Blk.new2 w (.cells #[.string L.id,.int .i64 L.n,.int .i64 L.u,.int .i64 L.f,.slice A L.S.length c] 44) (.cells #[.int .i64 p,.int .i64 q] 90) 44 #[.string ⟨#[]⟩,.int .i64 0,.int .i64 0,.int .i64 0,.slice none 0 0];have HPR:=hd_ hpr;have HST:=hd_ hst;have HCL:=hd_ hcl;have HR:=hd_ hr;clear hpr hst hcl hr h;obtain ⟨x0,x1,x2⟩:=k0.all;obtain ⟨y0,y1,y2⟩:=k1.all;obtain ⟨z0,z1,z2⟩:=k2.all;unfold pauseS at HR
 cases hp:prB L with
 | false=>
  have h2:=HPR.out;have hr:=HR.out;rw [hp] at h2 hr;rw [Bool.false_and,if_neg (by simp)] at hr;have H2:=hd_ h2;subst hr;clear h2 hp HPR HR;go_enter Tryz.func142,Tryz.ntmps142
  go_wp2_with fail
  refine (H2.out _ hb).mono ?_;rintro e w2 ⟨rfl,b⟩;have hb2:=hb.trans (b.mono hb.size);have m2:=k2.below b k2.lt;clear b hb k0 k1 k2 x0 x1 x2 y0 y1 y2 z0 z1 z2;obtain ⟨z0,z1,z2⟩:=m2.all;go_wp2
  have m3:=m2.set5 (b0:=.string ⟨#[]⟩) (b1:=.int .i64 0) (b2:=.int .i64 0) (b3:=.int .i64 0) (b4:=.slice none 0 0);have hb3:=below_set5 (b0:=.string ⟨#[]⟩) (b1:=.int .i64 0) (b2:=.int .i64 0) (b3:=.int .i64 0) (b4:=.slice none 0 0) hb2 (show w.heap.size≤w.heap.size+1+1 by omega);unfold set5 at m3 hb3;generalize ((((w2.setCell ⟨w.heap.size+1+1,0,none⟩ (.string ⟨#[]⟩)).setCell ⟨w.heap.size+1+1,1,none⟩ (.int .i64 0)).setCell ⟨w.heap.size+1+1,2,none⟩ (.int .i64 0)).setCell ⟨w.heap.size+1+1,3,none⟩ (.int .i64 0)).setCell ⟨w.heap.size+1+1,4,none⟩ (.slice none 0 0)=W3 at *;obtain ⟨c0,c1,c2⟩:=m3.all;refine bodyPost_ret (v:=.tuple #[.agg (Lm.zero.cells none 0),.int .i64 1]) (by simp [results,Tryz.results142,go_sem,c0,Lm.cells,Lm.zero]) rfl ⟨none,0,rfl,StopsAt.nil _ _ _,hb3⟩
 | true=>
  have h2:=HPR.out;have hr:=HR.out;have h3:=HST.out;rw [hp] at h2 hr
  cases hq:psB (p,q) with
  | false=>
   rw [hq] at hr h3;rw [Bool.and_false,if_neg (by simp)] at hr;have H2:=hd_ h2;have H3:=hd_ h3;subst hr;clear h2 h3 hp hq HPR HR HST;go_enter Tryz.func142,Tryz.ntmps142
   go_wp2_with fail
   refine (H2.out _ hb).mono ?_;rintro e w2 ⟨rfl,b⟩;have hb1:=hb.trans (b.mono hb.size);have n0:=k0.below b k0.lt;have n1:=k1.below b k1.lt;have n2:=k2.below b k2.lt;clear b hb k0 k1 k2 x0 x1 x2 y0 y1 y2 z0 z1 z2 H2;obtain ⟨y0,y1,y2⟩:=n1.all;go_wp2_with fail
   refine (H3.out _).mono ?_;rintro e w3 ⟨rfl,b⟩;have hb2:=hb1.trans (b.mono hb1.size);have m0:=n0.below b n0.lt;have m1:=n1.below b n1.lt;have m2:=n2.below b n2.lt;clear b hb1 n0 n1 n2 y0 y1 y2 H3;obtain ⟨x0,x1,x2⟩:=m0.all;obtain ⟨y0,y1,y2⟩:=m1.all;obtain ⟨z0,z1,z2⟩:=m2.all;go_wp2
   have m3:=m2.set5 (b0:=.string ⟨#[]⟩) (b1:=.int .i64 0) (b2:=.int .i64 0) (b3:=.int .i64 0) (b4:=.slice none 0 0);have hb3:=below_set5 (b0:=.string ⟨#[]⟩) (b1:=.int .i64 0) (b2:=.int .i64 0) (b3:=.int .i64 0) (b4:=.slice none 0 0) hb2 (show w.heap.size≤w.heap.size+1+1 by omega);unfold set5 at m3 hb3;generalize ((((w3.setCell ⟨w.heap.size+1+1,0,none⟩ (.string ⟨#[]⟩)).setCell ⟨w.heap.size+1+1,1,none⟩ (.int .i64 0)).setCell ⟨w.heap.size+1+1,2,none⟩ (.int .i64 0)).setCell ⟨w.heap.size+1+1,3,none⟩ (.int .i64 0)).setCell ⟨w.heap.size+1+1,4,none⟩ (.slice none 0 0)=W3 at *;obtain ⟨c0,c1,c2⟩:=m3.all;refine bodyPost_ret (v:=.tuple #[.agg (Lm.zero.cells none 0),.int .i64 1]) (by simp [results,Tryz.results142,go_sem,c0,Lm.cells,Lm.zero]) rfl ⟨none,0,rfl,StopsAt.nil _ _ _,hb3⟩
  | true=>
   rw [hq] at hr h3;rw [if_pos (by rfl)] at hr;have H2:=hd_ h2;have H3:=hd_ h3;have hl60:=(prB_iff.1 hp).2.2.2.1;clear h2 h3 hp hq HPR HR HST;by_cases h60:L.S.length=60
   · rw [if_pos h60] at hr
     subst hr;have e60:((L.S.length:Int) == 60)=true:=by simp [h60]
     have H60:=hd_ h60;clear h60;go_enter Tryz.func142,Tryz.ntmps142
     go_wp2_with fail
     refine (H2.out _ hb).mono ?_;rintro e w2 ⟨rfl,b⟩;have hb1:=hb.trans (b.mono hb.size);have n0:=k0.below b k0.lt;have n1:=k1.below b k1.lt;have n2:=k2.below b k2.lt;clear b hb k0 k1 k2 x0 x1 x2 y0 y1 y2 z0 z1 z2 H2;obtain ⟨y0,y1,y2⟩:=n1.all;go_wp2_with fail
     refine (H3.out _).mono ?_;rintro e w3 ⟨rfl,b⟩;have hb2:=hb1.trans (b.mono hb1.size);have m0:=n0.below b n0.lt;have m1:=n1.below b n1.lt;have m2:=n2.below b n2.lt;clear b hb1 n0 n1 n2 y0 y1 y2 H3;obtain ⟨x0,x1,x2⟩:=m0.all;obtain ⟨y0,y1,y2⟩:=m1.all;obtain ⟨z0,z1,z2⟩:=m2.all;go_wp2
     have m3:=m2.set5 (b0:=.string ⟨#[]⟩) (b1:=.int .i64 0) (b2:=.int .i64 0) (b3:=.int .i64 0) (b4:=.slice none 0 0);have hb3:=below_set5 (b0:=.string ⟨#[]⟩) (b1:=.int .i64 0) (b2:=.int .i64 0) (b3:=.int .i64 0) (b4:=.slice none 0 0) hb2 (show w.heap.size≤w.heap.size+1+1 by omega);unfold set5 at m3 hb3;generalize ((((w3.setCell ⟨w.heap.size+1+1,0,none⟩ (.string ⟨#[]⟩)).setCell ⟨w.heap.size+1+1,1,none⟩ (.int .i64 0)).setCell ⟨w.heap.size+1+1,2,none⟩ (.int .i64 0)).setCell ⟨w.heap.size+1+1,3,none⟩ (.int .i64 0)).setCell ⟨w.heap.size+1+1,4,none⟩ (.slice none 0 0)=W3 at *;obtain ⟨c0,c1,c2⟩:=m3.all;refine bodyPost_ret (v:=.tuple #[.agg (Lm.zero.cells none 0),.int .i64 2]) (by simp [results,Tryz.results142,go_sem,c0,Lm.cells,Lm.zero]) rfl ⟨none,0,rfl,StopsAt.nil _ _ _,hb3⟩
   · rw [if_neg h60] at hr
     subst hr;have e60:((L.S.length:Int) == 60)=false:=by simp;omega
     clear h60;go_enter Tryz.func142,Tryz.ntmps142
     go_wp2_with fail
     refine (H2.out _ hb).mono ?_;rintro e w2 ⟨rfl,b⟩;have hb1:=hb.trans (b.mono hb.size);have n0:=k0.below b k0.lt;have n1:=k1.below b k1.lt;have n2:=k2.below b k2.lt;clear b hb k0 k1 k2 x0 x1 x2 y0 y1 y2 z0 z1 z2 H2;obtain ⟨y0,y1,y2⟩:=n1.all;go_wp2_with fail
     refine (H3.out _).mono ?_;rintro e w3 ⟨rfl,b⟩;have hb2:=hb1.trans (b.mono hb1.size);have m0:=n0.below b n0.lt;have m1:=n1.below b n1.lt;have m2:=n2.below b n2.lt;clear b hb1 n0 n1 n2 y0 y1 y2 H3;obtain ⟨x0,x1,x2⟩:=m0.all;obtain ⟨y0,y1,y2⟩:=m1.all;obtain ⟨z0,z1,z2⟩:=m2.all;go_wp2_with fail
     clear x0 x1 x2 y0 y1 y2 z0 z1 z2;have hbD:=hb2.drew;have m0D:=m0.drew;have m1D:=m1.drew;have m2D:=m2.drew;refine wp_region_bush (fun V=>Blk V w.heap.size 44 #[.string L.id,.int .i64 L.n,.int .i64 L.u,.int .i64 L.f,.slice A L.S.length c]∧Blk V (w.heap.size+1) 90 #[.int .i64 p,.int .i64 q]) [0,1,3] 2 [] [5,6,7] (by kernel_rfl) (by kernel_rfl) (fun _ d _ _ _ h=>by cases d <;> exact h) ⟨m0,m1⟩ ?_;simp only [pick,List.drop_succ_cons,List.drop_zero,List.head?_cons,Option.toList_some,List.cons_append,List.nil_append,List.append_nil]
     repeat (refine wpHeld_step ?_ rfl ?_ ?_;rotate_left;· (intro V hV;obtain ⟨v0,v1,v2⟩:=hV.1.all;obtain ⟨x0,x1,x2⟩:=hV.2.all;go_simp;with_reducible rfl))
     refine wpHeld_nil ?_;clear hb2 m0 m1 m2;generalize w3.drew=V at *;refine wpBush_two 2 4 (by kernel_rfl) ?_ ?_
     · simp only [pick,List.drop_succ_cons,List.drop_zero,List.head?_cons,Option.toList_some,List.append_nil]
       go_wp2_with fail
       refine (HCL.out V hbD (by omega)).mono ?_;rintro e X ⟨A4,c4,rfl,own,b⟩;have m0X:=m0D.below b m0D.lt;have m1X:=m1D.below b m1D.lt;have m2X:=m2D.below b m2D.lt;replace own:=owns_mono own hbD.size;have hbX:=hbD.trans (b.mono hbD.size);clear b m0D m1D m2D hbD;go_wp2_with fail
       refine ⟨⟨m0X,m1X⟩,?_⟩;refine wpBush_one 4 (by kernel_rfl) ?_;simp only [pick,List.drop_succ_cons,List.drop_zero,List.head?_cons,Option.toList_some,List.append_nil];go_wp2_with fail
       have kn:=Blk.new X 90 #[.int .i64 p,.int .i64 q];replace hbX:=hbX.alloc hbX.size (.cells #[.int .i64 p,.int .i64 q] 90);replace m0X:=m0X.alloc (.cells #[.int .i64 p,.int .i64 q] 90);replace m1X:=m1X.alloc (.cells #[.int .i64 p,.int .i64 q] 90);replace m2X:=m2X.alloc (.cells #[.int .i64 p,.int .i64 q] 90);replace own:=own.alloc (.cells #[.int .i64 p,.int .i64 q] 90);refine ⟨⟨m0X,m1X⟩,?_⟩;generalize X.heap.size=gn at *;generalize X.alloc (.cells #[.int .i64 p,.int .i64 q] 90)=V2 at *;refine wpBush_end (by kernel_rfl) (by kernel_rfl) (by kernel_rfl) ?_;simp only [pick,List.drop_succ_cons,List.drop_zero,List.head?_cons,Option.toList_some,List.cons_append,List.nil_append,List.append_nil];refine wpHeld_nil ?_;have hszl:=hbX.size;go_wp2_with (at_builtin;refine wpList_append_lies _ rfl _ _ 42 rfl w.heap.size 90 i0 _ 2 16 Tryz.underlying42 hi0 hz0 hz1 hz2 rfl (by omega) (.slice A4 L.S.length c4) L.S.length _ rfl own ⟨gn,0,none⟩ 1 1 [.int .i64 p,.int .i64 q] rfl rfl (World.news_of_block kn) (stopCells_one [(p,q)]) (by omega) (by unfold maxLen;omega) (by omega) hszl V2.heap.size rfl ?_;intro gz cz Y own9 gr9 l9 z9;obtain ⟨x0,x1,x2⟩:=(m0X.grown gr9 (fun he=>own_blk_ne own m0X (by decide) he.symm)).all;obtain ⟨z0,z1,z2⟩:=(m2X.grown gr9 (fun he=>own_blk_ne own m2X (by decide) he.symm)).all)
       have m0Y:=m0X.grown gr9 (fun he=>own_blk_ne own m0X (by decide) he.symm);have m2Y:=m2X.grown gr9 (fun he=>own_blk_ne own m2X (by decide) he.symm);have hbY:=hbX.grown gr9 hszl (fun x hx=>(own.lt x hx).1);clear gr9 l9 kn own m0X m1X m2X hbX hszl;clear x0 x1 x2 z0 z1 z2;have m0Z:=m0Y.set_ 4 (.slice (some ⟨gz,0,none⟩) (L.S.length+1) cz);have m2Z:=m2Y.far (p:=⟨w.heap.size,4,none⟩) (show w.heap.size+1+1≠w.heap.size by omega) (.slice (some ⟨gz,0,none⟩) (L.S.length+1) cz);have hbZ:=hbY.setCell (p:=⟨w.heap.size,4,none⟩) (Nat.le_refl w.heap.size) (.slice (some ⟨gz,0,none⟩) (L.S.length+1) cz);have ownZ:=Only.owns (F:=fun i=>i=w.heap.size) ((Only.refl (fun i=>i=w.heap.size) Y).setCell (p:=⟨w.heap.size,4,none⟩) (.inl rfl) (.slice (some ⟨gz,0,none⟩) (L.S.length+1) cz)) own9 (fun g hg he=>own_blk_ne own9 m0Y (by decide) (he▸hg));clear m0Y m2Y hbY own9;have hzl:gz<(Y.setCell ⟨w.heap.size,4,none⟩ (.slice (some ⟨gz,0,none⟩) (L.S.length+1) cz)).heap.size:=by simpa [World.setCell] using z9
       generalize Y.setCell ⟨w.heap.size,4,none⟩ (.slice (some ⟨gz,0,none⟩) (L.S.length+1) cz)=Z at *;have m3:=m2Z.set5 (b0:=.string L.id) (b1:=.int .i64 L.n) (b2:=.int .i64 L.u) (b3:=.int .i64 L.f) (b4:=.slice (some ⟨gz,0,none⟩) (L.S.length+1) cz);have hb3:=below_set5 (b0:=.string L.id) (b1:=.int .i64 L.n) (b2:=.int .i64 L.u) (b3:=.int .i64 L.f) (b4:=.slice (some ⟨gz,0,none⟩) (L.S.length+1) cz) hbZ (show w.heap.size≤w.heap.size+1+1 by omega);have own3:=Only.owns (only_set5 (g:=w.heap.size+1+1) (b0:=.string L.id) (b1:=.int .i64 L.n) (b2:=.int .i64 L.u) (b3:=.int .i64 L.f) (b4:=.slice (some ⟨gz,0,none⟩) (L.S.length+1) cz) (Only.refl (fun i=>i=w.heap.size+1+1) Z)) ownZ (fun g hg he=>own_blk_ne ownZ m2Z (by decide) (he▸hg));have hsz3:gz<(set5 Z (w.heap.size+1+1) (.string L.id) (.int .i64 L.n) (.int .i64 L.u) (.int .i64 L.f) (.slice (some ⟨gz,0,none⟩) (L.S.length+1) cz)).heap.size:=by simpa [set5,World.setCell] using hzl
       unfold set5 at m3 hb3 own3 hsz3;generalize ((((Z.setCell ⟨w.heap.size+1+1,0,none⟩ (.string L.id)).setCell ⟨w.heap.size+1+1,1,none⟩ (.int .i64 L.n)).setCell ⟨w.heap.size+1+1,2,none⟩ (.int .i64 L.u)).setCell ⟨w.heap.size+1+1,3,none⟩ (.int .i64 L.f)).setCell ⟨w.heap.size+1+1,4,none⟩ (.slice (some ⟨gz,0,none⟩) (L.S.length+1) cz)=W3 at *;obtain ⟨c0,c1,c2⟩:=m3.all;have hll:(L.S++[(p,q)]).length=L.S.length+1:=by simp
       refine bodyPost_ret (v:=.tuple #[.agg ((⟨L.id,L.n,L.u,L.f,L.S++[(p,q)]⟩:Lm).cells (some ⟨gz,0,none⟩) cz),.int .i64 0]) (by simp [results,Tryz.results142,go_sem,c0,Lm.cells]) rfl ⟨some ⟨gz,0,none⟩,cz,rfl,StopsAt.of_row (n:=L.S.length+1) (cap:=cz) (base:=w.heap.size) hll (by rw [stopCells_app];exact own3) hsz3,hb3⟩
     · simp only [pick,List.drop_succ_cons,List.drop_zero,List.head?_cons,Option.toList_some,List.append_nil]
       go_wp2_with fail
       have kn:=Blk.new V 90 #[.int .i64 p,.int .i64 q];replace hbD:=hbD.alloc hbD.size (.cells #[.int .i64 p,.int .i64 q] 90);replace m0D:=m0D.alloc (.cells #[.int .i64 p,.int .i64 q] 90);replace m1D:=m1D.alloc (.cells #[.int .i64 p,.int .i64 q] 90);replace m2D:=m2D.alloc (.cells #[.int .i64 p,.int .i64 q] 90);refine ⟨⟨m0D,m1D⟩,?_⟩;generalize V.heap.size=gn at *;generalize V.alloc (.cells #[.int .i64 p,.int .i64 q] 90)=V2 at *;refine wpBush_one 2 (by kernel_rfl) ?_;simp only [pick,List.drop_succ_cons,List.drop_zero,List.head?_cons,Option.toList_some,List.append_nil];go_wp2_with fail
       refine (HCL.out V2 hbD (by omega)).mono ?_;rintro e X ⟨A4,c4,rfl,own,b⟩;have m0X:=m0D.below b m0D.lt;have m1X:=m1D.below b m1D.lt;have m2X:=m2D.below b m2D.lt;have knX:=kn.below b kn.lt;replace own:=owns_mono own hbD.size;have hbX:=hbD.trans (b.mono hbD.size);clear b m0D m1D m2D hbD;go_wp2_with fail
       refine ⟨⟨m0X,m1X⟩,?_⟩;clear kn;have kn:=knX;clear knX;refine wpBush_end (by kernel_rfl) (by kernel_rfl) (by kernel_rfl) ?_;simp only [pick,List.drop_succ_cons,List.drop_zero,List.head?_cons,Option.toList_some,List.cons_append,List.nil_append,List.append_nil];refine wpHeld_nil ?_;have hszl:=hbX.size;go_wp2_with (at_builtin;refine wpList_append_lies _ rfl _ _ 42 rfl w.heap.size 90 i0 _ 2 16 Tryz.underlying42 hi0 hz0 hz1 hz2 rfl (by omega) (.slice A4 L.S.length c4) L.S.length _ rfl own ⟨gn,0,none⟩ 1 1 [.int .i64 p,.int .i64 q] rfl rfl (World.news_of_block kn) (stopCells_one [(p,q)]) (by omega) (by unfold maxLen;omega) (by omega) hszl X.heap.size rfl ?_;intro gz cz Y own9 gr9 l9 z9;obtain ⟨x0,x1,x2⟩:=(m0X.grown gr9 (fun he=>own_blk_ne own m0X (by decide) he.symm)).all;obtain ⟨z0,z1,z2⟩:=(m2X.grown gr9 (fun he=>own_blk_ne own m2X (by decide) he.symm)).all)
       have m0Y:=m0X.grown gr9 (fun he=>own_blk_ne own m0X (by decide) he.symm);have m2Y:=m2X.grown gr9 (fun he=>own_blk_ne own m2X (by decide) he.symm);have hbY:=hbX.grown gr9 hszl (fun x hx=>(own.lt x hx).1);clear gr9 l9 kn own m0X m1X m2X hbX hszl;clear x0 x1 x2 z0 z1 z2;have m0Z:=m0Y.set_ 4 (.slice (some ⟨gz,0,none⟩) (L.S.length+1) cz);have m2Z:=m2Y.far (p:=⟨w.heap.size,4,none⟩) (show w.heap.size+1+1≠w.heap.size by omega) (.slice (some ⟨gz,0,none⟩) (L.S.length+1) cz);have hbZ:=hbY.setCell (p:=⟨w.heap.size,4,none⟩) (Nat.le_refl w.heap.size) (.slice (some ⟨gz,0,none⟩) (L.S.length+1) cz);have ownZ:=Only.owns (F:=fun i=>i=w.heap.size) ((Only.refl (fun i=>i=w.heap.size) Y).setCell (p:=⟨w.heap.size,4,none⟩) (.inl rfl) (.slice (some ⟨gz,0,none⟩) (L.S.length+1) cz)) own9 (fun g hg he=>own_blk_ne own9 m0Y (by decide) (he▸hg));clear m0Y m2Y hbY own9;have hzl:gz<(Y.setCell ⟨w.heap.size,4,none⟩ (.slice (some ⟨gz,0,none⟩) (L.S.length+1) cz)).heap.size:=by simpa [World.setCell] using z9
       generalize Y.setCell ⟨w.heap.size,4,none⟩ (.slice (some ⟨gz,0,none⟩) (L.S.length+1) cz)=Z at *;have m3:=m2Z.set5 (b0:=.string L.id) (b1:=.int .i64 L.n) (b2:=.int .i64 L.u) (b3:=.int .i64 L.f) (b4:=.slice (some ⟨gz,0,none⟩) (L.S.length+1) cz);have hb3:=below_set5 (b0:=.string L.id) (b1:=.int .i64 L.n) (b2:=.int .i64 L.u) (b3:=.int .i64 L.f) (b4:=.slice (some ⟨gz,0,none⟩) (L.S.length+1) cz) hbZ (show w.heap.size≤w.heap.size+1+1 by omega);have own3:=Only.owns (only_set5 (g:=w.heap.size+1+1) (b0:=.string L.id) (b1:=.int .i64 L.n) (b2:=.int .i64 L.u) (b3:=.int .i64 L.f) (b4:=.slice (some ⟨gz,0,none⟩) (L.S.length+1) cz) (Only.refl (fun i=>i=w.heap.size+1+1) Z)) ownZ (fun g hg he=>own_blk_ne ownZ m2Z (by decide) (he▸hg));have hsz3:gz<(set5 Z (w.heap.size+1+1) (.string L.id) (.int .i64 L.n) (.int .i64 L.u) (.int .i64 L.f) (.slice (some ⟨gz,0,none⟩) (L.S.length+1) cz)).heap.size:=by simpa [set5,World.setCell] using hzl
       unfold set5 at m3 hb3 own3 hsz3;generalize ((((Z.setCell ⟨w.heap.size+1+1,0,none⟩ (.string L.id)).setCell ⟨w.heap.size+1+1,1,none⟩ (.int .i64 L.n)).setCell ⟨w.heap.size+1+1,2,none⟩ (.int .i64 L.u)).setCell ⟨w.heap.size+1+1,3,none⟩ (.int .i64 L.f)).setCell ⟨w.heap.size+1+1,4,none⟩ (.slice (some ⟨gz,0,none⟩) (L.S.length+1) cz)=W3 at *;obtain ⟨c0,c1,c2⟩:=m3.all;have hll:(L.S++[(p,q)]).length=L.S.length+1:=by simp
       refine bodyPost_ret (v:=.tuple #[.agg ((⟨L.id,L.n,L.u,L.f,L.S++[(p,q)]⟩:Lm).cells (some ⟨gz,0,none⟩) cz),.int .i64 0]) (by simp [results,Tryz.results142,go_sem,c0,Lm.cells]) rfl ⟨some ⟨gz,0,none⟩,cz,rfl,StopsAt.of_row (n:=L.S.length+1) (cap:=cz) (base:=w.heap.size) hll (by rw [stopCells_app];exact own3) hsz3,hb3⟩
end Go.Proofs.YtknchlpcpgflkaaGreatDoor
