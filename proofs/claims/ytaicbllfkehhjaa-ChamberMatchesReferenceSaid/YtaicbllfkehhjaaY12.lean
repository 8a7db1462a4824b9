/- Part 12 of what the laws of this seat stand on: It, Iv, Iw, Ix, Iy, Iz. -/
import Derived.Test.YtaicbllfkehhjaaY11
import Derived.Maps.AppendAt

/- The reference's chamber: what an operation turns, and how it and the package's chamber keep beside each other. -/
namespace Go.Proofs.Ytaicbllfkehhjaa
open Go.RowKit

def VF (z : RLay) (n g : Nat) : Prop := ∃ i, i < n ∧ (z.v i).ownBlock = some g
def RFo (z : RLay) (n g : Nat) : Prop := g = z.p ∨ z.mv.ownBlock = some g ∨ (∃ i, i < n ∧ g = z.q i) ∨ VF z n g
structure RTurn (w w' : World) (z z' : RLay) (n : Nat) : Prop where
  only : Only (RFo z n) w w'
  fo : ∀ g, RFo z' n g → RFo z n g ∨ w.heap.size ≤ g
  vf : ∀ g, VF z' n g → VF z n g ∨ w.heap.size ≤ g
  p : z'.p = z.p
theorem RTurn.refl (w : World) (z : RLay) (n : Nat) : RTurn w w z z n := ⟨Only.refl _ _, fun _ h => .inl h, fun _ h => .inl h, rfl⟩
theorem RTurn.of_below {w w' : World} {z : RLay} {n : Nat} (h : Below w.heap.size w w') : RTurn w w' z z n := ⟨Only.of_below h _, fun _ h => .inl h, fun _ h => .inl h, rfl⟩
theorem RTurn.trans {w w' w'' : World} {z z' z'' : RLay} {n : Nat} (h : RTurn w w' z z' n) (k : RTurn w' w'' z' z'' n) : RTurn w w'' z z'' n :=
  ⟨h.only.trans k.only h.fo, fun g hg => (k.fo g hg).elim (h.fo g) fun e => .inr (Nat.le_trans h.only.size e), fun g hg => (k.vf g hg).elim (h.vf g) fun e => .inr (Nat.le_trans h.only.size e), k.p.trans h.p⟩
/-- A block of none of the package's kinds; one of clauses is in S. -/
def FR (w : World) (S : Nat → Prop) (g : Nat) : Prop := ∃ t cs, Blk w g t cs ∧ t ≠ 68 ∧ t ≠ 72 ∧ t ≠ 98 ∧ t ≠ 75 ∧ t ≠ 41 ∧ (t = 56 → S g)
/-- A block of none of the reference's kinds. -/
def NR (w : World) (g : Nat) : Prop := ∀ t cs, Blk w g t cs → t ≠ 80 ∧ t ≠ 81 ∧ t ≠ 89 ∧ t ≠ 100 ∧ t ≠ 56
theorem blk_ty {w : World} {g : Nat} {t t' : TypeId} {cs cs' : Array Value} (h : Blk w g t cs) (h' : Blk w g t' cs') : t = t' := by
  unfold Blk at h h'
  rw [h] at h'
  injection h' with h'
  injection h' with _ h'
theorem own_blk {w : World} {base g n size : Nat} {e : TypeId} {v : Value} {xs : List Value} (h : w.ownsRow base e size v n xs) (hg : v.ownBlock = some g) : ∃ cs, Blk w g e cs := by
  rcases h.2 with ⟨rfl, _⟩ | ⟨g', cap, cur, rfl, _, hh, _⟩
  · cases hg
  · have : g' = g := by simpa [Value.ownBlock] using hg
    subst this
    exact ⟨cur, hh⟩
section
variable {w w' : World} {base n : Nat} {z : RLay} {C : Ch} {ms : List Msg}
theorem RAt.fr (h : RAt w base z n C ms) : ∀ g, RFo z n g → FR w (VF z n) g := by
  rintro g (rfl | hg | ⟨i, hi, rfl⟩ | ⟨i, hi, hg⟩)
  · exact ⟨_, _, h.blk, by decide, by decide, by decide, by decide, by decide, fun e => absurd e (by decide)⟩
  · obtain ⟨cs, k⟩ := own_blk h.msv hg
    exact ⟨_, _, k, by decide, by decide, by decide, by decide, by decide, fun e => absurd e (by decide)⟩
  · exact ⟨_, _, (h.pgs i hi).blk, by decide, by decide, by decide, by decide, by decide, fun e => absurd e (by decide)⟩
  · obtain ⟨cs, k⟩ := own_blk (h.pgs i hi).own hg
    exact ⟨_, _, k, by decide, by decide, by decide, by decide, by decide, fun _ => ⟨i, hi, hg⟩⟩
theorem RAt.vlt (h : RAt w base z n C ms) {g : Nat} (hg : VF z n g) : g < w.heap.size := by
  obtain ⟨i, hi, hg⟩ := hg
  obtain ⟨cs, k⟩ := own_blk (h.pgs i hi).own hg
  exact k.lt
theorem RAt.lowF (h : RAt w base z n C ms) {g : Nat} (hg : RFo z n g) : base ≤ g := by
  rcases hg with rfl | hg | ⟨i, hi, rfl⟩ | ⟨i, hi, hg⟩
  · exact h.low
  · exact (World.ownsRow.lt h.msv g hg).1
  · exact h.qlow i hi
  · exact ((h.pgs i hi).own.lt g hg).1
/-- What turns nothing of the reference's kinds leaves it. -/
theorem RAt.off {F : Foot} (h : RAt w base z n C ms) (o : Only F w w') (hF : ∀ g, F g → NR w g) : RAt w' base z n C ms :=
  { h with
    blk := o.blk h.blk fun hf => (hF _ hf _ _ h.blk).1 rfl
    pgv := o.owns h.pgv fun g hg hf => by
      obtain ⟨cs, k⟩ := own_blk h.pgv hg
      exact (hF _ hf _ _ k).2.1 rfl
    msv := o.owns h.msv fun g hg hf => by
      obtain ⟨cs, k⟩ := own_blk h.msv hg
      exact (hF _ hf _ _ k).2.2.1 rfl
    xown := fun j x m hx hm => o.owns (h.xown j x m hx hm) fun g hg hf => by
      obtain ⟨cs, k⟩ := own_blk (h.xown j x m hx hm) hg
      exact (hF _ hf _ _ k).2.2.2.2 rfl
    pgs := fun i hi => (h.pgs i hi).only o (fun hf => (hF _ hf _ _ (h.pgs i hi).blk).2.2.2.1 rfl) fun g hg hf => by
      obtain ⟨cs, k⟩ := own_blk (h.pgs i hi).own hg
      exact (hF _ hf _ _ k).2.2.2.2 rfl }
theorem Wr.nr {g : Nat} (h : Wr w g) : NR w g := fun t cs k =>
  have e : t = 75 ∨ t = 41 := Classical.byContradiction fun hn => h.not_blk k (fun e => hn (.inl e)) (fun e => hn (.inr e))
  by rcases e with rfl | rfl <;> decide
theorem NR.of_blk {g : Nat} {t : TypeId} {cs : Array Value} (k : Blk w g t cs) (h : t ≠ 80 ∧ t ≠ 81 ∧ t ≠ 89 ∧ t ≠ 100 ∧ t ≠ 56) : NR w g := fun _ _ k' => blk_ty k k' ▸ h
theorem RAt.turn {y : Lay} {V V' : Nat → Nat → Value} {D : Ch} (h : RAt w base z n C ms) (k : ChAt w y V n D) (t : Turn w w' y V V' n) : RAt w' base z n C ms := h.off t.1 fun g hg => (k.wr g hg).nr
theorem RAt.farBlk {g : Nat} {t : TypeId} {cs : Array Value} (h : RAt w base z n C ms) (k : Blk w g t cs) (o : Only (fun i => i = g) w w') (ht : t ≠ 80 ∧ t ≠ 81 ∧ t ≠ 89 ∧ t ≠ 100 ∧ t ≠ 56) : RAt w' base z n C ms := h.off o fun _ e => e ▸ NR.of_blk k ht
/-- The package's chamber while the reference's turns. -/
theorem ChAt.apart {y : Lay} {V : Nat → Nat → Value} {F : Foot} {S' : Nat → Prop} (h : ChAt w y V n C) (o : Only F w w') (hF : ∀ g, F g → FR w y.S g) (hS : ∀ g, S' g → y.S g ∨ w.heap.size ≤ g) (hlt : ∀ g, S' g → g < w'.heap.size) : ChAt w' { y with S := S' } V n C :=
  have nomap : ∀ {b : Nat} {L : List (Value × Value)}, MapV w b L → ¬ F b := fun {b L} km hf => by
    obtain ⟨t, cs, k, _⟩ := hF _ hf
    obtain ⟨es, c, h1, _⟩ := km
    unfold Blk at k
    rw [h1] at k
    cases k
  have no : ∀ {g : Nat} {t : TypeId} {cs : Array Value}, Blk w g t cs → F g → t ≠ 68 ∧ t ≠ 72 ∧ t ≠ 98 ∧ t ≠ 75 ∧ t ≠ 41 ∧ (t = 56 → y.S g) := fun {g t cs} k hf => by
    obtain ⟨t', cs', k', hk⟩ := hF _ hf
    exact blk_ty k' k ▸ hk
  { len := h.len
    pos := h.pos
    max := h.max
    blk := o.blk h.blk fun hf => (no h.blk hf).1 rfl
    sts := o.blk h.sts fun hf => (no h.sts hf).2.1 rfl
    cap := h.cap
    st := h.st
    map := h.map.only o (nomap h.map)
    key := h.key
    mem := h.mem
    pgs := fun i hi => by
      obtain ⟨Lm, hm, _⟩ := (h.pgs i hi).map
      exact (h.pgs i hi).only o (fun hf => (no (h.pgs i hi).blk hf).2.2.1 rfl) (nomap hm)
    ques := fun i k hi hk hne => by
      obtain ⟨h1, vs, h2, h3, h4, h5⟩ := h.ques i k hi hk hne
      refine ⟨o.blk h1 fun hf => (no h1 hf).2.2.2.1 rfl, vs, h2.only o (fun g hg hf => ?_), h3, fun j x m hx hm => o.owns (h4 j x m hx hm) fun g hg hf => ?_, fun x hx g hg hs => ?_⟩
      · rcases h2 with ⟨e, _⟩ | ⟨b, off, cap, cs, e, k2, _⟩
        · rw [e] at hg; cases hg
        · rw [e] at hg
          have : b = g := by simpa [Value.ownBlock] using hg
          subst this
          exact (no k2 hf).2.2.2.2.1 rfl
      · obtain ⟨cs, k2⟩ := own_blk (h4 j x m hx hm) hg
        exact h5 x (List.mem_of_getElem? hx) g hg ((no k2 hf).2.2.2.2.2 rfl)
      · obtain ⟨j, hj⟩ := List.getElem?_of_mem hx
        have hjl : j < (C.lines i k).length := by
          rw [← h3]
          exact (List.getElem?_eq_some_iff.1 hj).1
        rcases hS g hs with e | e
        · exact h5 x hx g hg e
        · have := (h4 j x _ hj (List.getElem?_eq_getElem hjl)).lt g hg
          omega
    slow := hlt
    injM := h.injM
    nemb := h.nemb
    injQ := h.injQ
    injV := h.injV }
/-- The messages turned. -/
theorem RAt.mvset {w4 : World} {mv' : Value} {ms' : List Msg} {xs' : List Value} (h : RAt w base z n C ms) (o : Only (fun g => z.mv.ownBlock = some g) w w4) (hown : w4.ownsRow base 89 3 mv' ms'.length (msgV ms' xs'))
    (hv : ∀ g, mv'.ownBlock = some g → z.mv.ownBlock = some g ∨ w.heap.size ≤ g) (hxl : xs'.length = ms'.length) (hxo : ∀ (j : Nat) (x : Value) (m : Msg), xs'[j]? = some x → ms'[j]? = some m → OwnCls w4 base x m.2.2)
    (hsep : ∀ i, i < n → ∀ x ∈ xs', ∀ g, (z.v i).ownBlock = some g → x.ownBlock ≠ some g) : RAt (w4.setCell ⟨z.p, 1, none⟩ mv') base { z with mv := mv', xs := xs' } n C ms' ∧ RTurn w (w4.setCell ⟨z.p, 1, none⟩ mv') z { z with mv := mv', xs := xs' } n := by
  have hne : ∀ {g : Nat} {t : TypeId} {cs : Array Value}, Blk w g t cs → t ≠ 89 → ¬ z.mv.ownBlock = some g := fun {g t cs} k ht hf => by
    obtain ⟨ds, k'⟩ := own_blk h.msv hf
    exact ht (blk_ty k k')
  have k4 := o.blk h.blk (hne h.blk (by decide))
  have o5 : Only (fun g => g = z.p) w4 (w4.setCell ⟨z.p, 1, none⟩ mv') := (Only.refl (fun g => g = z.p) w4).setCell (p := ⟨z.p, 1, none⟩) (.inl rfl) mv'
  have op : ∀ {e : TypeId} {size m : Nat} {v : Value} {xs : List Value}, w4.ownsRow base e size v m xs → e ≠ 80 → (w4.setCell ⟨z.p, 1, none⟩ mv').ownsRow base e size v m xs := fun {e size m v xs} ho he => o5.owns ho fun g hg e' => by
    subst e'
    obtain ⟨ds, k'⟩ := own_blk ho hg
    exact he (blk_ty k' k4)
  refine ⟨{ len := h.len, blk := ?_, low := h.low, pgv := op (o.owns h.pgv fun g hg hf => ?_) (by decide), msv := op hown (by decide), xlen := hxl, xown := fun j x m hx hm => op (hxo j x m hx hm) (by decide), pgs := fun i hi => ?_, qlow := h.qlow, qinj := h.qinj, vinj := h.vinj, sep := hsep }, ?_, ?_, fun g hg => .inl hg, rfl⟩
  · have := k4.set_ 1 mv'
    simpa using this
  · obtain ⟨cs, k⟩ := own_blk h.pgv hg
    exact hne k (by decide) hf
  · have k := (h.pgs i hi).only o (hne (h.pgs i hi).blk (by decide)) fun g hg hf => by
      obtain ⟨cs, k⟩ := own_blk (h.pgs i hi).own hg
      exact hne k (by decide) hf
    refine k.only o5 (fun e => ?_) fun g hg e => ?_
    · exact k4.ne_ (h.pgs i hi |>.blk |> fun b => o.blk b (hne b (by decide))) (by decide) e.symm
    · subst e
      obtain ⟨cs, k'⟩ := own_blk k.own hg
      exact absurd (blk_ty k' k4) (by decide)
  · exact (o.mono fun g e => .inr (.inl e)).trans o5 fun g e => .inl (.inl e)
  · rintro g (rfl | hg | hg)
    · exact .inl (.inl rfl)
    · exact (hv g hg).imp (fun e => .inr (.inl e)) id
    · exact .inl (.inr (.inr hg))
theorem upd_pg {C : Ch} {i k : Nat} {L : List Cl} (hl : i < C.pages.length) : (C.upd i L).pg k = if k = i then L else C.pg k := by
  unfold Ch.pg Ch.upd
  simp only [List.getD_eq_getElem?_getD, List.getElem?_set]
  by_cases e : k = i
  · subst e
    rw [if_pos rfl, if_pos rfl, if_pos hl]
    rfl
  · rw [if_neg (Ne.symm e), if_neg e]
/-- A page turned. -/
theorem RAt.pageSet {i : Nat} {v' : Value} {L : List Cl} (h : RAt w base z n C ms) (hi : i < n) (hp : RP w' base (z.q i) v' 100000 L) (hv : ∀ g, v'.ownBlock = some g → (z.v i).ownBlock = some g ∨ w.heap.size ≤ g) (o : Only (fun g => g = z.q i ∨ (z.v i).ownBlock = some g) w w') :
    RAt w' base { z with v := fun j => if j = i then v' else z.v j } n (C.upd i L) ms ∧ RTurn w w' z { z with v := fun j => if j = i then v' else z.v j } n := by
  have hlen : i < C.pages.length := by rw [h.len]; exact hi
  have hne : ∀ {g : Nat} {t : TypeId} {cs : Array Value}, Blk w g t cs → t ≠ 100 → t ≠ 56 → ¬ (g = z.q i ∨ (z.v i).ownBlock = some g) := fun {g t cs} k h1 h2 hf => by
    rcases hf with rfl | hf
    · exact h1 (blk_ty k (h.pgs i hi).blk)
    · obtain ⟨ds, k'⟩ := own_blk (h.pgs i hi).own hf
      exact h2 (blk_ty k k')
  have vold : ∀ {j : Nat} {g : Nat}, j < n → (z.v j).ownBlock = some g → g < w.heap.size := fun {j g} hj hg => h.vlt ⟨j, hj, hg⟩
  have vj : ∀ {j : Nat} {g : Nat}, j < n → j ≠ i → (z.v j).ownBlock = some g → v'.ownBlock ≠ some g := fun {j g} hj hji hg e => by
    rcases hv g e with e | e
    · exact hji (h.vinj j i hj hi g hg e)
    · have := vold hj hg
      omega
  refine ⟨{ len := by simpa [Ch.upd] using h.len, blk := o.blk h.blk (hne h.blk (by decide) (by decide)), low := h.low, pgv := o.owns h.pgv fun g hg => ?_, msv := o.owns h.msv fun g hg => ?_, xlen := h.xlen, xown := fun j x m hx hm => o.owns (h.xown j x m hx hm) fun g hg hf => ?_, pgs := fun j hj => ?_, qlow := h.qlow, qinj := h.qinj, vinj := fun a b ha hb g h1 h2 => ?_, sep := fun a ha x hx g hg => ?_ }, ?_, ?_, ?_, rfl⟩
  · obtain ⟨cs, k⟩ := own_blk h.pgv hg
    exact hne k (by decide) (by decide)
  · obtain ⟨cs, k⟩ := own_blk h.msv hg
    exact hne k (by decide) (by decide)
  · rcases hf with rfl | hf
    · obtain ⟨cs, k⟩ := own_blk (h.xown j x m hx hm) hg
      exact absurd (blk_ty k (h.pgs i hi).blk) (by decide)
    · exact h.sep i hi x (List.mem_of_getElem? hx) g hf hg
  · rw [upd_pg hlen]
    by_cases e : j = i
    · subst e
      simp only [if_true]
      exact hp
    · simp only [if_neg e]
      refine (h.pgs j hj).only o (fun hf => ?_) fun g hg hf => ?_
      · rcases hf with hf | hf
        · exact e (h.qinj j i hj hi hf)
        · obtain ⟨cs, k⟩ := own_blk (h.pgs i hi).own hf
          exact absurd (blk_ty k (h.pgs j hj).blk) (by decide)
      · rcases hf with hf | hf
        · obtain ⟨cs, k⟩ := own_blk (h.pgs j hj).own hg
          exact absurd (blk_ty k (hf ▸ (h.pgs i hi).blk)) (by decide)
        · exact e (h.vinj j i hj hi g hg hf)
  · dsimp only at h1 h2
    by_cases ea : a = i
    · rw [if_pos ea] at h1
      by_cases eb : b = i
      · exact ea.trans eb.symm
      · rw [if_neg eb] at h2
        exact absurd h1 (vj hb eb h2)
    · rw [if_neg ea] at h1
      by_cases eb : b = i
      · rw [if_pos eb] at h2
        exact absurd h2 (vj ha ea h1)
      · rw [if_neg eb] at h2
        exact h.vinj a b ha hb g h1 h2
  · dsimp only at hg
    by_cases ea : a = i
    · rw [if_pos ea] at hg
      intro hx'
      rcases hv g hg with e | e
      · exact h.sep i hi x hx g e hx'
      · obtain ⟨j, hj⟩ := List.getElem?_of_mem hx
        have hjl : j < ms.length := by
          rw [← h.xlen]
          exact (List.getElem?_eq_some_iff.1 hj).1
        have := (h.xown j x _ hj (List.getElem?_eq_getElem hjl)).lt g hx'
        omega
    · rw [if_neg ea] at hg
      exact h.sep a ha x hx g hg
  · exact o.mono fun g e => e.elim (fun e => .inr (.inr (.inl ⟨i, hi, e⟩))) fun e => .inr (.inr (.inr ⟨i, hi, e⟩))
  · rintro g (rfl | hg | hg | ⟨a, ha, hg⟩)
    · exact .inl (.inl rfl)
    · exact .inl (.inr (.inl hg))
    · exact .inl (.inr (.inr (.inl hg)))
    · dsimp only at hg
      by_cases ea : a = i
      · rw [if_pos ea] at hg
        exact (hv g hg).imp (fun e => .inr (.inr (.inr ⟨i, hi, e⟩))) id
      · rw [if_neg ea] at hg
        exact .inl (.inr (.inr (.inr ⟨a, ha, hg⟩)))
  · rintro g ⟨a, ha, hg⟩
    dsimp only at hg
    by_cases ea : a = i
    · rw [if_pos ea] at hg
      exact (hv g hg).imp (fun e => ⟨i, hi, e⟩) id
    · rw [if_neg ea] at hg
      exact .inl ⟨a, ha, hg⟩
end
end Go.Proofs.Ytaicbllfkehhjaa

/- The reference: a message more; tell. -/
namespace Go.Proofs.Ytaicbllfkehhjaa
open Go.RowKit

theorem info_msg : (Try.prog.info? 89).map (fun i => (i.zero, i.size, i.bytes)) = some (some (.agg #[.int .i64 0, .int .i64 0, .slice none 0 0]), 3, 40) := by kernel_rfl
theorem msgV_snoc (ms : List Msg) (xs : List Value) (m : Msg) (x : Value) (h : xs.length = ms.length) : msgV (ms ++ [m]) (xs ++ [x]) = msgV ms xs ++ [.int .i64 (m.1 : Int), .int .i64 (m.2.1 : Int), x] := by
  unfold msgV
  rw [List.zip_append h.symm, List.flatMap_append]
  simp
/-- What the walk has of a message sent: the slice mv', in the world w4, not yet laid into the chamber. -/
structure Sent (w w4 : World) (base n : Nat) (z : RLay) (C : Ch) (ms : List Msg) (i k : Nat) (m : List Cl) (u mv' : Value) : Prop where
  at_ : RAt (w4.setCell ⟨z.p, 1, none⟩ mv') base { z with mv := mv', xs := z.xs ++ [u] } n C (ms ++ [(i, k, m)])
  turn : RTurn w (w4.setCell ⟨z.p, 1, none⟩ mv') z { z with mv := mv', xs := z.xs ++ [u] } n
  blk : Blk w4 z.p 80 #[z.pv, z.mv]
  only : Only (fun g => z.mv.ownBlock = some g) w w4
theorem wpList_send {w : World} {ops : Array Oper} {rest : List Oper} {o : Oper} {a : Act} {Q : Exit → Act → World → Prop} (hgd : o.guard = none) (s x : Operand)
    (ho : o.op = .call { callee := .builtin .append, args := #[s, x], argTypes := #[78, 78] })
    {base n : Nat} {z : RLay} {C : Ch} {ms : List Msg} (h : RAt w base z n C ms) (hs : a.eval s = z.mv) {g c : Nat} (hx : a.eval x = .slice (some ⟨g, 0, none⟩) 1 c) {i k : Nat} {u : Value} {m : List Cl}
    (kB : Blk w g 89 #[.int .i64 (i : Int), .int .i64 (k : Int), u]) (hu : OwnCls w base u m) (hsep : ∀ j, j < n → ∀ g, (z.v j).ownBlock = some g → u.ownBlock ≠ some g) (hlen : ms.length ≤ 1000000) (hb : base ≤ w.heap.size)
    (K : ∀ mv' w4, Sent w w4 base n z C ms i k m u mv' → wpList Try.prog ops Q rest (a.put o.dst mv') w4) : wpList Try.prog ops Q (o :: rest) a w := by
  obtain ⟨i0, hi', hz0, hz1, hz2⟩ := info_parts info_msg
  have hnews : ∀ (j : Nat) (v : Value), [Value.int .i64 (i : Int), .int .i64 (k : Int), u][j]? = some v → w.cell? ((⟨g, 0, none⟩ : Addr).add j) = some v := fun j v hv => by
    rw [addr_add1, Nat.zero_add, kB.cell j]
    simpa using hv
  have hone : ∀ v ∈ [Value.int .i64 (i : Int), .int .i64 (k : Int), u], v.oneCell' = true := fun v hv => by
    obtain ⟨A, cap, e, _⟩ := hu.form
    subst e
    simp only [List.mem_cons, List.not_mem_nil, or_false] at hv
    rcases hv with rfl | rfl | rfl <;> rfl
  refine wpList_append_own_at _ hgd s x 78 ho base 89 i0 _ 3 40 Try.underlying78 hi' hz0 hz1 hz2 rfl (by decide) _ _ _ hs h.msv ⟨g, 0, none⟩ 1 c _ hx rfl hnews hone (Nat.le_trans (show ms.length + 1 ≤ 1000001 by omega) (by decide)) (by omega) hb ?_
  intro v' w4 hown hg _ hv
  have o4 := Only.of_grown hg
  have hlt : ∀ g, z.mv.ownBlock = some g → g < w.heap.size := fun g hg => (World.ownsRow.lt h.msv g hg).2
  have k4 : Blk w4 z.p 80 #[z.pv, z.mv] := o4.blk h.blk fun hf => by
    obtain ⟨ds, k'⟩ := own_blk h.msv hf
    exact absurd (blk_ty k' h.blk) (by decide)
  obtain ⟨h1, h2⟩ := h.mvset (mv' := v') (ms' := ms ++ [(i, k, m)]) (xs' := z.xs ++ [u]) o4 (by rw [List.length_append, msgV_snoc _ _ _ _ h.xlen]; exact hown)
    (fun g hg' => hv.imp (fun e => by rw [← e]; exact hg') fun e => by rw [e] at hg'; injection hg' with hg'; omega) (by simp [h.xlen]) (fun j y mm hy hm => by
      have hne : ∀ {v : Value} {l : List Cl}, OwnCls w base v l → OwnCls w4 base v l := fun {v l} ho => o4.owns ho fun g hg hf => by
        obtain ⟨ds, k'⟩ := own_blk h.msv hf
        obtain ⟨es, k''⟩ := own_blk ho hg
        exact absurd (blk_ty k' k'') (by decide)
      rcases Nat.lt_or_ge j z.xs.length with h1 | h1
      · rw [List.getElem?_append_left h1] at hy
        rw [List.getElem?_append_left (by rw [← h.xlen]; exact h1)] at hm
        exact hne (h.xown j y mm hy hm)
      · rw [List.getElem?_append_right h1] at hy
        rw [List.getElem?_append_right (by rw [← h.xlen]; exact h1), ← h.xlen] at hm
        have hj : j - z.xs.length = 0 := by
          rcases Nat.eq_zero_or_pos (j - z.xs.length) with h2 | h2
          · exact h2
          · rw [List.getElem?_eq_none (by simp; omega)] at hy; cases hy
        rw [hj] at hy hm
        simp at hy hm
        subst hy hm
        exact hne hu) (fun j hj y hy g hg => by
      rcases List.mem_append.1 hy with hy | hy
      · exact h.sep j hj y hy g hg
      · simp only [List.mem_singleton] at hy
        subst hy
        exact hsep j hj g hg)
  exact K v' w4 ⟨h1, h2, k4, o4⟩
theorem tellM_len (i : Nat) (x : Cl) (ms : List Msg) : ∀ j, (tellM i x j ms).length ≤ ms.length + j
  | 0 => Nat.le_refl _
  | j + 1 => by
    have := tellM_len i x ms j
    unfold tellM
    split
    · rw [List.length_append, List.length_singleton]
      omega
    · omega
theorem RAt.cells {w : World} {base n : Nat} {z : RLay} {C : Ch} {ms : List Msg} (h : RAt w base z n C ms) : w.cell? ⟨z.p, 0, none⟩ = some z.pv ∧ w.cell? ⟨z.p, 1, none⟩ = some z.mv := ⟨h.blk.cell 0, h.blk.cell 1⟩

set_option maxRecDepth 100000 in
set_option maxHeartbeats 4000000 in
/-- A clause sent to all others. -/
theorem rtell_any (w : World) {base n : Nat} {z : RLay} {C : Ch} {ms : List Msg} (h : RAt w base z n C ms) (hb : base ≤ w.heap.size) (hn : n ≤ 1000) (hl : ms.length ≤ 900000) (i : Nat) (c : Cl) :
    Calls Try.prog 37 #[.pointer (some ⟨z.p, 0, none⟩), .int .i64 (i : Int), .agg (clA c)] w fun e w' => (∃ r, e = .returned r) ∧ ∃ z', RAt w' base z' n C (tellM i c n ms) ∧ RTurn w w' z z' n := by
  have hcz := clA_size c
  have hco := clA_one c
  have hfold := fold_cl c
  have hcl : cls [c] = (clA c).toList := by simp [cls]; rfl
  obtain ⟨CX, hCX⟩ : ∃ x, clA c = x := ⟨_, rfl⟩
  rw [hCX] at hcz hco hfold hcl ⊢
  have H := Lib.hid h
  have HB := Lib.hid hb
  have HL := Lib.hid hl
  have HN := Lib.hid h.len
  have HCZ := Lib.hid hcz
  have HCO := Lib.hid hco
  have HFO := Lib.hid hfold
  have HCL := Lib.hid hcl
  obtain ⟨A, cap, hpv⟩ := h.pv_form
  have HPV := Lib.hid (show ∀ W z' D ms', RAt W base z' n D ms' → ∃ A cap, z'.pv = .slice A n cap from fun W z' D ms' h => h.pv_form)
  obtain ⟨q, hq⟩ : ∃ q, w.heap.size = q := ⟨_, rfl⟩
  have HQ := Lib.hid hq
  have kC : Blk (w.alloc (.cells CX 56)) q 56 CX := hq ▸ Blk.new w _ CX
  have HK0 := Lib.hid kC
  have H0 := Lib.hid (h.below (below_self_alloc w (.cells CX 56)))
  have HT0 := Lib.hid (RTurn.of_below (z := z) (n := n) (below_self_alloc w (.cells CX 56)))
  clear h hb hl hcz hco hfold hcl kC hpv
  go_enter Try.func37, Try.ntmps37
  go_wp2_with fail
  try rw [hq]
  clear hq
  generalize w.alloc (.cells CX 56) = W0 at *
  go_loopw [6] (fun v wr => ∃ k : Nat, k ≤ n ∧ v = .int .i64 (k : Int) ∧ ∃ z', Hid (RAt wr base z' n C (tellM i c k ms)) ∧ Hid (RTurn w wr z z' n) ∧ Hid (Blk wr q 56 CX)) (fun v _ => n - (intOf v).toNat)
  case atStart => exact ⟨0, Nat.zero_le _, rfl, z, H0, HT0, HK0⟩
  case round =>
    obtain ⟨k, hk, rfl, z', HR, HT, HK⟩ := hrel
    clear H0 HT0 HK0
    have ep := HT.out.p
    have c0 : wr.cell? ⟨z.p, 0, none⟩ = some z'.pv := by rw [← ep]; exact HR.out.cells.1
    obtain ⟨A', cap', hpv'⟩ := HR.out.pv_form
    rw [hpv'] at c0
    have HEP := Lib.hid ep
    clear ep hpv'
    by_cases hkn : k < n
    · have hk0 : (0 : Int) ≤ (k : Int) := by omega
      have hk1 : (k : Int) < (n : Int) := by omega
      have hk2 : (k : Int) ≤ 1000 := by omega
      have HKN := Lib.hid hkn
      by_cases hki : k = i
      · have e0 : ((k : Int) != (i : Int)) = false := by simp [hki]
        have HS := Lib.hid (show tellM i c (k + 1) ms = tellM i c k ms from if_neg (fun e => e hki))
        go_wp2_with fail
        exact ⟨⟨k + 1, HKN.out, by go_num, z', Lib.hid (HS.out ▸ HR.out), HT, HK⟩, by have := HKN.out; simp [intOf]; omega⟩
      · have e0 : ((k : Int) != (i : Int)) = true := by
          have : (k : Int) ≠ (i : Int) := by omega
          simpa using this
        have HS := Lib.hid (show tellM i c (k + 1) ms = tellM i c k ms ++ [(i, k, [c])] from if_pos hki)
        clear hki hkn
        go_upto_region 5 with fail
        refine wp_region_hold (fun W => Blk W z'.p 80 #[z'.pv, z'.mv] ∧ Blk W q 56 CX) [0, 1, 2, 3, 4, 5, 6, 7] [8, 9, 10, 11] [12, 13, 14] (by kernel_rfl) (by kernel_rfl) (fun _ d _ _ _ h => by cases d <;> exact h) (⟨HR.out.blk.drewN 1, HK.out.drewN 1⟩) ?_
        simp only [pick, List.drop_succ_cons, List.drop_zero, List.head?_cons, Option.toList_some, List.cons_append, List.nil_append, List.append_nil]
        try simp only [Act.put]
        repeat ((refine wpHeld_step ?_ rfl ?_ ?_; rotate_left; · (intro W hW; have c1 : W.cell? ⟨z.p, 1, none⟩ = some z'.mv := by { rw [← HEP.out]; exact hW.1.cell 1 }; first | (refine exec_load_blk (x := .tmp 5) ?_ ?_ HCZ.out hW.2 <;> rfl) | (go_simp; try with_reducible rfl))); simp only [Act.put, List.setIfInBounds_toArray, List.set_cons_succ, List.set_cons_zero])
        refine wpHeld_nil ?_
        simp only [wpEarly]
        have RD := Lib.hid (show RAt wr.drew base z' n C (tellM i c k ms) from HR.out.below ⟨rfl, rfl, rfl, Nat.le_refl _, fun _ _ => rfl⟩)
        have KD := Lib.hid (show Blk wr.drew q 56 CX from HK.out.drewN 1)
        have TD := Lib.hid (HT.out.trans (show RTurn wr wr.drew z' z' n from RTurn.of_below ⟨rfl, rfl, rfl, Nat.le_refl _, fun _ _ => rfl⟩))
        have HBW := Lib.hid (show base ≤ wr.drew.heap.size from Nat.le_trans HB.out HT.out.only.size)
        clear HR HK HT c0
        generalize wr.drew = w1 at *
        have hfo := HFO.out
        have hcz := HCZ.out
        go_wp2_with fail
        clear hfo hcz
        have x1 : OwnCls (w1.alloc (.cells CX 56)) base (.slice (some ⟨w1.heap.size, 0, none⟩) 1 1) [c] := ⟨by rw [cls_len], .inr ⟨w1.heap.size, 1, CX, rfl, HBW.out, World.alloc_heap_new _ _, Nat.le_refl _, by decide, by rw [HCZ.out], by rw [HCL.out]; exact List.take_of_length_le (by rw [Array.length_toList, HCZ.out]; exact Nat.le_refl _)⟩⟩
        have R2 := RD.out.below (below_self_alloc w1 (.cells CX 56))
        refine ⟨⟨R2.blk, KD.out.alloc _⟩, ?_⟩
        have KD2 := Lib.hid (KD.out.alloc (.cells CX 56))
        have X1 := Lib.hid x1
        replace R2 := Lib.hid R2
        have B2 := Lib.hid (below_self_alloc w1 (.cells CX 56))
        have HG := Lib.hid (show ∀ j, j < n → ∀ g, (z'.v j).ownBlock = some g → Value.ownBlock (.slice (some ⟨w1.heap.size, 0, none⟩) 1 1) ≠ some g from fun j hj g hg e => by
          have := RD.out.vlt ⟨j, hj, hg⟩
          have e : w1.heap.size = g := by simpa [Value.ownBlock] using e
          omega)
        clear x1 KD RD
        obtain ⟨p1, hp1⟩ : ∃ p, w1.heap.size = p := ⟨_, rfl⟩
        rw [hp1] at X1 HG
        try simp only [hp1]
        have HBW2 := Lib.hid (Nat.le_trans HBW.out B2.out.size)
        have TD2 := Lib.hid (TD.out.trans (RTurn.of_below B2.out))
        clear hp1 TD HBW B2
        generalize w1.alloc (.cells CX 56) = w2 at *
        go_wp2_with fail
        refine ⟨⟨R2.out.blk, KD2.out⟩, ?_⟩
        go_wp2_with fail
        have kB := Blk.new w2 89 #[.int .i64 (i : Int), .int .i64 (k : Int), .slice (some ⟨p1, 0, none⟩) 1 1]
        have B3 := below_self_alloc w2 (.cells #[.int .i64 (i : Int), .int .i64 (k : Int), .slice (some ⟨p1, 0, none⟩) 1 1] 89)
        have R3 := R2.out.below B3
        have K3 := KD2.out.alloc (.cells #[.int .i64 (i : Int), .int .i64 (k : Int), .slice (some ⟨p1, 0, none⟩) 1 1] 89)
        have X3 := X1.out.below B3
        refine ⟨⟨R3.blk, K3⟩, ?_⟩
        have HB3 := Nat.le_trans HBW2.out B3.size
        have TD3 := Lib.hid (TD2.out.trans (RTurn.of_below B3))
        have HML := Lib.hid (show (tellM i c k ms).length ≤ 1000000 from by have := tellM_len i c ms k; have := HL.out; have := HKN.out; omega)
        replace R3 := Lib.hid R3
        replace K3 := Lib.hid K3
        replace X3 := Lib.hid X3
        replace HB3 := Lib.hid HB3
        replace kB := Lib.hid kB
        clear R2 KD2 X1 TD2 HBW2 B3
        generalize w2.alloc (.cells #[.int .i64 (i : Int), .int .i64 (k : Int), .slice (some ⟨p1, 0, none⟩) 1 1] 89) = w3 at *
        at_builtin
        refine wpList_send rfl _ _ rfl R3.out rfl rfl kB.out X3.out HG.out HML.out HB3.out ?_
        intro mv' w4 hs
        have hf : ∃ A m cap, mv' = .slice A m cap := by
          rcases hs.at_.msv.2 with ⟨e, _⟩ | ⟨g', cap', cur, e, _⟩
          · exact ⟨_, _, _, e⟩
          · exact ⟨_, _, _, e⟩
        obtain ⟨A4, m4, c4, rfl⟩ := hf
        have K4 := Lib.hid (hs.only.blk K3.out fun hf => by
          obtain ⟨ds, k'⟩ := own_blk R3.out.msv hf
          exact absurd (blk_ty k' K3.out) (by decide))
        have kz := hs.blk
        rw [HEP.out] at kz
        have HS4 := Lib.hid hs
        have KZ := Lib.hid kz
        have kza := kz.all
        obtain ⟨d0, df, dl⟩ := kza
        have HS5 := Lib.hid hs.blk
        clear hs kz R3 kB X3 HG HML
        go_wp2_with fail
        refine ⟨⟨HS5.out, K4.out⟩, ?_⟩
        go_wp2_with fail
        have hat := HS4.out.at_
        have htn := HS4.out.turn
        rw [HEP.out] at hat htn
        have R5 := Lib.hid hat
        have T5 := Lib.hid (TD3.out.trans htn)
        have K5 := Lib.hid ((Only.refl (fun g => g = z.p) w4).setCell (p := ⟨z.p, 1, none⟩) (.inl rfl) (.slice A4 m4 c4) |>.blk K4.out fun e => absurd (blk_ty K4.out (e ▸ KZ.out)) (by decide))
        clear hat htn d0 df dl TD3
        exact ⟨⟨k + 1, HKN.out, by go_num, _, Lib.hid (HS.out ▸ R5.out), T5, K5⟩, by have := HKN.out; simp [intOf]; omega⟩
    · obtain rfl : k = n := by omega
      go_wp2_with fail
      exact bodyPost_end (results_none rfl _ _ _) rfl ⟨⟨_, rfl⟩, z', HR.out, HT.out⟩
end Go.Proofs.Ytaicbllfkehhjaa

/- The reference: Again. -/
namespace Go.Proofs.Ytaicbllfkehhjaa
open Go.RowKit

theorem RAt.cast {w : World} {base n : Nat} {z : RLay} {C C' : Ch} {ms : List Msg} (h : RAt w base z n C ms) (e : C'.pages = C.pages) : RAt w base z n C' ms :=
  { h with
    len := by rw [e]; exact h.len
    pgs := fun i hi => by
      rw [show C'.pg i = C.pg i from by unfold Ch.pg; rw [e]]
      exact h.pgs i hi }
theorem RAt.pageB {w : World} {base n : Nat} {z : RLay} {C : Ch} {ms : List Msg} (h : RAt w base z n C ms) {i : Nat} (hi : i < n) : ∃ b cap cs, z.pv = .slice (some ⟨b, 0, none⟩) n cap ∧ Blk w b 81 cs ∧ cs[i]? = some (.pointer (some ⟨z.q i, 0, none⟩)) := by
  have h1 := h.pgv
  rcases h.pgv.2 with ⟨e, h0⟩ | ⟨g, cap, cur, e, _, hh, _⟩
  · omega
  · rw [e] at h1
    refine ⟨g, cap, cur, e, hh, ?_⟩
    rw [← Blk.cell hh i, h1.cellAt i (by omega)]
    simp [hi]
/-- What an operation on the reference's chamber hands on. -/
structure RStep (w w' : World) (base n : Nat) (z : RLay) (C : Ch) (ms : List Msg) (K : Nat) : Prop where
  step : ∃ z' ms', RAt w' base z' n C ms' ∧ Agree C ms' ∧ RTurn w w' z z' n ∧ ms'.length ≤ K
theorem RStep.same {w w' : World} {base n K : Nat} {z : RLay} {C : Ch} {ms : List Msg} (h : RAt w base z n C ms) (ha : Agree C ms) (hk : ms.length ≤ K) (b : Below w.heap.size w w') : RStep w w' base n z C ms K := ⟨z, ms, h.below b, ha, RTurn.of_below b, hk⟩

set_option maxRecDepth 100000 in
set_option maxHeartbeats 4000000 in
theorem ragain_any (w : World) {base n : Nat} {z : RLay} {C : Ch} {ms : List Msg} (h : RAt w base z n C ms) (hg : Agree C ms) (hb : base ≤ w.heap.size) (hn : n ≤ 1000) (hl : ms.length ≤ 900000) (a b : Int) :
    Calls Try.prog 18 #[.pointer (some ⟨z.p, 0, none⟩), .int .i64 a, .int .i64 b] w fun e w' => e = .returned (.int .i64 (againI n C a b).2) ∧ RStep w w' base n z (againI n C a b).1 ms (ms.length + n) := by
  have hA := rseat_any w h a
  have hB := rseat_any w h b
  have H := Lib.hid h
  have HG := Lib.hid hg
  by_cases ha : 0 ≤ a ∧ a < (n : Int)
  · rw [decide_eq_true ha] at hA
    have HA := Lib.hid hA
    clear hA
    by_cases hbb : 0 ≤ b ∧ b < (n : Int)
    · rw [decide_eq_true hbb] at hB
      have HB := Lib.hid hB
      clear hB
      have hE : againI n C a b = againS C a.toNat b.toNat := if_pos ⟨ha, hbb⟩
      rw [hE]
      obtain ⟨i, rfl⟩ := Int.eq_ofNat_of_zero_le ha.1
      obtain ⟨k, rfl⟩ := Int.eq_ofNat_of_zero_le hbb.1
      rw [Int.toNat_natCast, Int.toNat_natCast]
      have hi : i < n := by omega
      have hk : k < n := by omega
      by_cases hik : i = k
      · subst hik
        have e : againS C i i = (C, 1) := if_pos rfl
        rw [e]
        clear hE e hg ha hbb h hi hk
        go_enter Try.func18, Try.ntmps18
        go_wp2_with (go_at_call 34; first | (refine HA.out.mono ?_; clear HA; rintro e w1 ⟨rfl, rfl⟩) | (refine HB.out.mono ?_; rintro e w1 ⟨rfl, rfl⟩))
        go_wp2_with fail
        go_ret
        exact ⟨rfl, RStep.same H.out HG.out (Nat.le_add_right _ _) (Below.refl _ _)⟩
      · have hne : ((i : Int) == (k : Int)) = false := by
          have : ¬ (i : Int) = (k : Int) := by omega
          simpa using this
        have hr : againS C i k = (C.send i k (walkS (C.pg i)), 0) := if_neg hik
        rw [hr]
        dsimp only
        obtain ⟨bp, cp, cs, epv, kP, hcs⟩ := h.pageB hi
        have HPV := Lib.hid epv
        have KP := Lib.hid kP
        have HCS := Lib.hid hcs
        have HLI := Lib.hid (fun W (hW : RAt W base z n C ms) => rList_any W (hW.pgs i hi) (Nat.le_refl _))
        have HIK := Lib.hid hik
        have R0 := Lib.hid (show 0 < n by omega)
        have HBS := Lib.hid hb
        have HML := Lib.hid hl
        have hi1 : (i : Int) < (n : Int) := by omega
        have hi2 : (i : Int) ≤ 1000 := by omega
        have hn1 : (n : Int) ≤ 1000 := by omega
        clear hE hr hg ha hbb h hi hk hik epv kP hcs hb hl
        go_enter Try.func18, Try.ntmps18
        go_upto_region 3 with (go_at_call 34; first | (refine HA.out.mono ?_; clear HA; rintro e w1 ⟨rfl, rfl⟩) | (refine HB.out.mono ?_; rintro e w1 ⟨rfl, rfl⟩))
        refine wp_region_hold (fun W => Blk W z.p 80 #[z.pv, z.mv] ∧ Blk W bp 81 cs) [0, 1, 2, 3, 4, 5, 6, 7, 8, 9, 10, 11, 12, 13] [14, 15, 16, 17] [18, 19, 20] (by kernel_rfl) (by kernel_rfl) (fun _ d _ _ _ h => by cases d <;> exact h) (⟨H.out.blk.drewN 1, KP.out.drewN 1⟩) ?_
        simp only [pick, List.drop_succ_cons, List.drop_zero, List.head?_cons, Option.toList_some, List.cons_append, List.nil_append, List.append_nil]
        try simp only [Act.put]
        repeat ((refine wpHeld_step ?_ rfl ?_ ?_; rotate_left; · (intro W hW; have c0 : W.cell? ⟨z.p, 0, none⟩ = some (.slice (some ⟨bp, 0, none⟩) n cp) := by { rw [← HPV.out]; exact hW.1.cell 0 }; have c1 : W.cell? ⟨z.p, 1, none⟩ = some z.mv := hW.1.cell 1; have cq : W.cell? ⟨bp, i, none⟩ = some (.pointer (some ⟨z.q i, 0, none⟩)) := by { rw [← HCS.out]; exact hW.2.cell i }; (go_simp; try with_reducible rfl))); simp only [Act.put, List.setIfInBounds_toArray, List.set_cons_succ, List.set_cons_zero])
        refine wpHeld_nil ?_
        simp only [wpEarly]
        have RD := Lib.hid (show RAt w1.drew base z n C ms from H.out.below ⟨rfl, rfl, rfl, Nat.le_refl _, fun _ _ => rfl⟩)
        have KD := Lib.hid (show Blk w1.drew bp 81 cs from KP.out.drewN 1)
        have BD := Lib.hid ((Below.refl w1.heap.size w1).drew)
        have HBW := Lib.hid (show base ≤ w1.drew.heap.size from HBS.out)
        generalize w1.drew = wd at *
        go_wp2_with fail
        refine (HLI.out _ RD.out).mono ?_
        rintro e w2 ⟨u, rfl, own, b2⟩
        have R2 := RD.out.below b2
        have K2 := Lib.hid (KD.out.below b2 KD.out.lt)
        have B2 := Lib.hid (BD.out.trans (b2.mono BD.out.size))
        have HS2 := Lib.hid (show ∀ j, j < n → ∀ g, (z.v j).ownBlock = some g → u.ownBlock ≠ some g from fun j hj g hg e => by
          have := RD.out.vlt ⟨j, hj, hg⟩
          have := (own.lt g e).1
          omega)
        have O2 := Lib.hid (show OwnCls w2 base u (walkS (C.pg i)) from ⟨own.1, own.2.imp id fun ⟨g, cap, cur, x1, x2, x3⟩ => ⟨g, cap, cur, x1, Nat.le_trans HBW.out x2, x3⟩⟩)
        have HBW2 := Lib.hid (Nat.le_trans HBW.out b2.size)
        replace R2 := Lib.hid R2
        clear own b2 KD RD BD HBW
        obtain ⟨Au, mu, cu, hu⟩ : ∃ A m c, u = .slice A m c := by
          obtain ⟨A, c, e, _⟩ := O2.out.form
          exact ⟨_, _, _, e⟩
        subst hu
        go_wp2_with fail
        refine ⟨⟨R2.out.blk, K2.out⟩, ?_⟩
        go_wp2_with fail
        refine ⟨⟨R2.out.blk, K2.out⟩, ?_⟩
        go_wp2_with fail
        have kB := Blk.new w2 89 #[.int .i64 (i : Int), .int .i64 (k : Int), .slice Au mu cu]
        have B3 := below_self_alloc w2 (.cells #[.int .i64 (i : Int), .int .i64 (k : Int), .slice Au mu cu] 89)
        have R3 := R2.out.below B3
        have K3 := K2.out.alloc (.cells #[.int .i64 (i : Int), .int .i64 (k : Int), .slice Au mu cu] 89)
        have X3 := O2.out.below B3
        refine ⟨⟨R3.blk, K3⟩, ?_⟩
        have HB3 := Nat.le_trans HBW2.out B3.size
        have BB3 := Lib.hid (B2.out.trans (B3.mono B2.out.size))
        replace R3 := Lib.hid R3
        replace K3 := Lib.hid K3
        replace X3 := Lib.hid X3
        replace HB3 := Lib.hid HB3
        replace kB := Lib.hid kB
        clear R2 K2 O2 HBW2 B3 B2
        generalize w2.alloc (.cells #[.int .i64 (i : Int), .int .i64 (k : Int), .slice Au mu cu] 89) = w3 at *
        at_builtin
        refine wpList_send rfl _ _ rfl R3.out rfl rfl kB.out X3.out HS2.out (Nat.le_trans HML.out (by decide)) HB3.out ?_
        intro mv' w4 hs
        have hf : ∃ A m cap, mv' = .slice A m cap := by
          rcases hs.at_.msv.2 with ⟨e, _⟩ | ⟨g', cap', cur, e, _⟩
          · exact ⟨_, _, _, e⟩
          · exact ⟨_, _, _, e⟩
        obtain ⟨A4, m4, c4, rfl⟩ := hf
        have K4 := Lib.hid (hs.only.blk K3.out fun hf => by
          obtain ⟨ds, k'⟩ := own_blk R3.out.msv hf
          exact absurd (blk_ty k' K3.out) (by decide))
        have KZ := Lib.hid hs.blk
        have kza := hs.blk.all
        obtain ⟨d0, df, dl⟩ := kza
        have HS4 := Lib.hid hs
        clear hs R3 kB X3 HS2
        go_wp2_with fail
        refine ⟨⟨KZ.out, K4.out⟩, ?_⟩
        go_wp2_with fail
        clear d0 df dl
        go_ret
        have hat := HS4.out.at_
        exact ⟨rfl, ⟨_, _, hat.cast rfl, HG.out.send HIK.out _, (RTurn.of_below BB3.out).trans HS4.out.turn, by rw [List.length_append, List.length_singleton]; have := R0.out; omega⟩⟩
    · rw [decide_eq_false hbb] at hB
      have HB := Lib.hid hB
      have e : againI n C a b = (C, 1) := if_neg fun e => hbb e.2
      rw [e]
      clear hg h hbb ha hB e
      go_enter Try.func18, Try.ntmps18
      go_wp2_with (go_at_call 34; first | (refine HA.out.mono ?_; clear HA; rintro e w1 ⟨rfl, rfl⟩) | (refine HB.out.mono ?_; rintro e w1 ⟨rfl, rfl⟩))
      go_wp2_with fail
      go_ret
      exact ⟨rfl, RStep.same H.out HG.out (Nat.le_add_right _ _) (Below.refl _ _)⟩
  · rw [decide_eq_false ha] at hA
    have HA := Lib.hid hA
    have e : againI n C a b = (C, 1) := if_neg fun e => ha e.1
    rw [e]
    clear hg h ha hA hB e
    go_enter Try.func18, Try.ntmps18
    go_wp2_with (go_at_call 34; refine HA.out.mono ?_; rintro e w1 ⟨rfl, rfl⟩)
    go_wp2_with fail
    go_ret
    exact ⟨rfl, RStep.same H.out HG.out (Nat.le_add_right _ _) (Below.refl _ _)⟩
end Go.Proofs.Ytaicbllfkehhjaa

/- The reference: Withdraw. -/
namespace Go.Proofs.Ytaicbllfkehhjaa
open Go.RowKit

theorem RAt.rdrop {w : World} {base n : Nat} {z : RLay} {C : Ch} {ms : List Msg} (h : RAt w base z n C ms) {i : Nat} (hi : i < n) (t : St2) :
    Calls Try.prog 38 #[.pointer (some ⟨z.q i, 0, none⟩), .agg (stA t)] w fun e w' => e = .returned (.int .i64 (dropS (C.pg i) t).2) ∧ ∃ z', RAt w' base z' n (C.upd i (dropS (C.pg i) t).1) ms ∧ RTurn w w' z z' n := by
  refine (rDrop_any w (h.pgs i hi) (Nat.le_refl _) t).mono ?_
  rintro e w' ⟨he, hp, o⟩
  obtain ⟨h1, h2⟩ := h.pageSet hi hp (fun g hg => .inl hg) (o.mono fun _ e => .inr e)
  exact ⟨he, _, h1, h2⟩
theorem RAt.rput {w : World} {base n : Nat} {z : RLay} {C : Ch} {ms : List Msg} (h : RAt w base z n C ms) {i : Nat} (hi : i < n) (hb : base ≤ w.heap.size) (hl : (C.pg i).length < 100000) (c : Cl) :
    Calls Try.prog 36 #[.pointer (some ⟨z.q i, 0, none⟩), .agg (clA c)] w fun e w' => e = .returned (.int .i64 (putS (C.pg i) c).2) ∧ ∃ z', RAt w' base z' n (C.upd i (putS (C.pg i) c).1) ms ∧ RTurn w w' z z' n := by
  have hp := h.pgs i hi
  refine (rPut_any w (n := (C.pg i).length) ⟨hp.blk, hp.own, hp.pg, Nat.le_refl _⟩ (by omega) hb c).mono ?_
  rintro e w' ⟨he, v', hp', hv, o⟩
  obtain ⟨h1, h2⟩ := h.pageSet hi (v' := v') ⟨hp'.blk, hp'.own, hp'.pg, by have := hp'.len; omega⟩ (fun g hg => by
    rcases hv with hv | ⟨g', hv, hge⟩
    · exact .inl (by rw [← hv]; exact hg)
    · rw [hg] at hv
      injection hv with hv
      exact .inr (hv ▸ hge)) o
  exact ⟨he, _, h1, h2⟩
theorem RAt.mslen {w : World} {base n : Nat} {z : RLay} {C : Ch} {ms : List Msg} (h : RAt w base z n C ms) {i : Nat} (hi : i < n) : Pg (C.pg i) ∧ (C.pg i).length ≤ 100000 := ⟨(h.pgs i hi).pg, (h.pgs i hi).len⟩

set_option maxRecDepth 100000 in
set_option maxHeartbeats 4000000 in
theorem rwithdraw_any (w : World) {base n : Nat} {z : RLay} {C : Ch} {ms : List Msg} (h : RAt w base z n C ms) (hg : Agree C ms) (hb : base ≤ w.heap.size) (hn : n ≤ 1000) (hl : ms.length ≤ 800000) (i a b : Int) :
    Calls Try.prog 16 #[.pointer (some ⟨z.p, 0, none⟩), .int .i64 i, .agg #[.int .i64 a, .int .i64 b]] w fun e w' => e = .returned (.int .i64 (withdrawI n C i (a, b)).2) ∧ RStep w w' base n z (withdrawI n C i (a, b)).1 ms (ms.length + n) := by
  have b0 := below_self_alloc w (.cells #[.int .i64 a, .int .i64 b] 33)
  have h0 := h.below b0
  have hI := rseat_any _ h0 i
  have kS := Blk.new w 33 #[.int .i64 a, .int .i64 b]
  have hn1 : (n : Int) ≤ 1000 := by omega
  have HG := Lib.hid hg
  have B0 := Lib.hid b0
  have H0 := Lib.hid h0
  have KS := Lib.hid kS
  have HB := Lib.hid (Nat.le_trans hb b0.size)
  have HL := Lib.hid hl
  have HLEN := Lib.hid h.len
  by_cases hi : 0 ≤ i ∧ i < (n : Int)
  · rw [decide_eq_true hi] at hI
    obtain ⟨k, rfl⟩ := Int.eq_ofNat_of_zero_le hi.1
    have hk : k < n := by omega
    have hE : withdrawI n C (k : Int) (a, b) = withdrawS C k (a, b) := by unfold withdrawI; rw [if_pos hi, Int.toNat_natCast]
    rw [hE]
    have hi1 : (k : Int) < (n : Int) := hi.2
    have hi2 : (k : Int) ≤ 1000 := by omega
    have HI := Lib.hid hI
    have HK := Lib.hid hk
    have gS := kS.all
    obtain ⟨g0, gf, gl⟩ := gS
    by_cases ha : a = (k : Int)
    · subst ha
      have e0 : ((k : Int) != (k : Int)) = false := by simp
      obtain ⟨bp, cp, cs, epv, kP, hcs⟩ := h0.pageB hk
      have HPV := Lib.hid epv
      have KP := Lib.hid kP
      have HCS := Lib.hid hcs
      obtain ⟨R, hR⟩ : ∃ R, withdrawS C k ((k : Int), b) = R := ⟨_, rfl⟩
      rw [hR]
      have HR := Lib.hid hR
      have HPG := Lib.hid (h.mslen hk)
      obtain ⟨L, hL⟩ : ∃ L, C.pg k = L := ⟨_, rfl⟩
      rw [hL] at HPG
      have HPL := Lib.hid hL
      clear hE hR hI h hg hl hi hk h0 b0 kS hb epv kP hcs hL
      go_enter Try.func16, Try.ntmps16
      go_upto_region 5 with (go_at_call 34; refine HI.out.mono ?_; rintro e w1 ⟨rfl, h9⟩; have h9 := h9.symm; subst h9)
      clear g0 gf gl HI
      refine wp_region_hold (fun W => (Blk W z.p 80 #[z.pv, z.mv] ∧ Blk W bp 81 cs) ∧ Blk W w.heap.size 33 #[.int .i64 (k : Int), .int .i64 b]) [0, 1, 2, 3, 4, 5, 6, 7] [] [8, 9] (by kernel_rfl) (by kernel_rfl) (fun _ d _ _ _ h => by cases d <;> exact h) (⟨⟨H0.out.blk.drewN 1, KP.out.drewN 1⟩, KS.out.drewN 1⟩) ?_
      simp only [pick, List.drop_succ_cons, List.drop_zero, List.head?_cons, Option.toList_some, List.cons_append, List.nil_append, List.append_nil]
      try simp only [Act.put]
      repeat ((refine wpHeld_step ?_ rfl ?_ ?_; rotate_left; · (intro W hW; have c0 : W.cell? ⟨z.p, 0, none⟩ = some (.slice (some ⟨bp, 0, none⟩) n cp) := by { rw [← HPV.out]; exact hW.1.1.cell 0 }; have cq : W.cell? ⟨bp, k, none⟩ = some (.pointer (some ⟨z.q k, 0, none⟩)) := by { rw [← HCS.out]; exact hW.1.2.cell k }; have q0 : W.cell? ⟨w.heap.size, 0, none⟩ = some (.int .i64 (k : Int)) := hW.2.cell 0; have q1 : W.cell? ⟨w.heap.size, 1, none⟩ = some (.int .i64 b) := hW.2.cell 1; (go_simp; try with_reducible rfl))); simp only [Act.put, List.setIfInBounds_toArray, List.set_cons_succ, List.set_cons_zero])
      refine wpHeld_nil ?_
      simp only [wpEarly]
      have RD := Lib.hid (show RAt (w.alloc (.cells #[.int .i64 (k : Int), .int .i64 b] 33)).drew base z n C ms from H0.out.below ⟨rfl, rfl, rfl, Nat.le_refl _, fun _ _ => rfl⟩)
      have TD := Lib.hid (show RTurn w (w.alloc (.cells #[.int .i64 (k : Int), .int .i64 b] 33)).drew z z n from RTurn.of_below B0.out.drew)
      have KD := Lib.hid (show Blk (w.alloc (.cells #[.int .i64 (k : Int), .int .i64 b] 33)).drew w.heap.size 33 #[.int .i64 (k : Int), .int .i64 b] from KS.out.drewN 1)
      have HBD := Lib.hid (show base ≤ (w.alloc (.cells #[.int .i64 (k : Int), .int .i64 b] 33)).drew.heap.size from HB.out)
      clear H0 KS KP B0 HB HPV HCS
      generalize (w.alloc (.cells #[.int .i64 (k : Int), .int .i64 b] 33)).drew = w1 at *
      go_wp2_with fail
      have hdr := RD.out.rdrop HK.out ((k : Int), b)
      rw [HPL.out] at hdr
      refine hdr.mono ?_
      rintro e w2 ⟨rfl, zz, h2, t2⟩
      have K2 := Lib.hid (t2.only.blk KD.out fun hf => by
        obtain ⟨t, ds, k, _, _, _, _, _, k6⟩ := RD.out.fr _ hf
        have e := blk_ty k KD.out
        subst e
        rcases hf with e | e | ⟨i, hi, e⟩ | ⟨i, hi, e⟩
        · exact absurd (blk_ty KD.out (e ▸ RD.out.blk)) (by decide)
        · obtain ⟨ds, k'⟩ := own_blk RD.out.msv e
          exact absurd (blk_ty KD.out k') (by decide)
        · exact absurd (blk_ty KD.out (e ▸ (RD.out.pgs i hi).blk)) (by decide)
        · obtain ⟨ds, k'⟩ := own_blk (RD.out.pgs i hi).own e
          exact absurd (blk_ty KD.out k') (by decide))
      have T2 := Lib.hid (TD.out.trans t2)
      have HB2 := Lib.hid (Nat.le_trans HBD.out t2.only.size)
      clear t2 hdr TD KD HBD RD
      cases hc : getC L ((k : Int), b) with
      | none =>
        have hd : dropS L ((k : Int), b) = (L, 11) := by unfold dropS; rw [hc]
        have hr : R = (C, 11) := by rw [← HR.out]; unfold withdrawS; rw [if_neg (fun e => e rfl), HPL.out, hc]
        subst hr
        rw [hd] at h2 ⊢
        rw [show C.upd k L = C from HPL.out ▸ upd_self (by rw [HLEN.out]; exact HK.out)] at h2
        have H2 := Lib.hid h2
        clear hc hd h2
        go_wp2_with fail
        go_ret
        exact ⟨rfl, ⟨_, _, H2.out, HG.out, T2.out, Nat.le_add_right _ _⟩⟩
      | some c =>
        have hd := drop_get hc
        have hr : R = ((C.upd k (setC L (goneC c))).tell k (goneC c), 0) := by rw [← HR.out]; unfold withdrawS; rw [if_neg (fun e => e rfl), HPL.out, hc, hd]
        rw [hd] at h2 ⊢
        have hgot := drop_got HPG.out.1 hc
        have hpg2 : Pg (setC L (goneC c)) := by
          have := HPG.out.1.drop ((k : Int), b)
          rwa [hd] at this
        have hlen2 : (setC L (goneC c)).length ≤ 100000 := by unfold setC; rw [List.length_map]; exact HPG.out.2
        obtain ⟨L2, hL2⟩ : ∃ M, setC L (goneC c) = M := ⟨_, rfl⟩
        obtain ⟨x, hx⟩ : ∃ x, goneC c = x := ⟨_, rfl⟩
        rw [hx] at hgot
        rw [hx] at hL2 h2 hpg2 hlen2 hr ⊢
        rw [hL2] at hgot h2 hpg2 hlen2 hr ⊢
        clear hL2 hx hd hc HR
        obtain ⟨j, hj1, hj2⟩ : ∃ j : Nat, (walkS L2)[j]? = some x ∧ findS (walkS L2) ((k : Int), b) = (j : Int) := by
          rcases find_cases (walk_uq hpg2.tr) ((k : Int), b) with ⟨e, _⟩ | ⟨j, y, e1, e2, e3⟩
          · rw [e] at hgot; cases hgot
          · rw [hgot] at e1
            injection e1 with e1
            subst e1
            exact ⟨j, e2, e3⟩
        have hwl : (walkS L2).length ≤ 100000 := by rw [(walk_perm hpg2.tr).length_eq]; exact hlen2
        have hjl : j < (walkS L2).length := (List.getElem?_eq_some_iff.1 hj1).1
        obtain ⟨C2, hC2⟩ : ∃ D, C.upd k L2 = D := ⟨_, rfl⟩
        have hag : Agree C2 ms := hC2 ▸ HG.out.upd k L2
        have hlc : C2.pages.length = n := by rw [hC2] at h2; exact h2.len
        have hpgl : C2.pg k = L2 := by rw [← hC2, upd_pg (by rw [HLEN.out]; exact HK.out), if_pos rfl]
        rw [hC2] at h2 hr
        have HR2 := Lib.hid hr
        clear hr
        dsimp only
        obtain ⟨bp2, cp2, cs2, epv, kP, hcs⟩ := h2.pageB HK.out
        have ep : zz.p = z.p := T2.out.p
        have c0 : w2.cell? ⟨z.p, 0, none⟩ = some (.slice (some ⟨bp2, 0, none⟩) n cp2) := by rw [← ep, h2.blk.cell 0, ← epv]; rfl
        have cq : w2.cell? ⟨bp2, k, none⟩ = some (.pointer (some ⟨zz.q k, 0, none⟩)) := by rw [← hcs]; exact kP.cell k
        have HLI := Lib.hid (rList_any w2 (h2.pgs k HK.out) (Nat.le_refl _))
        rw [hpgl] at HLI
        have H2 := Lib.hid h2
        have HEP := Lib.hid ep
        have HAG := Lib.hid hag
        have HLC := Lib.hid hlc
        have HJ1 := Lib.hid hj1
        have HJ2 := Lib.hid hj2
        have HWL := Lib.hid hwl
        have HJL := Lib.hid hjl
        clear h2 hgot hpg2 hlen2 hC2 hag hlc hpgl epv kP hcs ep hj1 hj2 hwl hjl
        go_upto_region 9 with (go_at_call 35; refine HLI.out.mono ?_; rintro e w3 ⟨u, rfl, own, b3⟩)
        have H3 := Lib.hid (H2.out.below b3)
        have K3 := Lib.hid (K2.out.below b3 K2.out.lt)
        have T3 := Lib.hid (T2.out.trans (RTurn.of_below b3))
        have HB3 := Lib.hid (Nat.le_trans HB2.out b3.size)
        have O3 := Lib.hid own
        clear own b3 H2 K2 T2 HB2 c0 cq HLI
        obtain ⟨A, cap, rfl, hcl⟩ := OwnCls.form O3.out
        have hA : ∃ g off, A = some ⟨g, off, none⟩ := by
          obtain ⟨g, off, e, _⟩ := hcl j x HJ1.out
          exact ⟨g, off, e⟩
        obtain ⟨ga, oa, rfl⟩ := hA
        have HCL := Lib.hid hcl
        obtain ⟨N, hN⟩ : ∃ N, (walkS L2).length = N := ⟨_, rfl⟩
        have hfd := rFind_any w3 w3.heap.size (some ⟨ga, oa, none⟩) cap (walkS L2) hcl (Nat.le_refl _) (Nat.le_trans HWL.out (by decide)) ((k : Int), b)
        rw [HJ2.out] at hfd
        rw [hN] at hfd HWL HJL ⊢
        have HF := Lib.hid hfd
        have HN := Lib.hid hN
        have s0 : w3.cell? ⟨w.heap.size, 0, none⟩ = some (.int .i64 (k : Int)) := K3.out.cell 0
        have s1 : w3.cell? ⟨w.heap.size, 1, none⟩ = some (.int .i64 b) := K3.out.cell 1
        have hj3 : (j : Int) < (N : Int) := by have := HJL.out; omega
        have hN3 : (N : Int) ≤ 100000 := by have := HWL.out; omega
        have HT := Lib.hid (fun W (hW : RAt W base zz n C2 ms) (hbw : base ≤ W.heap.size) => rtell_any W hW hbw hn (Nat.le_trans HL.out (by decide)) k x)
        rw [HEP.out] at HT
        clear hfd hN hcl
        go_wp2_with (first | (go_at_call 26; refine HF.out.mono ?_; rintro e w4 ⟨rfl, b4⟩; have H4 := Lib.hid (H3.out.below b4); have T4 := Lib.hid (T3.out.trans (RTurn.of_below b4)); have HB4 := Lib.hid (Nat.le_trans HB3.out b4.size); have HC4 := Lib.hid ((HCL.out.wide (Nat.le_refl _)).below b4); clear b4) | (refine wpList_val rfl rfl (.agg (clA x)) (exec_load_at (x := .tmp 43) rfl rfl HC4.out rfl HJ1.out) ?_) | (go_at_call 37; refine (HT.out _ H4.out HB4.out).mono ?_; rintro e w5 ⟨⟨r, rfl⟩, z5, h5, t5⟩))
        have H5 := Lib.hid h5
        have T5 := Lib.hid (T4.out.trans t5)
        clear h5 t5
        go_wp2_with fail
        go_ret
        rw [HR2.out]
        exact ⟨rfl, ⟨_, _, H5.out.cast rfl, HLC.out ▸ HAG.out.tell k x, T5.out, tellM_len _ _ _ _⟩⟩
    · have e0 : (a != (k : Int)) = true := by simpa using ha
      have hr : withdrawS C k (a, b) = (C, 12) := by unfold withdrawS; rw [if_pos ha]
      rw [hr]
      clear hE hr hI h hg hl hi hk h0 b0 kS hb ha
      go_enter Try.func16, Try.ntmps16
      go_wp2_with (go_at_call 34; refine HI.out.mono ?_; rintro e w1 ⟨rfl, h9⟩; have h9 := h9.symm; subst h9)
      go_wp2_with fail
      go_ret
      exact ⟨rfl, ⟨_, _, H0.out, HG.out, RTurn.of_below B0.out, Nat.le_add_right _ _⟩⟩
  · rw [decide_eq_false hi] at hI
    have HI := Lib.hid hI
    have e : withdrawI n C i (a, b) = (C, 1) := if_neg hi
    rw [e]
    clear hI h hg hl hi h0 b0 kS hb e
    go_enter Try.func16, Try.ntmps16
    go_wp2_with (go_at_call 34; refine HI.out.mono ?_; rintro e w1 ⟨rfl, h9⟩; have h9 := h9.symm; subst h9)
    go_wp2_with fail
    go_ret
    exact ⟨rfl, ⟨_, _, H0.out, HG.out, RTurn.of_below B0.out, Nat.le_add_right _ _⟩⟩
end Go.Proofs.Ytaicbllfkehhjaa

/- The reference: Propose. -/
namespace Go.Proofs.Ytaicbllfkehhjaa
open Go.RowKit

theorem RTurn.st {w0 w w' : World} {z z' : RLay} {n : Nat} (h : RTurn w0 w z z' n) {r : Nat} (hr : w0.heap.size ≤ r) (o : Only (fun g => g = r) w w') : RTurn w0 w' z z' n := ⟨h.only.trans o fun _ e => .inr (e ▸ hr), h.fo, h.vf, h.p⟩
theorem RAt.notF {w : World} {base n : Nat} {z : RLay} {C : Ch} {ms : List Msg} (h : RAt w base z n C ms) {g : Nat} {t : TypeId} {cs : Array Value} (k : Blk w g t cs) (ht : t ≠ 80 ∧ t ≠ 89 ∧ t ≠ 100 ∧ t ≠ 56) : ¬ RFo z n g := by
  rintro (e | e | ⟨i, hi, e⟩ | ⟨i, hi, e⟩)
  · exact ht.1 (blk_ty k (e ▸ h.blk))
  · obtain ⟨ds, k'⟩ := own_blk h.msv e
    exact ht.2.1 (blk_ty k k')
  · exact ht.2.2.1 (blk_ty k (e ▸ (h.pgs i hi).blk))
  · obtain ⟨ds, k'⟩ := own_blk (h.pgs i hi).own e
    exact ht.2.2.2 (blk_ty k k')
/-- A block of clauses beside the chamber, older or newer than none of its own. -/
theorem RAt.notV {w : World} {base n : Nat} {z : RLay} {C : Ch} {ms : List Msg} (h : RAt w base z n C ms) {g : Nat} {cs : Array Value} (k : Blk w g 56 cs) (hv : ¬ VF z n g) : ¬ RFo z n g := by
  rintro (e | e | ⟨i, hi, e⟩ | e)
  · exact absurd (blk_ty k (e ▸ h.blk)) (by decide)
  · obtain ⟨ds, k'⟩ := own_blk h.msv e
    exact absurd (blk_ty k k') (by decide)
  · exact absurd (blk_ty k (e ▸ (h.pgs i hi).blk)) (by decide)
  · exact hv e

set_option maxRecDepth 100000 in
set_option maxHeartbeats 4000000 in
theorem rpropose_any (w : World) {base n : Nat} {z : RLay} {C : Ch} {ms : List Msg} (h : RAt w base z n C ms) (hg : Agree C ms) (hb : base ≤ w.heap.size) (hn : n ≤ 1000) (hl : ms.length ≤ 800000) (hpl : ∀ i, i < n → (C.pg i).length ≤ 1000) (i a b : Int) (p : Pt) :
    Calls Try.prog 15 #[.pointer (some ⟨z.p, 0, none⟩), .int .i64 i, .agg #[.int .i64 a, .int .i64 b], .agg (ptA p)] w fun e w' =>
      e = .returned (.tuple #[.agg #[.int .i64 (proposeI n C i (a, b) p).2.1.1, .int .i64 (proposeI n C i (a, b) p).2.1.2], .int .i64 (proposeI n C i (a, b) p).2.2]) ∧ RStep w w' base n z (proposeI n C i (a, b) p).1 ms (ms.length + n) := by
  have hlen := h.len
  obtain ⟨q, hq⟩ : ∃ q, w.heap.size = q := ⟨_, rfl⟩
  have hb0 : Below q w (((w.alloc (.cells #[.int .i64 a, .int .i64 b] 33)).alloc (.cells (ptA p) 37)).alloc (.cells #[.int .i64 0, .int .i64 0] 33)) := by
    subst hq
    exact (((Below.refl _ w).alloc (Nat.le_refl _) _).alloc (by simp) _).alloc (by simp; omega) _
  have kS : Blk (((w.alloc (.cells #[.int .i64 a, .int .i64 b] 33)).alloc (.cells (ptA p) 37)).alloc (.cells #[.int .i64 0, .int .i64 0] 33)) q 33 #[.int .i64 a, .int .i64 b] := by
    subst hq
    exact ((Blk.new w _ _).alloc _).alloc _
  have kP : Blk (((w.alloc (.cells #[.int .i64 a, .int .i64 b] 33)).alloc (.cells (ptA p) 37)).alloc (.cells #[.int .i64 0, .int .i64 0] 33)) (q + 1) 37 (ptA p) := by
    subst hq
    exact (Blk.new1 w _ _ _).alloc _
  have kR : Blk (((w.alloc (.cells #[.int .i64 a, .int .i64 b] 33)).alloc (.cells (ptA p) 37)).alloc (.cells #[.int .i64 0, .int .i64 0] 33)) (q + 1 + 1) 33 #[.int .i64 0, .int .i64 0] := by
    subst hq
    have := Blk.new ((w.alloc (.cells #[.int .i64 a, .int .i64 b] 33)).alloc (.cells (ptA p) 37)) 33 #[.int .i64 0, .int .i64 0]
    simpa using this
  have H0 := Lib.hid (h.below (hq ▸ hb0))
  have HB0 := Lib.hid (hq ▸ hb0 : Below w.heap.size w _)
  have HI := Lib.hid (rseat_any _ H0.out i)
  have kR4 := kR.all
  obtain ⟨r0, rf, rl⟩ := kR4
  have HAG := Lib.hid hg
  have HML := Lib.hid hl
  have HB := Lib.hid hb
  by_cases hi : 0 ≤ i ∧ i < (n : Int)
  · obtain ⟨k, rfl⟩ := Int.eq_ofNat_of_zero_le hi.1
    have hk : k < n := by omega
    have hE : proposeI n C (k : Int) (a, b) p = proposeS C k (a, b) p := by unfold proposeI; rw [if_pos hi, Int.toNat_natCast]
    rw [decide_eq_true hi] at HI
    rw [hE]
    obtain ⟨R, hR⟩ : ∃ R, proposeS C k (a, b) p = R := ⟨_, rfl⟩
    rw [hR]
    unfold proposeS at hR
    obtain ⟨L, hL⟩ : ∃ L, C.pg k = L := ⟨_, rfl⟩
    rw [hL] at hR
    have hi1 : (k : Int) < (n : Int) := hi.2
    have hi2 : (k : Int) ≤ 1000 := by omega
    have hn1 : (n : Int) ≤ 1000 := by omega
    have hpg : Pg L := hL ▸ (h.mslen hk).1
    have hpl' : L.length ≤ 1000 := hL ▸ hpl k hk
    have HLST := Lib.hid (show ∀ W, RAt W base z n C ms → Calls Try.prog 35 #[.pointer (some ⟨z.q k, 0, none⟩)] W fun e w' => ∃ v, e = .returned v ∧ OwnCls w' W.heap.size v (walkS L) ∧ Below W.heap.size W w' from fun W hW => by
      have := rList_any W (hW.pgs k hk) (Nat.le_refl _)
      rwa [hL] at this)
    obtain ⟨N, hN⟩ : ∃ N, (walkS L).length = N := ⟨_, rfl⟩
    have hNl : N ≤ 1000 := by rw [← hN, (walk_perm hpg.tr).length_eq]; exact hpl'
    obtain ⟨F, hF⟩ : ∃ F, findS (walkS L) (a, b) = F := ⟨_, rfl⟩
    obtain ⟨T, hT⟩ : ∃ T, decide (F < 0) = T := ⟨_, rfl⟩
    have hTN : T = true ↔ getC (walkS L) (a, b) = none := by
      rw [← hT, decide_eq_true_iff, ← hF]
      rcases find_cases (walk_uq hpg.tr) (a, b) with ⟨e1, e2⟩ | ⟨j, y, e1, _, e3⟩
      · rw [e1, e2]; simp
      · rw [e1, e3]
        simp
    obtain ⟨bp, cp, cs, epv, kG, hcs⟩ := H0.out.pageB hk
    have HPV := Lib.hid epv
    have HCS := Lib.hid hcs
    have c0 := (H0.out.blk.cell 0).trans (show (#[z.pv, z.mv] : Array Value)[0]? = some (.slice (some ⟨bp, 0, none⟩) n cp) from by rw [← epv]; rfl)
    have cq := (kG.cell k).trans hcs
    have HR := Lib.hid hR
    have HK := Lib.hid hk
    have HLEN := Lib.hid hlen
    have HL := Lib.hid hL
    have HPG := Lib.hid hpg
    have HPL := Lib.hid hpl'
    have HN := Lib.hid hN
    have HF := Lib.hid hF
    have HTN := Lib.hid hTN
    have KS := Lib.hid kS
    have KP := Lib.hid kP
    have KR := Lib.hid kR
    have t0 := KS.out.cell 0
    have t1 := KS.out.cell 1
    clear h hg hl hb0 kS kP hi kR hE hR hL hpg hpl hN hF hTN hk hlen kG hcs epv hb hpl'
    go_enter Try.func15, Try.ntmps15
    go_upto_region 4 with (first | (go_at_call 34; refine HI.out.mono ?_; rintro e w1 ⟨rfl, h9⟩; have h9 := h9.symm; subst h9) | (go_at_call 35; refine (HLST.out _ H0.out).mono ?_; rintro e w1 ⟨v, rfl, hv, b1⟩))
    generalize (((w.alloc (.cells #[.int .i64 a, .int .i64 b] 33)).alloc (.cells (ptA p) 37)).alloc (.cells #[.int .i64 0, .int .i64 0] 33)) = W0 at *
    obtain ⟨A, cap, hve, hcls⟩ := hv.form
    subst hve
    rw [HN.out]
    have HCL := Lib.hid hcls
    have B1 := Lib.hid b1
    clear hv b1 c0 cq t0 t1 r0 rf rl HI hcls
    go_wp2_with fail
    go_loopw [11, 12] (fun m v wr => wr = w1 ∧ ∃ j : Nat, j ≤ N ∧ v = .int .i64 (j : Int) ∧ m = .int .i64 (cntS ((walkS L).take j) - 1)) (fun _ v _ => N - (intOf v).toNat)
    case atStart => exact ⟨rfl, 0, Nat.zero_le _, rfl, rfl⟩
    case round =>
      obtain ⟨hwr, j, hjN, rfl, rfl⟩ := hrel
      replace hwr := hwr.symm
      subst hwr
      by_cases hlt : j < N
      · obtain ⟨c, hc⟩ : ∃ c, (walkS L)[j]? = some c := ⟨_, List.getElem?_eq_getElem (by rw [HN.out]; exact hlt)⟩
        obtain ⟨g', off, rfl, -, -⟩ := HCL.out j c hc
        obtain ⟨-, a1, -⟩ := HCL.out.at_ hc rfl
        have hj1 : (j : Int) < (N : Int) := by omega
        have hj2 : (N : Int) ≤ 1000 := by omega
        have hstep := cntS_step hc
        obtain ⟨X, hX⟩ : ∃ X, cntS ((walkS L).take j) - 1 = X := ⟨_, rfl⟩
        have hst2 : cntS ((walkS L).take (j + 1)) - 1 = max X c.id.2 := by omega
        rw [hX]
        have HST := Lib.hid hst2
        have hmx : ∀ (ts : Array TypeId) (t : TypeId) (W : World), (Builtin.max_ ts t #[.int .i64 X, .int .i64 c.id.2]).run Try.prog W = .ok (.int .i64 (max X c.id.2)) W := run_max2 _ _ _ rfl
        clear hc hstep hX hst2
        go_wp2_with fail
        exact ⟨⟨by first | trivial | rfl, j + 1, by omega, by go_num, by rw [HST.out]⟩, by simp [intOf]; omega⟩
      · obtain rfl : j = N := by omega
        rw [show (walkS L).take j = walkS L from by rw [← HN.out, List.take_length]]
        obtain ⟨K, hKK⟩ : ∃ K, cntS (walkS L) - 1 = K := ⟨_, rfl⟩
        have hK0 : 0 ≤ K := by have := cntS_one (walkS L); omega
        have hKM : cntS (walkS L) = K + 1 := by omega
        rw [hKK]
        have HKM := Lib.hid hKM
        have hR := HR.out
        rw [hKM] at hR
        have HR2 := Lib.hid hR
        clear hKM hKK hR HR
        have t0 : w1.cell? ⟨q, 0, none⟩ = some (.int .i64 a) := (KS.out.below B1.out KS.out.lt).cell 0
        have t1 : w1.cell? ⟨q, 1, none⟩ = some (.int .i64 b) := (KS.out.below B1.out KS.out.lt).cell 1
        have hez : ∀ W : World, (Op.equalIn 10000 33 (.agg #[.int .i64 a, .int .i64 b]) (.agg #[.int .i64 0, .int .i64 0])).run Try.prog W = .ok (decide ((a, b) = z2)) W := eq_st (a, b) z2
        obtain ⟨Z, hZ⟩ : ∃ Z, decide ((a, b) = z2) = Z := ⟨_, rfl⟩
        rw [hZ] at hez
        have HZ := Lib.hid hZ
        have hfd := rFind_any w1 w1.heap.size A cap (walkS L) (HCL.out.below (Below.refl _ _)) (Nat.le_refl _) (by rw [HN.out]; omega) (a, b)
        rw [HF.out, HN.out] at hfd
        have HFD := Lib.hid hfd
        clear hZ hfd
        have H1 := Lib.hid (H0.out.below B1.out)
        have K1S := Lib.hid (KS.out.below B1.out KS.out.lt)
        have K1P := Lib.hid (KP.out.below B1.out KP.out.lt)
        have K1R := Lib.hid (KR.out.below B1.out KR.out.lt)
        have B01 := Lib.hid (HB0.out.trans (B1.out.mono HB0.out.size))
        have HQ2 := Lib.hid (show w.heap.size ≤ q + 1 + 1 by omega)
        clear H0 KS KP KR HCL B1 hq
        go_upto_region 9 with fail
        go_cut [50] from 42 to 49 (fun v wx => v = .bool (!Z && T) ∧ Below w1.heap.size w1 wx)
        case first =>
          cases Z with
          | true =>
            go_wp2_with fail
            go_meet
            exact ⟨rfl, Below.refl _ _⟩
          | false =>
            go_wp2_with (go_at_call 26; refine HFD.out.mono ?_; rintro e w2 ⟨rfl, b2⟩; have B2 := Lib.hid b2; clear b2)
            go_meet
            exact ⟨rfl, B2.out⟩
        case rest =>
          obtain ⟨rfl, b2⟩ := hcut
          have H2 := Lib.hid (H1.out.below b2)
          have K2P := Lib.hid (K1P.out.below b2 K1P.out.lt)
          have K2S := Lib.hid (K1S.out.below b2 K1S.out.lt)
          have K2R := Lib.hid (K1R.out.below b2 K1R.out.lt)
          have B2 := Lib.hid (B01.out.trans (b2.mono B01.out.size))
          clear t0 t1 hez b2 H1 K1S K1P K1R B01 HFD
          have t0 : wc.cell? ⟨q, 0, none⟩ = some (.int .i64 a) := K2S.out.cell 0
          have t1 : wc.cell? ⟨q, 1, none⟩ = some (.int .i64 b) := K2S.out.cell 1
          have kRa := K2R.out.all
          obtain ⟨r0, rf, rl⟩ := kRa
          by_cases hTZ : (!Z && T) = true
          · have h1 : Z = false ∧ T = true := by simpa using hTZ
            have h2 : (a, b) ≠ z2 := fun e => by
              have := HZ.out
              rw [decide_eq_true e, h1.1] at this
              cases this
            obtain rfl : R = (C, z2, 11) := by rw [← HR2.out, if_pos ⟨h2, HTN.out.1 h1.2⟩]
            rw [hTZ]
            clear h1 h2 hTZ HR2 HLST HTN
            have kR2 := (K2R.out.set_ 0 (.int .i64 0)).set_ 1 (.int .i64 0)
            go_wp2_with fail
            have hlv := run_loadVar_row (P := Try.prog) _ _ 33 33 _ (0, 0) _ kR2 Try.underlying33 rfl (by kernel_rfl)
            exact bodyPost_ret (v := .tuple #[.agg #[.int .i64 0, .int .i64 0], .int .i64 11]) (by simp [results, Try.results15, asAddr, hlv]) rfl ⟨rfl, ⟨_, _, H2.out.farBlk K2R.out (only_two _ _ _ _) (by decide), HAG.out, (RTurn.of_below B2.out).st HQ2.out (only_two _ _ _ _), Nat.le_add_right _ _⟩⟩
          · have hTZf : (!Z && T) = false := by simpa using hTZ
            have h2 : ¬ ((a, b) ≠ z2 ∧ getC (walkS L) (a, b) = none) := fun ⟨e, e2⟩ => by
              rw [HTN.out.2 e2, Bool.and_true, Bool.not_eq_false'] at hTZf
              have := HZ.out
              rw [hTZf] at this
              exact e (of_decide_eq_true this)
            have hR := HR2.out
            rw [if_neg h2] at hR
            rw [hTZf]
            clear h2 hTZ hTZf HR2 HTN HZ
            by_cases hgt : 1000000 ≤ K
            · have hgt' : 1000000 < K + 1 := by omega
              obtain rfl : R = (C, z2, 2) := by rw [← hR, if_pos hgt']
              clear hR hgt'
              have kR2 := (K2R.out.set_ 0 (.int .i64 0)).set_ 1 (.int .i64 0)
              go_wp2_with fail
              have hlv := run_loadVar_row (P := Try.prog) _ _ 33 33 _ (0, 0) _ kR2 Try.underlying33 rfl (by kernel_rfl)
              exact bodyPost_ret (v := .tuple #[.agg #[.int .i64 0, .int .i64 0], .int .i64 2]) (by simp [results, Try.results15, asAddr, hlv]) rfl ⟨rfl, ⟨_, _, H2.out.farBlk K2R.out (only_two _ _ _ _) (by decide), HAG.out, (RTurn.of_below B2.out).st HQ2.out (only_two _ _ _ _), Nat.le_add_right _ _⟩⟩
            · rw [if_neg (by omega)] at hR
              have HR3 := Lib.hid hR
              have hx0 : newC k L (a, b) p = ⟨((k : Int), K + 1), (a, b), p, false⟩ := by unfold newC; rw [HKM.out]
              have hK9 : K < 1000000 := by omega
              have hwr : IntKind.wrap .i64 (K + 1) = K + 1 := IntWalk.i64_in _ (by omega)
              clear hR hgt r0 rf rl
              go_upto_region 13 with fail
              refine wp_region_lit ?_
              iterate 5 ((refine wpList_val rfl rfl ?_ ?_ ?_; rotate_left; · (go_simp; with_reducible rfl)); simp only [Act.put, List.setIfInBounds_toArray, List.set_cons_succ, List.set_cons_zero])
              refine wpList_val rfl rfl (.agg (ptA p)) (exec_load_pt (x := .tmp 7) rfl rfl rfl K2P.out) ?_
              simp only [Act.put, List.setIfInBounds_toArray, List.set_cons_succ, List.set_cons_zero]
              refine wpList_buildTo rfl 56 _ rfl (some 61) rfl (clA (newC k L (a, b) p)) (by rw [hx0]; kernel_rfl) ?_
              simp only [Act.put, List.setIfInBounds_toArray, List.set_cons_succ, List.set_cons_zero]
              clear hx0 hwr
              have hpc := put_cl wc (newC k L (a, b) p)
              have hcz := clA_size (newC k L (a, b) p)
              have kX := Lib.hid (Blk.new wc 56 (clA (newC k L (a, b) p)))
              have BX := Lib.hid (below_self_alloc wc (.cells (clA (newC k L (a, b) p)) 56))
              go_upto_region 14 with fail
              clear hpc hcz
              have hVX : ¬ VF z n wc.heap.size := fun hv => Nat.lt_irrefl _ (H2.out.vlt hv)
              have HVX := Lib.hid hVX
              have H3 := Lib.hid (H2.out.below BX.out)
              have K3R := Lib.hid (K2R.out.below BX.out K2R.out.lt)
              have B3 := Lib.hid (B2.out.trans (BX.out.mono B2.out.size))
              clear H2 K2R K2P K2S BX t0 t1 B2 hVX
              obtain ⟨g, hgg⟩ : ∃ g, wc.heap.size = g := ⟨_, rfl⟩
              rw [hgg] at kX HVX
              try simp only [hgg]
              generalize wc.alloc (.cells (clA (newC k L (a, b) p)) 56) = wX at *
              have hid : (newC k L (a, b) p).id = ((k : Int), K + 1) := by unfold newC; rw [HKM.out]
              have hcz := clA_size (newC k L (a, b) p)
              obtain ⟨x, hx⟩ : ∃ x, newC k L (a, b) p = x := ⟨_, rfl⟩
              have hR := HR3.out
              have hP := fun W (hW : RAt W base z n C ms) (hbw : base ≤ W.heap.size) => hW.rput HK.out hbw (by rw [HL.out]; have := HPL.out; omega) x
              have hT := fun D W zz (hW : RAt W base zz n D ms) (hbw : base ≤ W.heap.size) => rtell_any W hW hbw hn (Nat.le_trans HML.out (by decide)) k x
              rw [HL.out] at hP
              rw [hx] at hid hcz kX hR
              have hxid : (clA x)[0]? = some (.int .i64 (k : Int)) ∧ (clA x)[1]? = some (.int .i64 (K + 1)) := by
                constructor
                · show some (Value.int .i64 x.id.1) = _
                  rw [hid]
                · show some (Value.int .i64 x.id.2) = _
                  rw [hid]
              obtain ⟨CX, hCX⟩ : ∃ X, clA x = X := ⟨_, rfl⟩
              rw [hCX] at hP hT hcz kX hxid
              have HCZ := Lib.hid hcz
              have HX := Lib.hid hxid
              have HID := Lib.hid hid
              have HT := Lib.hid hT
              have HPP := Lib.hid hP
              have HRR := Lib.hid hR
              have HBX := Lib.hid (Nat.le_trans HB.out B3.out.size)
              obtain ⟨bq, cq', ds, epv, kG, hds⟩ := H3.out.pageB HK.out
              have HPV3 := Lib.hid epv
              have HDS := Lib.hid hds
              have KG := Lib.hid kG
              clear hT hP hcz hxid hCX hx HR3 hid hR HKM hgg epv kG hds HPV HCS
              refine wp_region_hold (fun W => (Blk W z.p 80 #[z.pv, z.mv] ∧ Blk W bq 81 ds) ∧ Blk W g 56 CX) [0, 1, 2, 3, 4, 5, 6, 7] [] [8, 9] (by kernel_rfl) (by kernel_rfl) (fun _ d _ _ _ h => by cases d <;> exact h) (⟨⟨H3.out.blk.drewN 1, KG.out.drewN 1⟩, kX.out.drewN 1⟩) ?_
              simp only [pick, List.drop_succ_cons, List.drop_zero, List.head?_cons, Option.toList_some, List.cons_append, List.nil_append, List.append_nil]
              try simp only [Act.put]
              repeat ((refine wpHeld_step ?_ rfl ?_ ?_; rotate_left; · (intro W hW; have c0 : W.cell? ⟨z.p, 0, none⟩ = some (.slice (some ⟨bq, 0, none⟩) n cq') := by { rw [← HPV3.out]; exact hW.1.1.cell 0 }; have cq : W.cell? ⟨bq, k, none⟩ = some (.pointer (some ⟨z.q k, 0, none⟩)) := by { rw [← HDS.out]; exact hW.1.2.cell k }; first | (refine exec_load_blk (x := .tmp 13) ?_ ?_ HCZ.out hW.2 <;> rfl) | (go_simp; try with_reducible rfl))); simp only [Act.put, List.setIfInBounds_toArray, List.set_cons_succ, List.set_cons_zero])
              refine wpHeld_nil ?_
              simp only [wpEarly]
              have RD := Lib.hid (show RAt wX.drew base z n C ms from H3.out.below ⟨rfl, rfl, rfl, Nat.le_refl _, fun _ _ => rfl⟩)
              have KXD := Lib.hid (show Blk wX.drew g 56 CX from kX.out.drewN 1)
              have KRD := Lib.hid (show Blk wX.drew (q + 1 + 1) 33 #[.int .i64 0, .int .i64 0] from K3R.out.drewN 1)
              have BD := Lib.hid (B3.out.drew)
              have HBD := Lib.hid (show base ≤ wX.drew.heap.size from HBX.out)
              clear H3 kX K3R B3 HBX KG HPV3 HDS
              generalize wX.drew = wD at *
              go_wp2_with fail
              refine (HPP.out _ RD.out HBD.out).mono ?_
              rintro e w6 ⟨rfl, zz, h6, t6⟩
              have KX6 := Lib.hid (t6.only.blk KXD.out (RD.out.notV KXD.out HVX.out))
              have KR6 := Lib.hid (t6.only.blk KRD.out (RD.out.notF KRD.out (by decide)))
              have HVX6 := Lib.hid (show ¬ VF zz n g from fun hv => (t6.vf g hv).elim HVX.out fun e => Nat.lt_irrefl _ (Nat.lt_of_lt_of_le KXD.out.lt e))
              have T6 := Lib.hid ((RTurn.of_below (z := z) (n := n) BD.out).trans t6)
              have HB6 := Lib.hid (Nat.le_trans HBD.out t6.only.size)
              have hR := HRR.out
              obtain ⟨D, hD⟩ : ∃ D, (putS L x).1 = D := ⟨_, rfl⟩
              obtain ⟨E, hEE⟩ : ∃ E, (putS L x).2 = E := ⟨_, rfl⟩
              have herr : E ≠ 0 → D = L := fun e => by rw [← hD]; exact put_err (by rw [hEE]; exact e)
              rw [hD] at h6 hR
              rw [hEE] at hR ⊢
              clear hD hEE HRR t6 RD KXD KRD BD HBD HVX
              have H6 := Lib.hid h6
              have HEP := Lib.hid (show zz.p = z.p from T6.out.p)
              by_cases hE0 : E = 0
              · subst hE0
                obtain rfl : R = ((C.upd k D).tell k x, x.id, 0) := by rw [← hR, if_neg (fun e => e rfl)]
                clear hR herr h6
                have hTT := HT.out (C.upd k D) w6 zz H6.out HB6.out
                rw [HEP.out] at hTT
                have HTT := Lib.hid hTT
                clear hTT HT
                go_upto_region 18 with (first | (refine wpList_val rfl rfl (.agg CX) (exec_load_blk (x := .tmp 13) rfl rfl HCZ.out KX6.out) ?_) | (go_at_call 37; refine HTT.out.mono ?_; rintro e w7 ⟨⟨r, rfl⟩, z7, h7, t7⟩))
                have k7 := t7.only.blk KX6.out (H6.out.notV KX6.out HVX6.out)
                have r7 := t7.only.blk KR6.out (H6.out.notF KR6.out (by decide))
                have x0 : w7.cell? ⟨g, 0, none⟩ = some (.int .i64 (k : Int)) := (k7.cell 0).trans HX.out.1
                have x1 : w7.cell? ⟨g, 1, none⟩ = some (.int .i64 (K + 1)) := (k7.cell 1).trans HX.out.2
                have kR2 := (r7.set_ 0 (.int .i64 (k : Int))).set_ 1 (.int .i64 (K + 1))
                have kRa := r7.all
                obtain ⟨r0, rf, rl⟩ := kRa
                have H7 := Lib.hid h7
                have T7 := Lib.hid (T6.out.trans t7)
                have KR7 := Lib.hid r7
                clear k7 h7 t7 r7
                go_wp2_with fail
                have hlv := run_loadVar_row (P := Try.prog) _ _ 33 33 _ (0, 0) _ kR2 Try.underlying33 rfl (by kernel_rfl)
                refine bodyPost_ret (v := .tuple #[.agg #[.int .i64 (k : Int), .int .i64 (K + 1)], .int .i64 0]) (by simp [results, Try.results15, asAddr, hlv]) rfl ⟨by rw [HID.out], ⟨_, _, RAt.cast (C := C.upd k D) (H7.out.farBlk KR7.out (only_two _ _ _ _) (by decide)) rfl, ?_, T7.out.st HQ2.out (only_two _ _ _ _), tellM_len _ _ _ _⟩⟩
                have hag := (HAG.out.upd k D).tell k x
                rwa [show (C.upd k D).pages.length = n from H6.out.len] at hag
              · obtain rfl : R = (C, z2, E) := by rw [← hR, if_pos hE0]
                obtain rfl := herr hE0
                rw [← HL.out, upd_self (by rw [HLEN.out]; exact HK.out)] at h6
                have kR2 := (KR6.out.set_ 0 (.int .i64 0)).set_ 1 (.int .i64 0)
                have kRa := KR6.out.all
                obtain ⟨r0, rf, rl⟩ := kRa
                have hne : (E != 0) = true := by simpa using hE0
                have H7 := Lib.hid h6
                clear hR herr h6 H6 hE0 HT
                go_wp2_with fail
                have hlv := run_loadVar_row (P := Try.prog) _ _ 33 33 _ (0, 0) _ kR2 Try.underlying33 rfl (by kernel_rfl)
                exact bodyPost_ret (v := .tuple #[.agg #[.int .i64 0, .int .i64 0], .int .i64 E]) (by simp [results, Try.results15, asAddr, hlv]) rfl ⟨rfl, ⟨_, _, H7.out.farBlk KR6.out (only_two _ _ _ _) (by decide), HAG.out, T6.out.st HQ2.out (only_two _ _ _ _), Nat.le_add_right _ _⟩⟩
  · rw [show proposeI n C i (a, b) p = (C, z2, 1) from if_neg hi]
    rw [decide_eq_false hi] at HI
    dsimp only [z2]
    have KR := Lib.hid kR
    clear h hg hl hb0 kS kP hi kR hb
    go_enter Try.func15, Try.ntmps15
    go_wp2_with (go_at_call 34; refine HI.out.mono ?_; rintro e w1 ⟨rfl, h9⟩; have h9 := h9.symm; subst h9)
    have hlv := run_loadVar_row (P := Try.prog) _ _ 33 33 _ (0, 0) _ KR.out Try.underlying33 rfl (by kernel_rfl)
    exact bodyPost_ret (v := .tuple #[.agg #[.int .i64 0, .int .i64 0], .int .i64 1]) (by simp [results, Try.results15, asAddr, hlv]) rfl ⟨rfl, ⟨_, _, H0.out, HAG.out, RTurn.of_below HB0.out, Nat.le_add_right _ _⟩⟩
end Go.Proofs.Ytaicbllfkehhjaa

/- The reference: Deliver. -/
namespace Go.Proofs.Ytaicbllfkehhjaa
open Go.RowKit

set_option maxRecDepth 100000 in
theorem msg_slice_to (g m cap k : Nat) (hk : k ≤ cap) (W : World) : (Instr.slice 78 (.slice (some ⟨g, 0, none⟩) m cap) none (some (.int .i64 (k : Int))) none).run Try.prog W = .ok (.slice (some ⟨g, 0, none⟩) k cap) W := by
  have ht : Try.prog.underlying 78 = some (.slice (Try.prog.elem 78)) := by kernel_rfl
  have he : Try.prog.elem 78 = 89 := by kernel_rfl
  rw [run_slice_h _ _ _ _ _ ht .i64 (k : Int) (by omega) (by omega), he, Try.sizeOf89 W]
  simp only [Result.andThen_ok, sliced]
  congr 1
  simp [Addr.add]
set_option maxRecDepth 100000 in
theorem msg_slice_from (g m cap k : Nat) (hk : k ≤ m) (hm : m ≤ cap) : ∃ off, (off = k * 3 ∨ m = k) ∧ ∀ W : World, (Instr.slice 78 (.slice (some ⟨g, 0, none⟩) m cap) (some (.int .i64 (k : Int))) none none).run Try.prog W = .ok (.slice (some ⟨g, off, none⟩) (m - k) (cap - k)) W := by
  have ht : Try.prog.underlying 78 = some (.slice (Try.prog.elem 78)) := by kernel_rfl
  have he : Try.prog.elem 78 = 89 := by kernel_rfl
  by_cases h : cap = k
  · refine ⟨0, .inr (by omega), fun W => ?_⟩
    rw [run_slice_l _ _ _ _ _ ht .i64 (k : Int) (by omega) (by omega), he, Try.sizeOf89 W]
    simp only [Result.andThen_ok, sliced]
    congr 2
    rw [if_pos (by simpa using h)]
  · refine ⟨k * 3, .inl rfl, fun W => ?_⟩
    rw [run_slice_l _ _ _ _ _ ht .i64 (k : Int) (by omega) (by omega), he, Try.sizeOf89 W]
    simp only [Result.andThen_ok, sliced]
    congr 2
    rw [if_neg (by simpa using h)]
    simp only [Option.map_some]
    rw [addr_add]
    simp
theorem msgV_append (a b : List Msg) (xs ys : List Value) (h : xs.length = a.length) : msgV (a ++ b) (xs ++ ys) = msgV a xs ++ msgV b ys := by
  unfold msgV
  rw [List.zip_append h.symm, List.flatMap_append]
theorem msgV_len : ∀ (a : List Msg) (xs : List Value), xs.length = a.length → (msgV a xs).length = a.length * 3
  | [], [], _ => rfl
  | [], _ :: _, h => by simp at h
  | _ :: _, [], h => by simp at h
  | m :: a, x :: xs, h => by
    have := msgV_len a xs (by simpa using h)
    unfold msgV at *
    rw [List.zip_cons_cons, List.flatMap_cons, List.length_append, this, List.length_cons]
    simp
    omega
theorem msgV_cons (m : Msg) (a : List Msg) (x : Value) (xs : List Value) : msgV (m :: a) (x :: xs) = [.int .i64 (m.1 : Int), .int .i64 (m.2.1 : Int), x] ++ msgV a xs := by
  unfold msgV
  rw [List.zip_cons_cons, List.flatMap_cons]
theorem msgV_one (v : Value) (a : List Msg) (xs : List Value) (h : v ∈ msgV a xs) (hx : ∀ x ∈ xs, x.oneCell' = true) : v.oneCell' = true := by
  unfold msgV at h
  obtain ⟨p, hp, hv⟩ := List.mem_flatMap.1 h
  have hp2 := (List.of_mem_zip hp).2
  simp only [List.mem_cons, List.not_mem_nil, or_false] at hv
  rcases hv with rfl | rfl | rfl
  · rfl
  · rfl
  · exact hx _ hp2
theorem RAt.xone {w : World} {base n : Nat} {z : RLay} {C : Ch} {ms : List Msg} (h : RAt w base z n C ms) : ∀ x ∈ z.xs, x.oneCell' = true := fun x hx => by
  obtain ⟨j, hj⟩ := List.getElem?_of_mem hx
  have hjl : j < ms.length := by
    rw [← h.xlen]
    exact (List.getElem?_eq_some_iff.1 hj).1
  obtain ⟨A, c, e, _⟩ := (h.xown j x _ hj (List.getElem?_eq_getElem hjl)).form
  rw [e]
  rfl
/-- A message read. -/
theorem RAt.msg {w : World} {base n : Nat} {z : RLay} {C : Ch} {p q : List Msg} {m : Msg} (h : RAt w base z n C (p ++ m :: q)) :
    ∃ g cap xp u xq, z.mv = .slice (some ⟨g, 0, none⟩) (p ++ m :: q).length cap ∧ (p ++ m :: q).length ≤ cap ∧ z.xs = xp ++ u :: xq ∧ xp.length = p.length ∧ xq.length = q.length ∧ (∃ cs, Blk w g 89 cs ∧ ∀ (j : Nat) (v : Value), (msgV (p ++ m :: q) z.xs)[j]? = some v → cs[j]? = some v) ∧
      OwnCls w base u m.2.2 := by
  have hxl : z.xs.length = p.length + (q.length + 1) := by rw [h.xlen]; simp
  obtain ⟨u, hu⟩ : ∃ u, z.xs[p.length]? = some u := ⟨_, List.getElem?_eq_getElem (by omega)⟩
  have hsp : z.xs = z.xs.take p.length ++ u :: z.xs.drop (p.length + 1) := by
    have e1 : z.xs.drop p.length = u :: z.xs.drop (p.length + 1) := by
      rw [List.drop_eq_getElem_cons (by omega)]
      congr 1
      exact (List.getElem?_eq_some_iff.1 hu).2
    rw [← e1, List.take_append_drop]
  have h1 := h.msv
  rcases h.msv.2 with ⟨e, h0⟩ | ⟨g, cap, cur, e, _, hh, hc, _⟩
  · simp at h0
  · rw [e] at h1
    exact ⟨g, cap, _, u, _, e, hc, hsp, by rw [List.length_take]; omega, by rw [List.length_drop]; omega, ⟨cur, hh, fun j v hv => by
      rw [← Blk.cell hh j]
      have := h1.cellAt j (by
        have := (List.getElem?_eq_some_iff.1 hv).1
        rw [msgV_len _ _ h.xlen] at this
        exact this)
      rw [this]
      exact hv⟩, h.xown p.length u m hu (by rw [List.getElem?_append_right (Nat.le_refl _), Nat.sub_self]; rfl)⟩
theorem RAt.flt {w : World} {base n : Nat} {z : RLay} {C : Ch} {ms : List Msg} (h : RAt w base z n C ms) {g : Nat} (hg : RFo z n g) : g < w.heap.size := by
  obtain ⟨t, cs, k, _⟩ := h.fr g hg
  exact k.lt
theorem RAt.msgAt {w : World} {base n : Nat} {z : RLay} {C : Ch} {ms : List Msg} (h : RAt w base z n C ms) {j : Nat} {m : Msg} (hj : ms[j]? = some m) :
    ∃ g cap A mu cu, z.mv = .slice (some ⟨g, 0, none⟩) ms.length cap ∧ z.xs[j]? = some (.slice A mu cu) ∧ w.cell? ⟨g, j * 3, none⟩ = some (.int .i64 (m.1 : Int)) ∧ w.cell? ⟨g, j * 3 + 1, none⟩ = some (.int .i64 (m.2.1 : Int)) ∧ w.cell? ⟨g, j * 3 + 2, none⟩ = some (.slice A mu cu) ∧ OwnCls w base (.slice A mu cu) m.2.2 := by
  obtain ⟨hlt, he⟩ := List.getElem?_eq_some_iff.1 hj
  have hsp : ms = ms.take j ++ m :: ms.drop (j + 1) := by
    have e1 : ms.drop j = m :: ms.drop (j + 1) := by
      rw [List.drop_eq_getElem_cons hlt, he]
    rw [← e1, List.take_append_drop]
  have hpl : (ms.take j).length = j := by rw [List.length_take]; omega
  rw [hsp] at h
  obtain ⟨g, cap, xp, u, xq, e1, e2, e3, e4, e5, ⟨cs, k1, k2⟩, ho⟩ := h.msg
  rw [← hsp] at e1
  obtain ⟨A, cu, eu, _⟩ := ho.form
  have hv : ∀ t, t < 3 → cs[j * 3 + t]? = [Value.int .i64 (m.1 : Int), .int .i64 (m.2.1 : Int), u][t]? := fun t ht => by
    have hh : (msgV (ms.take j ++ m :: ms.drop (j + 1)) z.xs)[j * 3 + t]? = [Value.int .i64 (m.1 : Int), .int .i64 (m.2.1 : Int), u][t]? := by
      rw [e3, msgV_append _ _ _ _ e4, msgV_cons, List.getElem?_append_right (by rw [msgV_len _ _ e4, hpl]; omega), msgV_len _ _ e4, hpl, Nat.add_sub_cancel_left, List.getElem?_append_left ht]
    have ht' : t < [Value.int .i64 (m.1 : Int), .int .i64 (m.2.1 : Int), u].length := ht
    rw [List.getElem?_eq_getElem ht'] at hh ⊢
    exact k2 _ _ hh
  subst eu
  refine ⟨g, cap, A, _, cu, e1, ?_, ?_, ?_, ?_, ho⟩
  · rw [e3, List.getElem?_append_right (by omega), e4, hpl, Nat.sub_self]
    rfl
  · exact (k1.cell _).trans (hv 0 (by omega))
  · exact (k1.cell _).trans (hv 1 (by omega))
  · exact (k1.cell _).trans (hv 2 (by omega))
/-- The messages before one and behind it, where they lie. -/
theorem RAt.split {w : World} {base n : Nat} {z : RLay} {C : Ch} {p q : List Msg} {m : Msg} (h : RAt w base z n C (p ++ m :: q)) :
    ∃ g cap xp u xq cs, z.mv = .slice (some ⟨g, 0, none⟩) (p ++ m :: q).length cap ∧ z.xs = xp ++ u :: xq ∧ xp.length = p.length ∧ xq.length = q.length ∧ Blk w g 89 cs ∧
      (∀ (t : Nat) (v : Value), (msgV p xp)[t]? = some v → cs[t]? = some v) ∧ (∀ (t : Nat) (v : Value), (msgV q xq)[t]? = some v → cs[(p.length + 1) * 3 + t]? = some v) ∧ OwnCls w base u m.2.2 := by
  obtain ⟨g, cap, xp, u, xq, e1, e2, e3, e4, e5, ⟨cs, k1, k2⟩, ho⟩ := h.msg
  have hl := msgV_len _ _ e4
  refine ⟨g, cap, xp, u, xq, cs, e1, e3, e4, e5, k1, fun t v hv => k2 t v ?_, fun t v hv => k2 _ v ?_, ho⟩
  · rw [e3, msgV_append _ _ _ _ e4, List.getElem?_append_left (List.getElem?_eq_some_iff.1 hv).1]
    exact hv
  · rw [e3, msgV_append _ _ _ _ e4, msgV_cons, List.getElem?_append_right (by omega), hl, List.getElem?_append_right (by simp; omega)]
    simp only [List.length_cons, List.length_nil]
    rw [show (p.length + 1) * 3 + t - p.length * 3 - (0 + 1 + 1 + 1) = t by omega]
    exact hv
/-- One message less. -/
theorem RAt.remove {w w4 : World} {base n : Nat} {z : RLay} {C : Ch} {p q : List Msg} {m : Msg} {xp xq : List Value} {u mv' : Value} (h : RAt w base z n C (p ++ m :: q)) (hx : z.xs = xp ++ u :: xq) (lp : xp.length = p.length) (lq : xq.length = q.length)
    (b4 : Below w.heap.size w w4) (hown : w4.ownsRow base 89 3 mv' (p.length + q.length) (msgV p xp ++ msgV q xq)) (hv : ∀ g, mv'.ownBlock = some g → w.heap.size ≤ g) :
    RAt (w4.setCell ⟨z.p, 1, none⟩ mv') base { z with mv := mv', xs := xp ++ xq } n C (p ++ q) ∧ RTurn w (w4.setCell ⟨z.p, 1, none⟩ mv') z { z with mv := mv', xs := xp ++ xq } n := by
  have hmem : ∀ x ∈ xp ++ xq, x ∈ z.xs := fun x hxm => by
    rw [hx]
    rcases List.mem_append.1 hxm with e | e
    · exact List.mem_append_left _ e
    · exact List.mem_append_right _ (List.mem_cons_of_mem _ e)
  refine h.mvset (Only.of_below b4 _) (by rw [List.length_append, msgV_append _ _ _ _ lp]; exact hown) (fun g hg => .inr (hv g hg)) (by simp [lp, lq]) (fun j x y hj hy => ?_) fun i hi x hxm => h.sep i hi x (hmem x hxm)
  rcases Nat.lt_or_ge j xp.length with e | e
  · rw [List.getElem?_append_left e] at hj
    rw [List.getElem?_append_left (by omega)] at hy
    exact (h.xown j x y (by rw [hx, List.getElem?_append_left e]; exact hj) (by rw [List.getElem?_append_left (by omega)]; exact hy)).below b4
  · rw [List.getElem?_append_right e] at hj
    rw [List.getElem?_append_right (by omega)] at hy
    refine (h.xown (j + 1) x y ?_ ?_).below b4
    · rw [hx, List.getElem?_append_right (by omega), show j + 1 - xp.length = (j - xp.length) + 1 by omega, List.getElem?_cons_succ]
      exact hj
    · rw [List.getElem?_append_right (by omega), show j + 1 - p.length = (j - p.length) + 1 by omega, List.getElem?_cons_succ]
      exact hy
end Go.Proofs.Ytaicbllfkehhjaa
