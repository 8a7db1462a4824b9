/- The lexer: Lex, as far as names ask. -/
import Derived.Test.YtebdkmlganalaaaGreatDoorKTopAccruedQe
import Derived.Test.YtebdkmlganalaaaGreatDoorKTopAccruedQw
import Derived.Maps.AppendAt
import Derived.RangeFuncBox
namespace Go.Proofs.YtebdkmlganalaaaGreatDoor
open Go.RowKit Go.Shelf
attribute [local go_sem] Oper.semAt_some

theorem Tryz.infoTok : (Tryz.prog.info? 134).map (fun i => (i.zero, i.size, i.bytes)) = some (some (.agg #[.int .i64 0, .string ⟨#[]⟩, .int .i64 0, .int .i64 0]), 4, 40) := by kernel_rfl
/-- The cells of tokens. -/
def tokC (x : FdT) : List Value := [.int .i64 x.1.1, .string x.1.2.1, .int .i64 x.1.2.2.1, .int .i64 x.1.2.2.2.1]
def fndC (x : FdT) : Array Value := #[.int .i64 x.1.1, .string x.1.2.1, .int .i64 x.1.2.2.1, .int .i64 x.1.2.2.2.1, .int .i64 x.1.2.2.2.2]
def tokCs (pre : List FdT) : List Value := pre.flatMap tokC
theorem tokCs_len (pre : List FdT) : (tokCs pre).length = pre.length * 4 := by
  induction pre with
  | nil => rfl
  | cons x pre ih =>
    show (tokC x ++ tokCs pre).length = _
    rw [List.length_append, ih]
    simp [tokC]
    omega
theorem tokCs_snoc (pre : List FdT) (x : FdT) : tokCs (pre ++ [x]) = tokCs pre ++ tokC x := by simp [tokCs]
theorem blk_kept {A B : World} {row : Option Nat} {g : Nat} {t : TypeId} {cs : Array Value} (k : Blk A g t cs) (hg : A.grownBy B row) (hr : ∀ r, row = some r → ∃ o : Obj, A.heap[r]? = some o ∧ o.isCells = false) : Blk B g t cs :=
  (Only.of_grown hg).blk k fun e => by
    obtain ⟨o, h1, h2⟩ := hr g e
    unfold Blk at k
    rw [k] at h1
    injection h1 with h1
    subst h1
    cases h2
theorem owns_kept {A B : World} {row : Option Nat} {base size n : Nat} {e : TypeId} {v : Value} {xs : List Value} (k : A.ownsRow base e size v n xs) (hg : A.grownBy B row) (hr : ∀ r, row = some r → ∃ o : Obj, A.heap[r]? = some o ∧ o.isCells = false) : B.ownsRow base e size v n xs :=
  (Only.of_grown hg).owns k fun g hv e => by
    obtain ⟨o, h1, h2⟩ := hr g e
    rcases k.2 with ⟨h0, _⟩ | ⟨g', cap, cur, h0, _, h3, _⟩
    · rw [h0] at hv; cases hv
    · rw [h0] at hv
      have : g' = g := by simpa [Value.ownBlock] using hv
      subst this
      rw [h1] at h3
      injection h3 with h3
      subst h3
      cases h2
theorem own_form {w : World} {base size n : Nat} {e : TypeId} {v : Value} {xs : List Value} (h : w.ownsRow base e size v n xs) : ∃ A c, v = .slice A n c := by
  rcases h.2 with ⟨hv, h0⟩ | ⟨g, cap, cur, hv, _⟩
  · exact ⟨none, 0, by rw [hv, h0]⟩
  · exact ⟨_, _, hv⟩
theorem tok_row {w : World} {base c : Nat} {A : Option Addr} {x : FdT} (h : w.ownsRow base 134 4 (.slice A 1 c) 1 (tokCs [x])) :
    ∃ g, A = some ⟨g, 0, none⟩ ∧ w.cell? ⟨g, 0, none⟩ = some (.int .i64 x.1.1) ∧ w.cell? ⟨g, 1, none⟩ = some (.string x.1.2.1) := by
  rcases h.2 with ⟨hv, h0⟩ | ⟨g, cap, cur, hv, _, hh, h1, h2, h3, h4⟩
  · omega
  · injection hv with hv _ _
    have at_ : ∀ j (v : Value), (tokCs [x])[j]? = some v → w.cell? ⟨g, j, none⟩ = some v := fun j v hj => by
      rw [cell_of_row w g j cur _ _ hh]
      have hj4 : j < 1 * 4 := by
        have := (List.getElem?_eq_some_iff.1 hj).1
        rw [tokCs_len] at this
        simpa using this
      have h5 := congrArg (fun l : List Value => l[j]?) h4
      simp only [List.getElem?_take, if_pos hj4] at h5
      rw [hj] at h5
      simpa using h5
    exact ⟨g, hv, at_ 0 _ rfl, at_ 1 _ rfl⟩
/-- What the loop of Lex holds between two rounds. -/
def LexI (w : World) (pre : List FdT) (W : World) : Prop := (∃ v, Blk W (w.heap.size + 3) 130 #[v] ∧ W.ownsRow w.heap.size 134 4 v pre.length (tokCs pre)) ∧
  Blk W w.heap.size 130 #[.slice none 0 0] ∧ Blk W (w.heap.size + 1) 48 #[.int .i64 0] ∧ Blk W (w.heap.size + 2) 3 #[.int .i64 0] ∧ (∀ x ∈ pre, x.1.2.2.2.2 = 0) ∧ Below w.heap.size w W
/-- What it holds where a round has returned. -/
def LexX (w : World) (c : Code) (pre : List FdT) (W : World) : Prop := c = .ret ∧ (∃ er p : Int, er ≠ 0 ∧ Blk W w.heap.size 130 #[.slice none 0 0] ∧ Blk W (w.heap.size + 1) 48 #[.int .i64 er] ∧ Blk W (w.heap.size + 2) 3 #[.int .i64 p]) ∧
  ((∃ x ∈ pre, x.1.2.2.2.2 ≠ 0) ∨ 1 < pre.length) ∧ Below w.heap.size w W
theorem lexI_own (w : World) (B : Nat) (hB : w.heap.size ≤ B) : OwnFrom B (LexI w) := by
  rintro pre A B' row ⟨⟨v, h1, h2⟩, h3, h4, h5, h6, h7⟩ hg hr
  have hr' := fun r e => (hr r e).2
  exact ⟨⟨v, blk_kept h1 hg hr', owns_kept h2 hg hr'⟩, blk_kept h3 hg hr', blk_kept h4 hg hr', blk_kept h5 hg hr', h6, h7.grown hg h7.size (fun r e => Nat.le_trans hB (hr r e).1)⟩
theorem lexX_own (w : World) (B : Nat) (hB : w.heap.size ≤ B) (c : Code) : OwnFrom B (LexX w c) := by
  rintro pre A B' row ⟨hc, ⟨er, p, h0, h3, h4, h5⟩, h6, h7⟩ hg hr
  have hr' := fun r e => (hr r e).2
  exact ⟨hc, ⟨er, p, h0, blk_kept h3 hg hr', blk_kept h4 hg hr', blk_kept h5 hg hr'⟩, h6, h7.grown hg h7.size (fun r e => Nat.le_trans hB (hr r e).1)⟩
/-- What a round's body turns keeps what the iterator reads, and the loop's records. -/
theorem keeps_lex {F : Foot} {A B : World} {D : Nat} (h : Only F A B) (hF : ∀ g, F g → ∃ t cs, A.heap[g]? = some (.cells cs t (0, 0)) ∧ t ≠ 9 ∧ t ≠ 184 ∧ t ≠ 186 ∧ t ≠ 166) : KeepsFrom D A B ∧ KpT A B := by
  refine ⟨⟨h.size, fun k o _ hk ho => ?_⟩, h.size, fun g t cs ht hb => ?_⟩
  · rw [h.block k (Array.getElem?_eq_some_iff.1 hk).1 ?_]
    · exact hk
    · intro hf
      obtain ⟨t, cs, h1, _⟩ := hF k hf
      rw [hk] at h1
      injection h1 with h1
      subst h1
      cases ho
  · refine h.blk hb fun hf => ?_
    obtain ⟨t', cs', h1, h2, h3, h4, h5⟩ := hF g hf
    unfold Blk at hb
    rw [hb] at h1
    injection h1 with h1
    injection h1 with _ h1
    subst h1
    rcases ht with rfl | rfl | rfl | rfl
    · exact h2 rfl
    · exact h3 rfl
    · exact h4 rfl
    · exact h5 rfl
/-- A round that returns. -/
def lexW (w W : World) (er p : Int) : World := (((W.setCell ⟨w.heap.size, 0, none⟩ (.slice none 0 0)).setCell ⟨w.heap.size + 1, 0, none⟩ (.int .i64 er)).setCell ⟨w.heap.size + 1 + 1, 0, none⟩ (.int .i64 p)).drew
theorem lex_ret {w W : World} {D : Nat} {v0 v1 v2 : Value} {er p : Int} {pre : List FdT} (k0 : Blk W w.heap.size 130 #[v0]) (k1 : Blk W (w.heap.size + 1) 48 #[v1]) (k2 : Blk W (w.heap.size + 2) 3 #[v2])
    (hb : Below w.heap.size w W) (h0 : er ≠ 0) (hp : (∃ x ∈ pre, x.1.2.2.2.2 ≠ 0) ∨ 1 < pre.length) : KeepsFrom D W (lexW w W er p) ∧ LexX w .ret pre (lexW w W er p) := by
  have ho : Only (fun g => g = w.heap.size ∨ g = w.heap.size + 1 ∨ g = w.heap.size + 1 + 1) W (lexW w W er p) :=
    ((((Only.refl _ W).setCell (p := ⟨w.heap.size, 0, none⟩) (.inl (.inl rfl)) (.slice none 0 0)).setCell (p := ⟨w.heap.size + 1, 0, none⟩) (.inl (.inr (.inl rfl))) (.int .i64 er)).setCell (p := ⟨w.heap.size + 1 + 1, 0, none⟩) (.inl (.inr (.inr rfl))) (.int .i64 p)).drew
  refine ⟨(keeps_lex (D := D) ho ?_).1, rfl, ⟨er, p, h0, ?_, ?_, ?_⟩, hp, ?_⟩
  · rintro g (rfl | rfl | rfl)
    · exact ⟨_, _, k0, by decide, by decide, by decide, by decide⟩
    · exact ⟨_, _, k1, by decide, by decide, by decide, by decide⟩
    · exact ⟨_, _, k2, by decide, by decide, by decide, by decide⟩
  · exact ((k0.set_ 0 (.slice none 0 0)).far (show w.heap.size ≠ w.heap.size + 1 by omega) (p := ⟨w.heap.size + 1, 0, none⟩) (.int .i64 er)).far (show w.heap.size ≠ w.heap.size + 1 + 1 by omega) (p := ⟨w.heap.size + 1 + 1, 0, none⟩) (.int .i64 p)
  · exact ((k1.far (show w.heap.size + 1 ≠ w.heap.size by omega) (p := ⟨w.heap.size, 0, none⟩) (.slice none 0 0)).set_ 0 (.int .i64 er)).far (show w.heap.size + 1 ≠ w.heap.size + 1 + 1 by omega) (p := ⟨w.heap.size + 1 + 1, 0, none⟩) (.int .i64 p)
  · exact ((k2.far (show w.heap.size + 2 ≠ w.heap.size by omega) (p := ⟨w.heap.size, 0, none⟩) (.slice none 0 0)).far (show w.heap.size + 2 ≠ w.heap.size + 1 by omega) (p := ⟨w.heap.size + 1, 0, none⟩) (.int .i64 er)).set_ 0 (.int .i64 p)
  · exact hb.trans (ho.below hb.size (fun i hi => by omega))
theorem toks_stops (m : Nat) (hm : 1 ≤ m) (w : World) (L : List UInt8) (hlen : L.length ≤ 20000) (bt bc ba : Nat) (hT : TokAt w bt bc ba (bs L)) :
    SeqStopsK Fence.wide m Tryz.prog 122 #[.pointer (some ⟨bt, 0, none⟩), .pointer (some ⟨ba, 0, none⟩)] encF KpT (Nms L) (Nms L) 20001 w :=
  fun l J Jx W hW hJ _ hY h0 => toks_in m hm L hlen bt bc ba l J Jx W hJ hY ((KpT.of_below hW).tok hT) h0

/-- What Lex returns: of a text that is a name just this token; of another one an error, or tokens that are not one name with this text. -/
def LexPost (w : World) (L : List UInt8) (e : Ending) (w' : World) : Prop := Below w.heap.size w w' ∧
  ((nmB L = true ∧ ∃ g c, e = .returned (.tuple #[.slice (some ⟨g, 0, none⟩) 1 c, .int .i64 0, .int .i64 0]) ∧ w'.cell? ⟨g, 0, none⟩ = some (.int .i64 1) ∧ w'.cell? ⟨g, 1, none⟩ = some (.string (bs L))) ∨
   (nmB L = false ∧ ∃ (A : Option Addr) (n c : Nat) (er p : Int), e = .returned (.tuple #[.slice A n c, .int .i64 er, .int .i64 p]) ∧ (er = 0 → n = 1 → ∃ (g : Nat) (kd : Int) (tx : ByteArray), A = some ⟨g, 0, none⟩ ∧ w'.cell? ⟨g, 0, none⟩ = some (.int .i64 kd) ∧ w'.cell? ⟨g, 1, none⟩ = some (.string tx) ∧ (kd = 1 → tx ≠ bs L))))

set_option maxRecDepth 100000 in
set_option maxHeartbeats 4000000 in
theorem lex_long (w : World) (L : List UInt8) (hL : L.length ≤ 9223372036854775807) (hl : 20000 < L.length) : Calls Tryz.prog 70 #[.string (bs L)] w (LexPost w L) := by
  have hsz := bs_size L
  have d0 : decide ((20000 : Int) < ((bs L).size : Int)) = true := decide_eq_true (by omega)
  have hno : nmB L = false := by
    cases h : nmB L with
    | false => rfl
    | true => have := (nmB_cls.1 h).2.2; omega
  have HNO := Lib.hid hno
  have HSZ := Lib.hid hsz
  clear hsz hno
  have k0 := ((Blk.new w 130 #[.slice none 0 0]).alloc (.cells #[.int .i64 0] 48)).alloc (.cells #[.int .i64 0] 3)
  have k1 := (Blk.new1 w (.cells #[.slice none 0 0] 130) 48 #[.int .i64 0]).alloc (.cells #[.int .i64 0] 3)
  have k2 := Blk.new2 w (.cells #[.slice none 0 0] 130) (.cells #[.int .i64 0] 48) 3 #[.int .i64 0]
  have hb := (((Below.refl w.heap.size w).alloc (Nat.le_refl _) (.cells #[.slice none 0 0] 130)).alloc (by simp) (.cells #[.int .i64 0] 48)).alloc (by simp; omega) (.cells #[.int .i64 0] 3)
  go_enter Tryz.func70, Tryz.ntmps70
  go_upto_region 2 with fail
  generalize ((w.alloc (.cells #[.slice none 0 0] 130)).alloc (.cells #[.int .i64 0] 48)).alloc (.cells #[.int .i64 0] 3) = W1 at *
  obtain ⟨x0, x1, x2⟩ := k0.all
  obtain ⟨y0, y1, y2⟩ := k1.all
  obtain ⟨z0, z1, z2⟩ := k2.all
  go_wp2
  have m0 := ((k0.set_ 0 (.slice none 0 0)).far (show w.heap.size ≠ w.heap.size + 1 by omega) (p := ⟨w.heap.size + 1, 0, none⟩) (.int .i64 2)).far (show w.heap.size ≠ w.heap.size + 1 + 1 by omega) (p := ⟨w.heap.size + 1 + 1, 0, none⟩) (.int .i64 (-1))
  have m1 := ((k1.far (show w.heap.size + 1 ≠ w.heap.size by omega) (p := ⟨w.heap.size, 0, none⟩) (.slice none 0 0)).set_ 0 (.int .i64 2)).far (show w.heap.size + 1 ≠ w.heap.size + 1 + 1 by omega) (p := ⟨w.heap.size + 1 + 1, 0, none⟩) (.int .i64 (-1))
  have m2 := ((k2.far (show w.heap.size + 1 + 1 ≠ w.heap.size by omega) (p := ⟨w.heap.size, 0, none⟩) (.slice none 0 0)).far (show w.heap.size + 1 + 1 ≠ w.heap.size + 1 by omega) (p := ⟨w.heap.size + 1, 0, none⟩) (.int .i64 2)).set_ 0 (.int .i64 (-1))
  have hb3 := ((hb.setCell (p := ⟨w.heap.size, 0, none⟩) (Nat.le_refl _) (.slice none 0 0)).setCell (p := ⟨w.heap.size + 1, 0, none⟩) (show w.heap.size ≤ w.heap.size + 1 by omega) (.int .i64 2)).setCell (p := ⟨w.heap.size + 1 + 1, 0, none⟩) (show w.heap.size ≤ w.heap.size + 1 + 1 by omega) (.int .i64 (-1))
  generalize ((W1.setCell ⟨w.heap.size, 0, none⟩ (.slice none 0 0)).setCell ⟨w.heap.size + 1, 0, none⟩ (.int .i64 2)).setCell ⟨w.heap.size + 1 + 1, 0, none⟩ (.int .i64 (-1)) = W3 at *
  have c0 := m0.cell 0
  have c1 := m1.cell 0
  have c2 := m2.cell 0
  exact bodyPost_ret (v := .tuple #[.slice none 0 0, .int .i64 2, .int .i64 (-1)]) (by simp [results, Tryz.results70, go_sem, c0, c1, c2]) rfl ⟨hb3, .inr ⟨HNO.out, none, 0, 0, 2, -1, rfl, fun h => by cases h⟩⟩

set_option maxRecDepth 100000 in
set_option maxHeartbeats 8000000 in
theorem lex_short (w : World) (L : List UInt8) (hl : L.length ≤ 20000) : Calls Tryz.prog 70 #[.string (bs L)] w (LexPost w L) := by
  obtain ⟨i0, hi0, hz0, hz1, hz2⟩ := info_parts Tryz.infoTok
  refine (callsIn_wide (n := 5)).1 ?_
  have hsz := bs_size L
  have d0 : decide ((20000 : Int) < ((bs L).size : Int)) = false := decide_eq_false (by omega)
  have HSZ := Lib.hid hsz
  clear hsz
  refine callsIn_of_wp_marks Tryz.func70 rfl trivial ?_ rfl
  simp only [Tryz.ntmps70, List.size_toArray, List.length_cons, List.length_nil, Nat.reduceAdd, Nat.reduceSub, Array.replicate_succ, Array.replicate_zero, List.push_toArray, List.append_toArray, List.nil_append, List.cons_append]
  have k0 := (((Blk.new w 130 #[.slice none 0 0]).alloc (.cells #[.int .i64 0] 48)).alloc (.cells #[.int .i64 0] 3)).alloc (.cells #[.slice none 0 0] 130)
  have k1 := ((Blk.new1 w (.cells #[.slice none 0 0] 130) 48 #[.int .i64 0]).alloc (.cells #[.int .i64 0] 3)).alloc (.cells #[.slice none 0 0] 130)
  have k2 := (Blk.new2 w (.cells #[.slice none 0 0] 130) (.cells #[.int .i64 0] 48) 3 #[.int .i64 0]).alloc (.cells #[.slice none 0 0] 130)
  have k3 := Blk.new (((w.alloc (.cells #[.slice none 0 0] 130)).alloc (.cells #[.int .i64 0] 48)).alloc (.cells #[.int .i64 0] 3)) 130 #[.slice none 0 0]
  have hsz3 : (((w.alloc (.cells #[.slice none 0 0] 130)).alloc (.cells #[.int .i64 0] 48)).alloc (.cells #[.int .i64 0] 3)).heap.size = w.heap.size + 3 := by simp
  rw [hsz3] at k3
  have hb := ((((Below.refl w.heap.size w).alloc (Nat.le_refl _) (.cells #[.slice none 0 0] 130)).alloc (by simp) (.cells #[.int .i64 0] 48)).alloc (by simp; omega) (.cells #[.int .i64 0] 3)).alloc (by rw [hsz3]; omega) (.cells #[.slice none 0 0] 130)
  clear hsz3
  gi_wp2_with (refine ⟨trivial, ?_⟩; gi_at_call 105; refine (callsIn_wide.2 (tokens_any _ _)).mono ?_; rintro e w1 ⟨bt, bc, ba, hbt, hbc, hba, rfl, hT, b1⟩)
  have hb1 := hb.trans (b1.mono hb.size)
  replace k0 := k0.below b1 k0.lt
  replace k1 := k1.below b1 k1.lt
  replace k2 := k2.below b1 k2.lt
  replace k3 := k3.below b1 k3.lt
  clear hbt hbc hba hb b1
  have hI0 : LexI w [] w1 := ⟨⟨_, k3, World.ownsRow_nil _ _ _ _⟩, k0, k1, k2, by simp, hb1⟩
  have hle := hb1.size
  have HT := Lib.hid hT
  have HI0 := Lib.hid hI0
  clear hT hI0 k0 k1 k2 k3
  refine wpIn_rangeFunc_ownH rfl (by decide) (gf := 122) (lb := #[.pointer (some ⟨bt, 0, none⟩), .pointer (some ⟨ba, 0, none⟩)]) rfl trivial (enters_of Tryz.func122 (by kernel_rfl) rfl)
    (toks_stops 4 (by decide) w1 L hl bt bc ba HT.out) (fun h k => KpT.trans h k) (fun W l o o' _ h ho _ => KpT.put W l o o' h ho) (Below.refl _ _) (fun _ => rfl)
    (LexI w) (LexX w) (lexI_own w _ hle) (lexX_own w _ hle) HI0.out
    (fun x a' W => ∃ Bx, Blk W Bx 166 (fndC x) ∧ a' = { tmps := #[.string (bs L), undef, .pointer (some ⟨w.heap.size, 0, none⟩), .pointer (some ⟨w.heap.size + 1, 0, none⟩), .pointer (some ⟨w.heap.size + 1 + 1, 0, none⟩), .pointer (some ⟨w.heap.size + 1 + 1 + 1, 0, none⟩), .pointer (some ⟨Bx, 0, none⟩), .string (bs L), .int .i64 ((bs L).size : Int), .bool false, .string (bs L), .func (.func 122) #[] #[.pointer (some ⟨bt, 0, none⟩), .pointer (some ⟨ba, 0, none⟩)], .agg (fndC x), undef, undef, undef, undef, undef, undef, undef, undef, undef, undef, undef, undef, undef, undef, undef, undef, undef, undef, undef, undef, undef, undef], defers := [] }) ?hAx ?assign ?body ?done ?stop
  case hAx =>
    rintro x a' s A B row ⟨Bx, h1, h2⟩ hg hr
    exact ⟨Bx, blk_kept h1 hg (fun r e => (hr r e).2), h2⟩
  case assign =>
    rintro l pre ⟨⟨kd, tx, n, p, er⟩, hx⟩ W K hI hK
    dsimp only [encF]
    gi_wp2
    exact hK _ _ ((KeepsOthers.alloc _ _).from _) (KpT.of_below (below_self_alloc _ _)) ((lexI_own w _ hle).alloc _ hI) ⟨W.heap.size, Blk.new W _ _, rfl⟩
  case body =>
    rintro l pre ⟨⟨kd, tx, n, p, er⟩, hx⟩ a' W hl hr ⟨⟨v, k3, own⟩, k0, k1, k2, herr, hB⟩ ⟨Bx, kx, rfl⟩ hlt
    simp only [fndC] at kx ⊢
    have hform : ∃ A c, v = .slice A pre.length c := by
      rcases own.2 with ⟨hv, h0⟩ | ⟨g, cap, cur, hv, _⟩
      · exact ⟨none, 0, by rw [hv, h0]⟩
      · exact ⟨_, _, hv⟩
    obtain ⟨A, c, rfl⟩ := hform
    have OW := Lib.hid own
    have HB := Lib.hid hB
    have HERR := Lib.hid herr
    have HHX := Lib.hid hx
    have K0 := Lib.hid k0
    have K1 := Lib.hid k1
    have K2 := Lib.hid k2
    have K3 := Lib.hid k3
    have KX := Lib.hid kx
    clear own hB herr k0 k1 k2 k3 kx hr
    by_cases her : er = 0
    · have e0 : (er != 0) = false := by simpa using her
      have HER := Lib.hid her
      obtain ⟨x0, x1, x2⟩ := KX.out.all
      obtain ⟨o0, o1, o2⟩ := K3.out.all
      clear her
      by_cases h5 : pre.length = 5000
      · have e5 : ((pre.length : Int) == 5000) = true := by simp; omega
        have H5 := Lib.hid h5
        obtain ⟨y0, y0f, y0l⟩ := K0.out.all
        obtain ⟨y1, y1f, y1l⟩ := K1.out.all
        obtain ⟨y2, y2f, y2l⟩ := K2.out.all
        have n0 : Bx ≠ w.heap.size := KX.out.ne_ K0.out (by decide)
        have n1 : Bx ≠ w.heap.size + 1 := KX.out.ne_ K1.out (by decide)
        have n2 : Bx ≠ w.heap.size + 2 := KX.out.ne_ K2.out (by decide)
        clear h5
        gi_upto_region 9 with fail
        gi_region
        all_goals
          gi_wp2
          exact lex_ret K0.out K1.out K2.out HB.out (by decide) (.inr (by have := H5.out; simp; omega))
      · have e5 : ((pre.length : Int) == 5000) = false := by simp; omega
        have kn := Blk.new W 134 #[.int .i64 kd, .string tx, .int .i64 n, .int .i64 p]
        have hone : ∀ u ∈ [Value.int .i64 kd, .string tx, .int .i64 n, .int .i64 p], u.oneCell' = true := by
          intro u hu
          simp only [List.mem_cons, List.not_mem_nil, or_false] at hu
          rcases hu with rfl | rfl | rfl | rfl <;> rfl
        have hws : w.heap.size ≤ W.heap.size := HB.out.size
        have KN := Lib.hid kn
        have HONE := Lib.hid hone
        clear kn hone h5 x2
        gi_upto_region 10 with fail
        gi_wp2_with (gi_at_builtin; refine wpListIn_append_own _ rfl _ _ 130 rfl w.heap.size 134 i0 _ 4 40 Tryz.underlying130 hi0 hz0 hz1 hz2 rfl (by omega) (.slice A pre.length c) pre.length _ rfl (World.ownsRow.alloc OW.out _) ⟨W.heap.size, 0, none⟩ 1 1 [.int .i64 kd, .string tx, .int .i64 n, .int .i64 p] rfl rfl (World.news_of_block KN.out) HONE.out (by unfold maxLen; omega) (by omega) (by simp; omega) ?_; intro v5 w5 own5 gr5 nil5; have k35 := (K3.out.alloc (.cells #[.int .i64 kd, .string tx, .int .i64 n, .int .i64 p] 134)).grown gr5 (fun e => own_blk_ne OW.out K3.out (by decide) e.symm); clear o0 o1 o2; obtain ⟨o0, o1, o2⟩ := k35.all; obtain ⟨A5, c5, rfl⟩ := own_form own5)
        have ne0 : some w.heap.size ≠ (Value.slice A pre.length c).ownBlock := fun e => own_blk_ne OW.out K0.out (by decide) e.symm
        have ne1 : some (w.heap.size + 1) ≠ (Value.slice A pre.length c).ownBlock := fun e => own_blk_ne OW.out K1.out (by decide) e.symm
        have ne2 : some (w.heap.size + 2) ≠ (Value.slice A pre.length c).ownBlock := fun e => own_blk_ne OW.out K2.out (by decide) e.symm
        have f0 := ((K0.out.alloc (.cells #[.int .i64 kd, .string tx, .int .i64 n, .int .i64 p] 134)).grown gr5 ne0).far (show w.heap.size ≠ w.heap.size + 1 + 1 + 1 by omega) (p := ⟨w.heap.size + 1 + 1 + 1, 0, none⟩) (.slice A5 (pre.length + 1) c5)
        have f1 := ((K1.out.alloc (.cells #[.int .i64 kd, .string tx, .int .i64 n, .int .i64 p] 134)).grown gr5 ne1).far (show w.heap.size + 1 ≠ w.heap.size + 1 + 1 + 1 by omega) (p := ⟨w.heap.size + 1 + 1 + 1, 0, none⟩) (.slice A5 (pre.length + 1) c5)
        have f2 := ((K2.out.alloc (.cells #[.int .i64 kd, .string tx, .int .i64 n, .int .i64 p] 134)).grown gr5 ne2).far (show w.heap.size + 2 ≠ w.heap.size + 1 + 1 + 1 by omega) (p := ⟨w.heap.size + 1 + 1 + 1, 0, none⟩) (.slice A5 (pre.length + 1) c5)
        have f3 := k35.set_ 0 (.slice A5 (pre.length + 1) c5)
        have ho : Only (fun g => g = w.heap.size + 1 + 1 + 1 ∨ (Value.slice A pre.length c).ownBlock = some g) W (w5.setCell ⟨w.heap.size + 1 + 1 + 1, 0, none⟩ (.slice A5 (pre.length + 1) c5)) :=
          (((Only.refl _ W).alloc _).trans (Only.of_grown gr5) (fun i e => .inl (.inr e))).setCell (p := ⟨w.heap.size + 1 + 1 + 1, 0, none⟩) (.inl (.inl rfl)) _
        have hown6 : (w5.setCell ⟨w.heap.size + 1 + 1 + 1, 0, none⟩ (.slice A5 (pre.length + 1) c5)).ownsRow w.heap.size 134 4 (.slice A5 (pre.length + 1) c5) (pre.length + 1) (tokCs pre ++ [.int .i64 kd, .string tx, .int .i64 n, .int .i64 p]) :=
          ((Only.refl (fun g => g = w.heap.size + 1 + 1 + 1) w5).setCell (p := ⟨w.heap.size + 1 + 1 + 1, 0, none⟩) (.inl rfl) _).owns own5 (fun g hv hg => own_blk_ne own5 k35 (by decide) (by rw [hv, hg]))
        have hk := keeps_lex (D := w1.heap.size) ho (by
          rintro g (rfl | hg)
          · exact ⟨_, _, K3.out, by decide, by decide, by decide, by decide⟩
          · rcases OW.out.2 with ⟨hv, _⟩ | ⟨g', cap, cur, hv, _, hh, _⟩
            · rw [hv] at hg; cases hg
            · rw [hv] at hg
              have : g' = g := by simpa [Value.ownBlock] using hg
              subst this
              exact ⟨_, _, hh, by decide, by decide, by decide, by decide⟩)
        have hle6 : Below w.heap.size w (w5.setCell ⟨w.heap.size + 1 + 1 + 1, 0, none⟩ (.slice A5 (pre.length + 1) c5)) := HB.out.trans (ho.below hws (by
          rintro i (h | h)
          · omega
          · exact (World.ownsRow.lt OW.out i h).1))
        refine ⟨hk.1, hk.2, ⟨_, f3, ?_⟩, f0, f1, f2, ?_, hle6⟩
        · rw [tokCs_snoc, List.length_append]
          exact hown6
        · intro x hx
          rcases List.mem_append.1 hx with hx | hx
          · exact HERR.out x hx
          · rw [List.mem_singleton.1 hx]
            exact HER.out
    · have e0 : (er != 0) = true := by simpa using her
      have HER := Lib.hid her
      obtain ⟨x0, x1, x2⟩ := KX.out.all
      clear her
      gi_upto_region 7 with fail
      obtain ⟨y0, y0f, y0l⟩ := K0.out.all
      obtain ⟨y1, y1f, y1l⟩ := K1.out.all
      obtain ⟨y2, y2f, y2l⟩ := K2.out.all
      have n0 : Bx ≠ w.heap.size := KX.out.ne_ K0.out (by decide)
      have n1 : Bx ≠ w.heap.size + 1 := KX.out.ne_ K1.out (by decide)
      have n2 : Bx ≠ w.heap.size + 2 := KX.out.ne_ K2.out (by decide)
      gi_region
      all_goals
        gi_wp2
        exact lex_ret K0.out K1.out K2.out HB.out HER.out (.inl ⟨_, List.mem_append.2 (.inr (List.mem_singleton.2 rfl)), HER.out⟩)
  case done =>
    rintro D xs W hD hS ⟨⟨v, k3, own⟩, k0, k1, k2, herr, hB⟩ hK
    obtain ⟨A, c, rfl⟩ := own_form own
    have f0 := ((k0.set_ 0 (.slice A xs.length c)).far (show w.heap.size ≠ w.heap.size + 1 by omega) (p := ⟨w.heap.size + 1, 0, none⟩) (.int .i64 0)).far (show w.heap.size ≠ w.heap.size + 1 + 1 by omega) (p := ⟨w.heap.size + 1 + 1, 0, none⟩) (.int .i64 0)
    have f1 := ((k1.far (show w.heap.size + 1 ≠ w.heap.size by omega) (p := ⟨w.heap.size, 0, none⟩) (.slice A xs.length c)).set_ 0 (.int .i64 0)).far (show w.heap.size + 1 ≠ w.heap.size + 1 + 1 by omega) (p := ⟨w.heap.size + 1 + 1, 0, none⟩) (.int .i64 0)
    have f2 := ((k2.far (show w.heap.size + 2 ≠ w.heap.size by omega) (p := ⟨w.heap.size, 0, none⟩) (.slice A xs.length c)).far (show w.heap.size + 2 ≠ w.heap.size + 1 by omega) (p := ⟨w.heap.size + 1, 0, none⟩) (.int .i64 0)).set_ 0 (.int .i64 0)
    have ho : Only (fun g => g = w.heap.size ∨ g = w.heap.size + 1 ∨ g = w.heap.size + 1 + 1) W (((W.setCell ⟨w.heap.size, 0, none⟩ (.slice A xs.length c)).setCell ⟨w.heap.size + 1, 0, none⟩ (.int .i64 0)).setCell ⟨w.heap.size + 1 + 1, 0, none⟩ (.int .i64 0)) :=
      (((Only.refl _ W).setCell (p := ⟨w.heap.size, 0, none⟩) (.inl (.inl rfl)) (.slice A xs.length c)).setCell (p := ⟨w.heap.size + 1, 0, none⟩) (.inl (.inr (.inl rfl))) (.int .i64 0)).setCell (p := ⟨w.heap.size + 1 + 1, 0, none⟩) (.inl (.inr (.inr rfl))) (.int .i64 0)
    have own2 := ho.owns own (by
      rintro g hv (rfl | rfl | rfl)
      · exact own_blk_ne own k0 (by decide) hv
      · exact own_blk_ne own k1 (by decide) hv
      · exact own_blk_ne own k2 (by decide) hv)
    have hK2 := (keeps_lex (D := w1.heap.size) ho (by
      rintro g (rfl | rfl | rfl)
      · exact ⟨_, _, k0, by decide, by decide, by decide, by decide⟩
      · exact ⟨_, _, k1, by decide, by decide, by decide, by decide⟩
      · exact ⟨_, _, k2, by decide, by decide, by decide, by decide⟩)).1.same D _ hD hK rfl
    have hb2 := hB.trans (ho.below hB.size (fun i hi => by omega))
    obtain ⟨x0, x1, x2⟩ := k0.all
    obtain ⟨y0, y1, y2⟩ := k1.all
    obtain ⟨z0, z1, z2⟩ := k2.all
    obtain ⟨o0, o1, o2⟩ := k3.all
    have HS := Lib.hid hS
    have HERR := Lib.hid herr
    clear hK hS herr hB k0 k1 k2 k3 own ho
    gi_wp2
    generalize ((W.setCell ⟨w.heap.size, 0, none⟩ (.slice A xs.length c)).setCell ⟨w.heap.size + 1, 0, none⟩ (.int .i64 0)).setCell ⟨w.heap.size + 1 + 1, 0, none⟩ (.int .i64 0) = W3 at *
    have hg := grownBy_putObj' W3 D (.deferred none)
    have hr : ∀ r, some D = some r → ∃ o : Obj, W3.heap[r]? = some o ∧ o.isCells = false := fun r e => by
      injection e with e
      subst e
      exact ⟨_, hK2, rfl⟩
    have c0 := (blk_kept f0 hg hr).cell 0
    have c1 := (blk_kept f1 hg hr).cell 0
    have c2 := (blk_kept f2 hg hr).cell 0
    have own3 := owns_kept own2 hg hr
    have hb3 := hb2.trans (belowK_b (w := w) (Nat.le_refl _) W3 D _ (.deferred none) (by omega) hK2 rfl rfl)
    refine ⟨by simp, .inl ⟨_, _, rfl, run_takeDeferred hK2, ?_⟩⟩
    refine ⟨.tuple #[.slice A xs.length c, .int .i64 0, .int .i64 0], by simp [results, Tryz.results70, go_sem, c0, c1, c2], hb3, ?_⟩
    cases hnm : nmB L with
    | true =>
      have h1 := HS.out hnm
      obtain ⟨x, rfl⟩ : ∃ x, xs = [x] := List.length_eq_one_iff.1 (by have := congrArg List.length h1; simpa using this)
      have hx : x.1 = nmTok L := by simpa using h1
      obtain ⟨g, hA, g0, g1⟩ := tok_row own3
      rw [hx] at g0 g1
      subst hA
      exact .inl ⟨rfl, g, c, rfl, g0, g1⟩
    | false =>
      refine .inr ⟨rfl, A, xs.length, c, 0, 0, rfl, fun _ hn => ?_⟩
      obtain ⟨x, rfl⟩ : ∃ x, xs = [x] := List.length_eq_one_iff.1 hn
      obtain ⟨g, hA, g0, g1⟩ := tok_row own3
      refine ⟨g, x.1.1, x.1.2.1, hA, g0, g1, fun hk ht => ?_⟩
      have := x.2 (HERR.out x (by simp)) hk
      rw [ht, bs_list, hnm] at this
      cases this
  case stop =>
    rintro D c pre W hD hS ⟨rfl, ⟨er, p, h0, k0, k1, k2⟩, hp, hB⟩ hK
    have HS := Lib.hid hS
    have HP := Lib.hid hp
    clear hS hp
    gi_wp2
    have hg := grownBy_putObj' W D (.deferred none)
    have hr : ∀ r, some D = some r → ∃ o : Obj, W.heap[r]? = some o ∧ o.isCells = false := fun r e => by
      injection e with e
      subst e
      exact ⟨_, hK, rfl⟩
    have c0 := (blk_kept k0 hg hr).cell 0
    have c1 := (blk_kept k1 hg hr).cell 0
    have c2 := (blk_kept k2 hg hr).cell 0
    have hb3 := hB.trans (belowK_b (w := w) (Nat.le_refl _) W D _ (.deferred none) (by omega) hK rfl rfl)
    refine ⟨by simp, .inl ⟨_, _, rfl, run_takeDeferred hK, ?_⟩⟩
    refine ⟨.tuple #[.slice none 0 0, .int .i64 er, .int .i64 p], by simp [results, Tryz.results70, go_sem, c0, c1, c2], hb3, .inr ⟨?_, none, 0, 0, er, p, rfl, fun h => absurd h h0⟩⟩
    cases hnm : nmB L with
    | false => rfl
    | true =>
      exfalso
      have h1 := HS.out hnm
      obtain ⟨x, rfl⟩ : ∃ x, pre = [x] := List.length_eq_one_iff.1 (by have := congrArg List.length h1; simpa using this)
      have hx : x.1 = nmTok L := by simpa using h1
      rcases HP.out with ⟨y, hy, he⟩ | h2
      · rw [List.mem_singleton.1 hy, hx] at he
        exact he rfl
      · simp at h2
theorem lex_any (w : World) (L : List UInt8) (hL : L.length ≤ 9223372036854775807) : Calls Tryz.prog 70 #[.string (bs L)] w (LexPost w L) := by
  by_cases h : 20000 < L.length
  · exact lex_long w L hL h
  · exact lex_short w L (by omega)
end Go.Proofs.YtebdkmlganalaaaGreatDoor
