/- Part 12 of what the laws of this seat stand on: Nn, No, Np, Kp, Nq, Nd. -/
import Derived.Test.YtieicjjmkedgaaaGreatDoorY11
import Derived.Test.YtieicjjmkedgaaaGreatDoorRows
import Derived.ProofKit
import Derived.HandedShaped
import Derived.Handed
import Derived.Lay
import Derived.LaidMore
import Derived.LaidOnce
import Derived.Shelf.Vars
import Derived.Stop.Joined
import Derived.Stop.LaidErr
import Derived.Deep.DeepCutAuto
import Derived.SizedLaws

/- The reference's journal beside the package's: small functions, and what a law holds of both. -/
namespace Go.Proofs.YtieicjjmkedgaaaGreatDoor
open Go.RowKit Go.Shelf

set_option maxRecDepth 100000
theorem rrecords_any (w : World) {base b k : Nat} {e : Dk} {y : Jn} {H : Foot} (h : RSes w base b k e y H) :
    Calls Tryz.prog 12 #[.pointer (some ⟨k, 0, none⟩)] w fun r w' => ∃ lv, r = .returned lv ∧ OwnStrs w' base lv y.rs ∧ Below w.heap.size w w' := by
  obtain ⟨G, lv, _, _, hb, _, _, ho, _⟩ := h.body
  obtain ⟨x0, x1, x2⟩ := hb.all
  obtain ⟨A, c, rfl⟩ := ho.form
  go_enter Tryz.func12, Tryz.ntmps12
  go_wp2
  go_ret
  exact ⟨_, rfl, ho, Below.refl _ _⟩
theorem rrecords_nil (w : World) : Calls Tryz.prog 12 #[.pointer none] w fun r w' => r = .returned (.slice none 0 0) ∧ Below w.heap.size w w' := by
  go_enter Tryz.func12, Tryz.ntmps12
  go_wp2
  go_ret
  exact ⟨rfl, Below.refl _ _⟩
theorem rroom_nil (w : World) : Calls Tryz.prog 14 #[.pointer none] w fun r w' => r = .returned (.int .i64 0) ∧ Below w.heap.size w w' := by
  go_enter Tryz.func14, Tryz.ntmps14
  go_wp2
  go_ret
  exact ⟨rfl, Below.refl _ _⟩
theorem records_nil (w : World) : Calls Tryz.prog 11 #[.pointer none] w fun r w' => r = .returned (.slice none 0 0) ∧ Below w.heap.size w w' := by
  go_enter Tryz.func11, Tryz.ntmps11
  go_wp2
  go_ret
  exact ⟨rfl, Below.refl _ _⟩
theorem room_nil (w : World) : Calls Tryz.prog 13 #[.pointer none] w fun r w' => r = .returned (.int .i64 0) ∧ Below w.heap.size w w' := by
  go_enter Tryz.func13, Tryz.ntmps13
  go_wp2
  go_ret
  exact ⟨rfl, Below.refl _ _⟩
theorem rappend_nil (w : World) (v : Value) : Calls Tryz.prog 26 #[.pointer none, v] w fun r w' => r = .returned (.int .i64 1) ∧ Below w.heap.size w w' := by
  go_enter Tryz.func26, Tryz.ntmps26
  go_wp2
  go_ret
  exact ⟨rfl, Below.refl _ _⟩
theorem rdisk_no (w : World) (n : Int) (h : n < 1) : Calls Tryz.prog 7 #[.int .i64 n] w fun e w' => e = .returned (.pointer none) ∧ Below w.heap.size w w' := by
  have e1 : decide (n < 1) = true := decide_eq_true h
  clear h
  go_enter Tryz.func7, Tryz.ntmps7
  go_wp2
  go_ret
  exact ⟨rfl, Below.refl _ _⟩

/-! What both disks hold. -/
theorem only_of_keep {w0 w w' : World} {K : Foot} (hb : Below w0.heap.size w0 w) (hb' : Below w0.heap.size w0 w') (hk : Keep K w w') : Only (fun i => ¬ K i) w w' :=
  ⟨hb'.os.trans hb.os.symm, hb'.tape.trans hb.tape.symm, hb'.output.trans hb.output.symm, hk.size, fun i _ hn => hk.block i (Classical.not_not.1 hn)⟩
theorem keep_of_only {w w' : World} {G L : Foot} (h : Only G w w') (hL : ∀ i, L i → i < w.heap.size ∧ ¬ G i) : Keep L w w' := ⟨h.size, fun i hi => h.block i (hL i hi).1 (hL i hi).2⟩
theorem RSes.keep {w w' : World} {base b k : Nat} {e : Dk} {y : Jn} {H F : Foot} (h : RSes w base b k e y H) (o : Only F w w') (hF : ∀ i, H i → ¬ F i) : RSes w' base b k e y H := by
  obtain ⟨G, lv, h1, h2, h3, h4, h5, h6, h7⟩ := h.body
  exact ⟨⟨G, lv, h1.keep o (fun i hi => hF i (h2 i hi)), h2, o.blk h3 (hF k h4), h4, h5, o.owns h6 fun g hg => hF g (h7 g hg).1, h7⟩, fun i hi => ⟨(h.low i hi).1, Nat.lt_of_lt_of_le (h.low i hi).2 o.size⟩⟩
/-- Both disks; the blocks of L lie apart from both. -/
def MM (w0 w : World) (a b : Nat) (d e : Dk) (L : Foot) : Prop := ∃ K G : Foot, Live w0 w a d K ∧ RefAt w b e G ∧ (∀ i, G i → K i ∧ w0.heap.size ≤ i) ∧ ∀ i, L i → K i ∧ ¬ G i
/-- Both disks and journals. -/
def JJ (w0 w : World) (a b j k : Nat) (d e : Dk) (x y : Jn) (L : Foot) : Prop := ∃ K H : Foot, Ses w0 w a d j x K ∧ RSes w w0.heap.size b k e y H ∧ (∀ i, H i → K i) ∧ ∀ i, L i → K i ∧ ¬ H i
section
variable {w0 w w' : World} {a b j k : Nat} {d e d' e' : Dk} {x y x' y' : Jn} {L L' : Foot} {P : Program} {f : FuncId} {args : Array Value} {v : Value}
theorem MM.below (h : MM w0 w a b d e L) : Below w0.heap.size w0 w := by
  obtain ⟨K, G, h1, _⟩ := h
  exact h1.below
theorem MM.ok (h : MM w0 w a b d e L) : d.Ok := by
  obtain ⟨K, G, h1, _⟩ := h
  exact h1.ok
theorem MM.lt (h : MM w0 w a b d e L) : ∀ i, L i → i < w.heap.size := by
  obtain ⟨K, G, h1, _, _, h4⟩ := h
  exact fun i hi => h1.lt i (h4 i hi).1
theorem JJ.below (h : JJ w0 w a b j k d e x y L) : Below w0.heap.size w0 w := by
  obtain ⟨K, G, h1, _⟩ := h
  exact h1.live.below
theorem JJ.ok (h : JJ w0 w a b j k d e x y L) : d.Ok := by
  obtain ⟨K, G, h1, _⟩ := h
  exact h1.ok
theorem JJ.mm (h : JJ w0 w a b j k d e x y L) : MM w0 w a b d e L := by
  obtain ⟨K, H, h1, h2, h3, h4⟩ := h
  obtain ⟨G, lv, g1, g2, _⟩ := h2.body
  exact ⟨K, G, h1.live, g1, fun i hi => ⟨h3 i (g2 i hi), (h2.low i (g2 i hi)).1⟩, fun i hi => ⟨(h4 i hi).1, fun hg => (h4 i hi).2 (g2 i hg)⟩⟩
theorem MM.more (h : MM w0 w a b d e L) (hb : Below w.heap.size w w') (hL : ∀ i, L' i → L i ∨ (w.heap.size ≤ i ∧ i < w'.heap.size)) : MM w0 w' a b d e L' := by
  obtain ⟨K, G, h1, h2, h3, h4⟩ := h
  refine ⟨fun i => K i ∨ (w.heap.size ≤ i ∧ i < w'.heap.size), G, h1.more hb fun i hi => hi, h2.below hb, fun i hi => ⟨.inl (h3 i hi).1, (h3 i hi).2⟩, fun i hi => ?_⟩
  rcases hL i hi with h5 | h5
  · exact ⟨.inl (h4 i h5).1, (h4 i h5).2⟩
  · exact ⟨.inr h5, fun hg => by have := h2.lt i hg; omega⟩
theorem MM.same (h : MM w0 w a b d e L) (hb : Below w.heap.size w w') : MM w0 w' a b d e L := h.more hb fun _ hi => .inl hi
theorem JJ.more (h : JJ w0 w a b j k d e x y L) (hb : Below w.heap.size w w') (hL : ∀ i, L' i → L i ∨ (w.heap.size ≤ i ∧ i < w'.heap.size)) : JJ w0 w' a b j k d e x y L' := by
  obtain ⟨K, H, h1, h2, h3, h4⟩ := h
  refine ⟨fun i => K i ∨ (w.heap.size ≤ i ∧ i < w'.heap.size), H, h1.more hb fun i hi => hi, h2.below hb, fun i hi => .inl (h3 i hi), fun i hi => ?_⟩
  rcases hL i hi with h5 | h5
  · exact ⟨.inl (h4 i h5).1, (h4 i h5).2⟩
  · exact ⟨.inr h5, fun hg => by have := (h2.low i hg).2; omega⟩
theorem JJ.same (h : JJ w0 w a b j k d e x y L) (hb : Below w.heap.size w w') : JJ w0 w' a b j k d e x y L := h.more hb fun _ hi => .inl hi
theorem MM.left (h : MM w0 w a b d e L) (hc : ∀ F, DiskAt w a d F → Calls P f args w fun r w' => r = .returned v ∧ Stp w w' a d' F) :
    Calls P f args w fun r w' => r = .returned v ∧ MM w0 w' a b d' e L ∧ Keep L w w' := by
  obtain ⟨K, G, h1, h2, h3, h4⟩ := h
  refine (h1.lift hc).mono ?_
  rintro r w' ⟨hr, k1, k2⟩
  exact ⟨hr, ⟨K, G, k1, h2.keep (only_of_keep h1.below k1.below k2) fun i hi hn => hn (h3 i hi).1, h3, h4⟩, k2.mono fun i hi => (h4 i hi).1⟩
theorem MM.right (h : MM w0 w a b d e L) (hc : ∀ G, RefAt w b e G → Calls P f args w fun r w' => r = .returned v ∧ RPost w w' b e' G) :
    Calls P f args w fun r w' => r = .returned v ∧ MM w0 w' a b d e' L ∧ Keep L w w' := by
  obtain ⟨K, G, h1, h2, h3, h4⟩ := h
  refine (hc G h2).mono ?_
  rintro r w' ⟨hr, G', o, hG, hR⟩
  have hs := h1.below.size
  refine ⟨hr, ⟨fun i => K i ∨ G' i, G', ?_, hR, fun i hi => ⟨.inr hi, ?_⟩, fun i hi => ⟨.inl (h4 i hi).1, fun hg => ?_⟩⟩, keep_of_only o fun i hi => ⟨h1.lt i (h4 i hi).1, (h4 i hi).2⟩⟩
  · obtain ⟨F, f1, f2, f3⟩ := h1.disk
    refine ⟨h1.below.trans (o.below h1.below.size fun i hi => (h3 i hi).2), ⟨F, f1.only o fun i hi hg => f3 i hi (h3 i hg).1, f2, fun i hi hk => ?_⟩, fun i hi => ?_⟩
    · rcases hk with hk | hk
      · exact f3 i hi hk
      · rcases hG i hk with h5 | h5
        · exact f3 i hi (h3 i h5).1
        · have := f1.lt i hi; omega
    · rcases hi with hi | hi
      · exact Nat.lt_of_lt_of_le (h1.lt i hi) o.size
      · exact hR.lt i hi
  · rcases hG i hi with h5 | h5
    · exact (h3 i h5).2
    · omega
  · rcases hG i hg with h5 | h5
    · exact (h4 i hi).2 h5
    · have := h1.lt i (h4 i hi).1; omega
theorem JJ.left (h : JJ w0 w a b j k d e x y L) (hc : ∀ K, Ses w0 w a d j x K → (∀ i, L i → K i) → Calls P f args w fun r w' => r = .returned v ∧ Ses w0 w' a d' j x' K ∧ Keep K w w') :
    Calls P f args w fun r w' => r = .returned v ∧ JJ w0 w' a b j k d' e x' y L ∧ Keep L w w' := by
  obtain ⟨K, H, h1, h2, h3, h4⟩ := h
  refine (hc K h1 fun i hi => (h4 i hi).1).mono ?_
  rintro r w' ⟨hr, k1, k2⟩
  exact ⟨hr, ⟨K, H, k1, h2.keep (only_of_keep h1.live.below k1.live.below k2) fun i hi hn => hn (h3 i hi), h3, h4⟩, k2.mono fun i hi => (h4 i hi).1⟩
theorem JJ.right (h : JJ w0 w a b j k d e x y L) (hc : ∀ H, RSes w w0.heap.size b k e y H → (∀ i, L i → ¬ H i) → w0.heap.size ≤ w.heap.size → Calls P f args w fun r w' => r = .returned v ∧ RApp w w' w0.heap.size b k e' y' H) :
    Calls P f args w fun r w' => r = .returned v ∧ JJ w0 w' a b j k d e' x y' L ∧ Keep L w w' := by
  obtain ⟨K, H, h1, h2, h3, h4⟩ := h
  refine (hc H h2 (fun i hi => (h4 i hi).2) h1.live.below.size).mono ?_
  rintro r w' ⟨hr, H', hR, o, hG⟩
  have hb := h1.live.below
  have hl := h1.live.lt
  refine ⟨hr, ⟨fun i => K i ∨ H' i, H', ?_, hR, fun i hi => .inr hi, fun i hi => ⟨.inl (h4 i hi).1, fun hg => ?_⟩⟩, keep_of_only o fun i hi => ⟨hl i (h4 i hi).1, (h4 i hi).2⟩⟩
  · obtain ⟨J, j1, j2, j3⟩ := h1
    obtain ⟨F, f1, f2, f3⟩ := j1.disk
    have hJl : ∀ i, J i → i < w.heap.size := fun i hi => j1.lt i (.inr hi)
    have hJH : ∀ i, J i → ¬ H' i := fun i hi hh => (hG i hh).elim (fun h5 => (j3 i hi).2 (h3 i h5)) fun h5 => by have := hJl i hi; omega
    refine ⟨J, ⟨hb.trans (o.below hb.size fun i hi => (h2.low i hi).1), ⟨F, f1.only o fun i hi hg => f3 i hi (.inl (h3 i hg)), f2, fun i hi hk => ?_⟩, fun i hi => ?_⟩, ?_, fun i hi => ⟨(j3 i hi).1, fun hk => ?_⟩⟩
    · rcases hk with (hk | hk) | hk
      · exact f3 i hi (.inl hk)
      · rcases hG i hk with h5 | h5
        · exact f3 i hi (.inl (h3 i h5))
        · have := f1.lt i hi; omega
      · exact f3 i hi (.inr hk)
    · rcases hi with (hi | hi) | hi
      · exact Nat.lt_of_lt_of_le (hl i hi) o.size
      · exact (hR.low i hi).2
      · exact Nat.lt_of_lt_of_le (hJl i hi) o.size
    · exact j2.keep (keep_of_only (L := J) o fun i hi => ⟨hJl i hi, fun hh => (j3 i hi).2 (h3 i hh)⟩) fun i hi => hi
    · exact hk.elim (j3 i hi).2 (hJH i hi)
  · rcases hG i hg with h5 | h5
    · exact (h4 i hi).2 h5
    · have := hl i (h4 i hi).1; omega
end
end Go.Proofs.YtieicjjmkedgaaaGreatDoor

/- The operations on both disks and journals of a law; what stays true in plain words. -/
namespace Go.Proofs.YtieicjjmkedgaaaGreatDoor
open Go.RowKit Go.Shelf

/-! Plain: no writes are pending between the operations. -/
theorem steps_off : ∀ (L : List (Nat × List (List UInt8))) {d : Dk}, d.off = true → (d.steps L).1 = d
  | [], _, _ => rfl
  | (p, l) :: r, d, h => by
    have e : d.puts p l = (d, 25) := by
      cases l with
      | nil => unfold Dk.puts Dk.sync; rw [if_pos h]
      | cons s r =>
        have e2 : d.write (p : Int) (bs s) = (d, 25) := by unfold Dk.write; rw [if_pos h]
        unfold Dk.puts
        rw [e2, if_neg (show ¬ (25 : Int) = 0 by decide)]
    unfold Dk.steps
    rw [e, if_neg (show ¬ (25 : Int) = 0 by decide)]
theorem steps_q0 (L : List (Nat × List (List UInt8))) {d : Dk} (h : d.Ok) (hq : d.q = []) (hL : stepsOk d.n L) : (d.steps L).1.q = [] := by
  cases ho : d.off with
  | true => rw [steps_off L ho]; exact hq
  | false =>
    rcases Dk.steps_on L h ho hL with ⟨_, _, _, _, _, h6, _⟩ | ⟨_, _, h3⟩
    · exact h6 (.inr hq)
    · exact h3.q
/-- What is true of the disk and the journal between the operations of a law. -/
def Iv (n i : Nat) (d : Dk) (jo : Option Jn) : Prop := d.q = [] ∧ d.n = n ∧ ∀ x, jo = some x → 3 ≤ n ∧ x.n = n ∧ x.cnt + 2 ≤ n ∧ x.rs.length ≤ 46 * n + 20 * i
theorem open_iv {n i : Nat} {d : Dk} (h : d.Ok) (hq : d.q = []) (hn : d.n = n) : Iv n i (openS d).1 (openS d).2.1 := by
  unfold openS
  split
  · exact ⟨hq, hn, fun _ h => by cases h⟩
  split
  · exact ⟨hq, hn, fun _ h => by cases h⟩
  rename_i ho h3
  cases hr : readS d.vws with
  | none => exact ⟨hq, hn, fun _ h => by cases h⟩
  | some p =>
    obtain ⟨c, rs⟩ := p
    simp only
    have hq2 : (d.mends c).1.q = [] := by rw [Dk.mends_steps]; exact steps_q0 _ h hq (mendsL_ok (by omega))
    have hn2 : (d.mends c).1.n = n := by rw [Dk.mends_steps, Dk.steps_n]; exact hn
    split
    · refine ⟨hq2, hn2, fun x hx => ?_⟩
      obtain rfl : (⟨d.n, c, rs, false⟩ : Jn) = x := Option.some.inj hx
      simp only
      unfold readS at hr
      rw [Dk.vws_len] at hr
      split at hr
      · cases hr
      rename_i hneg
      obtain ⟨t, ht, hr2⟩ := Option.bind_eq_some_iff.1 hr
      obtain ⟨rs', hp, he⟩ := Option.map_eq_some_iff.1 hr2
      injection he with he1 he2
      subst he2
      have h5 := cntM_le (d.vws.getD 0 []) (d.vws.getD 1 []) (d.n - 2)
      have h6 := foundP_len _ _ _ ht
      have h7 := (parse_some hp).1
      have h8 := textR_rows rs'
      rw [← h7] at h8
      have h9 : ((d.vws.drop 2).take (cntM (d.vws.getD 0 []) (d.vws.getD 1 []) (d.n - 2)).toNat).length ≤ d.n := by
        rw [List.length_take, List.length_drop, Dk.vws_len]
        omega
      have h10 : 46 * ((d.vws.drop 2).take (cntM (d.vws.getD 0 []) (d.vws.getD 1 []) (d.n - 2)).toNat).length ≤ 46 * d.n := Nat.mul_le_mul_left _ h9
      refine ⟨by omega, hn, by omega, by omega⟩
    · exact ⟨hq2, hn2, fun _ h => by cases h⟩
theorem append_iv {n i : Nat} {d : Dk} {x : Jn} {rs : List (List UInt8)} (h : d.Ok) (hI : Iv n i d (some x)) (hr : rs.length ≤ 20) : Iv n (i + 1) (appendS d x rs).1 (some (appendS d x rs).2.1) := by
  obtain ⟨hq, hn, hx⟩ := hI
  obtain ⟨h3, hx1, hx2, hx3⟩ := hx x rfl
  have same : Iv n (i + 1) d (some x) := ⟨hq, hn, fun y hy => by
    obtain rfl := Option.some.inj hy
    exact ⟨h3, hx1, hx2, by omega⟩⟩
  unfold appendS
  split
  · exact same
  split
  · exact same
  split
  · exact same
  split
  · exact same
  rename_i hroom _
  have hq2 : (d.steps (writesS x.cnt (piecesL (textR rs)))).1.q = [] := steps_q0 _ h hq (writes_ok (by omega) (by omega))
  have hn2 : (d.steps (writesS x.cnt (piecesL (textR rs)))).1.n = n := by rw [Dk.steps_n]; exact hn
  split
  · refine ⟨hq2, hn2, fun y hy => ?_⟩
    obtain rfl := Option.some.inj hy
    simp only [List.length_append]
    exact ⟨h3, hx1, by omega, by omega⟩
  · refine ⟨hq2, hn2, fun y hy => ?_⟩
    obtain rfl := Option.some.inj hy
    exact ⟨h3, hx1, hx2, by simp only; omega⟩
theorem Iv.next {n i : Nat} {d : Dk} {jo : Option Jn} (h : Iv n i d jo) : Iv n (i + 1) d jo := ⟨h.1, h.2.1, fun x hx => by obtain ⟨h1, h2, h3, h4⟩ := h.2.2 x hx; exact ⟨h1, h2, h3, by omega⟩⟩
theorem fail_q0 {d : Dk} (h : d.q = []) (x y : Int) : (d.fail x y).q = [] := by
  unfold Dk.fail
  split
  · exact h
  · rfl
theorem rot_qn (d : Dk) (x y z : Int) : (d.rot x y z).q = d.q ∧ (d.rot x y z).n = d.n := by
  unfold Dk.rot
  split <;> exact ⟨rfl, rfl⟩
theorem stale_qn (d : Dk) (x : Int) : (d.stale x).q = d.q ∧ (d.stale x).n = d.n := by
  unfold Dk.stale
  split <;> exact ⟨rfl, rfl⟩
theorem arm_qn (d : Dk) (x y z : Int) : (d.doArm x y z).q = d.q ∧ (d.doArm x y z).n = d.n := by
  unfold Dk.doArm
  split <;> exact ⟨rfl, rfl⟩
theorem Iv.arm {n i : Nat} {d : Dk} {jo : Option Jn} (h : Iv n i d jo) (x y z : Int) : Iv n (i + 1) (d.doArm x y z) jo :=
  ⟨(arm_qn d x y z).1.trans h.1, (arm_qn d x y z).2.trans h.2.1, h.next.2.2⟩

/-! The operations. -/
theorem RSes.lift {w : World} {base b k : Nat} {e e' : Dk} {y : Jn} {H : Foot} {P : Program} {f : FuncId} {args : Array Value} {v : Value} (h : RSes w base b k e y H) (hbase : base ≤ w.heap.size)
    (hc : ∀ G, RefAt w b e G → Calls P f args w fun r w' => r = .returned v ∧ RStp w w' b e' G) : Calls P f args w fun r w' => r = .returned v ∧ RApp w w' base b k e' y H := by
  obtain ⟨G, lv, h1, h2, h3, h4, h5, h6, h7⟩ := h.body
  refine (hc G h1).mono ?_
  rintro r w' ⟨hr, hs⟩
  obtain ⟨G', o, hG, hR⟩ := hs.post
  exact ⟨hr, rapp_end h h2 h3 h4 h5 o hG hR (Only.refl _ _) (o.blk h3 h5) (o.owns h6 fun g hg => (h7 g hg).2) (fun g hg => .inl (h7 g hg)) hbase⟩
/-- A journal of the package's; on the reference's disk none yet. -/
def OM (w0 w : World) (a b j : Nat) (d e : Dk) (x : Jn) (L : Foot) : Prop := ∃ K G : Foot, Ses w0 w a d j x K ∧ RefAt w b e G ∧ (∀ i, G i → K i ∧ w0.heap.size ≤ i) ∧ ∀ i, L i → K i ∧ ¬ G i
section
variable {w0 w w' : World} {a b j k : Nat} {d e d' e' : Dk} {x y x' y' : Jn} {L L' : Foot} {code : Int}
theorem MM.open_none (h : MM w0 w a b d e L) (ht : Tbs w0) (hq : d.q = []) (he : openS d = (d', none, code)) :
    Calls Tryz.prog 8 #[.pointer (some ⟨a, 0, none⟩)] w fun r w' => r = .returned (.tuple #[.pointer none, .slice none 0 0, .int .i64 code]) ∧ MM w0 w' a b d' e L ∧ Keep L w w' := by
  obtain ⟨K, G, h1, h2, h3, h4⟩ := h
  refine (h1.open_none ht (by rw [hq]; exact Nat.zero_le _) he).mono ?_
  rintro r w' ⟨hr, k1, k2⟩
  exact ⟨hr, ⟨K, G, k1, h2.keep (only_of_keep h1.below k1.below k2) fun i hi hn => hn (h3 i hi).1, h3, h4⟩, k2.mono fun i hi => (h4 i hi).1⟩
theorem MM.open_some (h : MM w0 w a b d e L) (ht : Tbs w0) (hq : d.q = []) (he : openS d = (d', some x, code)) :
    Calls Tryz.prog 8 #[.pointer (some ⟨a, 0, none⟩)] w fun r w' => ∃ (j : Nat) (A : Option Addr) (c : Nat) (L' : Foot), r = .returned (.tuple #[.pointer (some ⟨j, 0, none⟩), .slice A x.rs.length c, .int .i64 code]) ∧
      OM w0 w' a b j d' e x L' ∧ StrsIn w' L' A x.rs ∧ (∀ i, L i → L' i) ∧ Keep L w w' := by
  obtain ⟨K, G, h1, h2, h3, h4⟩ := h
  refine (h1.open_some ht (by rw [hq]; exact Nat.zero_le _) he).mono ?_
  rintro r w' ⟨j, A, c, B, hr, k1, k2, k3, k4⟩
  refine ⟨j, A, c, fun i => L i ∨ (B ≤ i ∧ i < w'.heap.size), hr, ⟨_, G, k1, h2.keep (only_of_keep h1.below k1.live.below k4) fun i hi hn => hn (h3 i hi).1, fun i hi => ⟨.inl (h3 i hi).1, (h3 i hi).2⟩, fun i hi => ?_⟩, k2.strsIn fun i h5 h6 => .inr ⟨h5, h6⟩, fun i hi => .inl hi, k4.mono fun i hi => (h4 i hi).1⟩
  rcases hi with hi | hi
  · exact ⟨.inl (h4 i hi).1, (h4 i hi).2⟩
  · exact ⟨.inr hi, fun hg => by have := h2.lt i hg; omega⟩
theorem MM.ropen_none (h : MM w0 w a b d e L) (hq : e.q = []) (he : openS e = (e', none, code)) :
    Calls Tryz.prog 9 #[.pointer (some ⟨b, 0, none⟩)] w fun r w' => r = .returned (.tuple #[.pointer none, .slice none 0 0, .int .i64 code]) ∧ MM w0 w' a b d e' L ∧ Keep L w w' :=
  h.right fun G hG => (ropen_any w (base := 0) hG (fun _ _ => Nat.zero_le _) (Nat.zero_le _) (by rw [hq]; exact Nat.zero_le _)).mono fun r w' hr => by
    unfold ROpen at hr
    rw [he] at hr
    exact hr
theorem OM.ropen_some (h : OM w0 w a b j d e x L) (hq : e.q = []) (he : openS e = (e', some y, code)) :
    Calls Tryz.prog 9 #[.pointer (some ⟨b, 0, none⟩)] w fun r w' => ∃ (k : Nat) (A : Option Addr) (c : Nat), r = .returned (.tuple #[.pointer (some ⟨k, 0, none⟩), .slice A y.rs.length c, .int .i64 code]) ∧
      JJ w0 w' a b j k d e' x y L ∧ StrsAt w' w'.heap.size A y.rs ∧ Keep L w w' := by
  obtain ⟨K, G, h1, h2, h3, h4⟩ := h
  have hb := h1.live.below
  have hl := h1.live.lt
  refine (ropen_any w (base := w0.heap.size) h2 (fun i hi => (h3 i hi).2) hb.size (by rw [hq]; exact Nat.zero_le _)).mono ?_
  intro r w' hr
  unfold ROpen at hr
  rw [he] at hr
  obtain ⟨k, A, c, H, hr, hR, o, hH, ho, _⟩ := hr
  refine ⟨k, A, c, hr, ⟨fun i => K i ∨ H i, H, ?_, hR, fun i hi => .inr hi, fun i hi => ⟨.inl (h4 i hi).1, fun hg => ?_⟩⟩, ho.strsAt, keep_of_only o fun i hi => ⟨hl i (h4 i hi).1, (h4 i hi).2⟩⟩
  · obtain ⟨J, j1, j2, j3⟩ := h1
    obtain ⟨F, f1, f2, f3⟩ := j1.disk
    have hJl : ∀ i, J i → i < w.heap.size := fun i hi => j1.lt i (.inr hi)
    refine ⟨J, ⟨hb.trans (o.below hb.size fun i hi => (h3 i hi).2), ⟨F, f1.only o fun i hi hg => f3 i hi (.inl (h3 i hg).1), f2, fun i hi hk => ?_⟩, fun i hi => ?_⟩, ?_, fun i hi => ⟨(j3 i hi).1, fun hk => ?_⟩⟩
    · rcases hk with (hk | hk) | hk
      · exact f3 i hi (.inl hk)
      · rcases hH i hk with h5 | h5
        · exact f3 i hi (.inl (h3 i h5).1)
        · have := f1.lt i hi; omega
      · exact f3 i hi (.inr hk)
    · rcases hi with (hi | hi) | hi
      · exact Nat.lt_of_lt_of_le (hl i hi) o.size
      · exact (hR.low i hi).2
      · exact Nat.lt_of_lt_of_le (hJl i hi) o.size
    · exact j2.keep (keep_of_only (L := J) o fun i hi => ⟨hJl i hi, fun hh => (j3 i hi).2 (h3 i hh).1⟩) fun i hi => hi
    · rcases hk with hk | hk
      · exact (j3 i hi).2 hk
      · rcases hH i hk with h5 | h5
        · exact (j3 i hi).2 (h3 i h5).1
        · have := hJl i hi; omega
  · rcases hH i hg with h5 | h5
    · exact (h4 i hi).2 h5
    · have := hl i (h4 i hi).1; omega
theorem OM.below (h : OM w0 w a b j d e x L) : Below w0.heap.size w0 w := by
  obtain ⟨K, G, h1, _⟩ := h
  exact h1.live.below
theorem JJ.append (h : JJ w0 w a b j k d e x y L) (ht : Tbs w0) (hL : ∀ i, i < w0.heap.size → L i) {A : Option Addr} {c : Nat} {rs : List (List UInt8)} (hs : StrsAt w w0.heap.size A rs) (hn : x.n ≤ 1000) (hc : x.cnt ≤ 1000) (hrl : rs.length ≤ 20) (htot : total rs ≤ 6000)
    (hxl : x.rs.length ≤ 1000000) (hq : d.q = []) :
    Calls Tryz.prog 25 #[.pointer (some ⟨j, 0, none⟩), .slice A rs.length c] w fun r w' => r = .returned (.int .i64 (appendS d x rs).2.2) ∧ JJ w0 w' a b j k (appendS d x rs).1 e (appendS d x rs).2.1 y L ∧ Keep L w w' :=
  h.left fun K hK hKL => hK.append ht A c rs (hs.toIn fun i hi => hKL i (hL i hi)) hn hc (by omega) (by omega) hxl (by rw [hq]; exact Nat.zero_le _)
theorem JJ.rappend (h : JJ w0 w a b j k d e x y L) (hL : ∀ i, i < w0.heap.size → L i) {A : Option Addr} {c : Nat} {rs : List (List UInt8)} (hs : StrsAt w w0.heap.size A rs) (hn : y.n ≤ 1000) (hc : y.cnt ≤ 1000) (hrl : rs.length ≤ 20) (htot : total rs ≤ 6000)
    (hxl : y.rs.length ≤ 1000000) (hq : e.q = []) :
    Calls Tryz.prog 26 #[.pointer (some ⟨k, 0, none⟩), .slice A rs.length c] w fun r w' => r = .returned (.int .i64 (appendS e y rs).2.2) ∧ JJ w0 w' a b j k d (appendS e y rs).1 x (appendS e y rs).2.1 L ∧ Keep L w w' :=
  h.right fun H hH hHL hb => rappend_any w hH hb A c rs (hs.wide hb) (fun i s hi => by
    obtain ⟨g, off, h1, h2, h3⟩ := hs i s hi
    exact ⟨g, off, h1, h3, hHL g (hL g h2), by omega⟩) hn hc (by omega) (by omega) hxl (by rw [hq]; exact Nat.zero_le _)
theorem JJ.arm (h : JJ w0 w a b j k d e x y L) (p q r : Int) (hp : p ≤ 9223372036854775807) :
    Calls Tryz.prog 19 #[.pointer (some ⟨a, 0, none⟩), .int .i64 p, .int .i64 q, .int .i64 r] w fun z w' => z = .returned (.tuple #[]) ∧ JJ w0 w' a b j k (d.doArm p q r) e x y L ∧ Keep L w w' :=
  h.left fun _ hK _ => hK.lift fun _ hF => arm_any hF p q r hp
theorem JJ.rarm (h : JJ w0 w a b j k d e x y L) (p q r : Int) (hp : p ≤ 9223372036854775807) :
    Calls Tryz.prog 20 #[.pointer (some ⟨b, 0, none⟩), .int .i64 p, .int .i64 q, .int .i64 r] w fun z w' => z = .returned (.tuple #[]) ∧ JJ w0 w' a b j k d (e.doArm p q r) x y L ∧ Keep L w w' :=
  h.right fun _ hH _ hb => hH.lift hb fun _ hG => rarmA hG p q r hp
theorem MM.rlift {P : Program} {f : FuncId} {args : Array Value} {v : Value} (h : MM w0 w a b d e L) (hc : ∀ G, RefAt w b e G → Calls P f args w fun r w' => r = .returned v ∧ RStp w w' b e' G) :
    Calls P f args w fun r w' => r = .returned v ∧ MM w0 w' a b d e' L ∧ Keep L w w' :=
  h.right fun G hG => (hc G hG).mono fun _ _ hr => ⟨hr.1, hr.2.post⟩
theorem MM.look (h : MM w0 w a b d e L) (s : Int) : Calls Tryz.prog 27 #[.pointer (some ⟨a, 0, none⟩), .int .i64 s] w fun r w' => r = .returned (.tuple #[.string (d.read s).1, .int .i64 (d.read s).2]) ∧ Below w.heap.size w w' := by
  obtain ⟨K, G, h1, _⟩ := h
  exact h1.look fun F hF => read_any hF s
theorem MM.rlook (h : MM w0 w a b d e L) (s : Int) : Calls Tryz.prog 28 #[.pointer (some ⟨b, 0, none⟩), .int .i64 s] w fun r w' => r = .returned (.tuple #[.string (e.read s).1, .int .i64 (e.read s).2]) ∧ Below w.heap.size w w' := by
  obtain ⟨K, G, _, h2, _⟩ := h
  exact rreadA h2 s
/-- Both or none. -/
def St (w0 w : World) (a b : Nat) (d : Dk) (jo : Option Jn) (pv kv : Value) (L : Foot) : Prop :=
  match jo with
  | none => pv = .pointer none ∧ kv = .pointer none ∧ MM w0 w a b d d L
  | some x => ∃ j k, pv = .pointer (some ⟨j, 0, none⟩) ∧ kv = .pointer (some ⟨k, 0, none⟩) ∧ JJ w0 w a b j k d d x x L
theorem St.mm {jo : Option Jn} {pv kv : Value} (h : St w0 w a b d jo pv kv L) : MM w0 w a b d d L := by
  cases jo with
  | none => exact h.2.2
  | some x =>
    obtain ⟨j, k, _, _, h⟩ := h
    exact h.mm
theorem St.same {jo : Option Jn} {pv kv : Value} (h : St w0 w a b d jo pv kv L) (hb : Below w.heap.size w w') : St w0 w' a b d jo pv kv L := by
  cases jo with
  | none => exact ⟨h.1, h.2.1, h.2.2.same hb⟩
  | some x =>
    obtain ⟨j, k, h1, h2, h⟩ := h
    exact ⟨j, k, h1, h2, h.same hb⟩
theorem MM.less (h : MM w0 w a b d e L) (hL : ∀ i, L' i → L i) : MM w0 w a b d e L' := by
  obtain ⟨K, G, h1, h2, h3, h4⟩ := h
  exact ⟨K, G, h1, h2, h3, fun i hi => h4 i (hL i hi)⟩
theorem JJ.less (h : JJ w0 w a b j k d e x y L) (hL : ∀ i, L' i → L i) : JJ w0 w a b j k d e x y L' := by
  obtain ⟨K, G, h1, h2, h3, h4⟩ := h
  exact ⟨K, G, h1, h2, h3, fun i hi => h4 i (hL i hi)⟩
theorem OM.less (h : OM w0 w a b j d e x L) (hL : ∀ i, L' i → L i) : OM w0 w a b j d e x L' := by
  obtain ⟨K, G, h1, h2, h3, h4⟩ := h
  exact ⟨K, G, h1, h2, h3, fun i hi => h4 i (hL i hi)⟩
theorem MM.of_new {n : Nat} (h : Live w0 w a d (fun i => i < w0.heap.size)) (hb : Below w.heap.size w w') (hD : RefAt w' b (Dk.new n) (fun i => w.heap.size ≤ i ∧ i < w'.heap.size)) : MM w0 w' a b d (Dk.new n) (fun i => i < w0.heap.size) := by
  have hs := h.below.size
  refine ⟨fun i => i < w0.heap.size ∨ (w.heap.size ≤ i ∧ i < w'.heap.size), _, h.more hb fun i hi => hi, hD, fun i hi => ⟨.inr hi, by omega⟩, fun i hi => ⟨.inl hi, fun hg => by omega⟩⟩
end
end Go.Proofs.YtieicjjmkedgaaaGreatDoor

/- Both journals or none: one contract for each operation of JournalMatchesReference. -/
namespace Go.Proofs.YtieicjjmkedgaaaGreatDoor
open Go.RowKit Go.Shelf

/-- Both or none, each on its disk. -/
def St2 (w0 w : World) (a b : Nat) (d e : Dk) (jo ko : Option Jn) (pv kv : Value) (L : Foot) : Prop :=
  match jo, ko with
  | none, none => pv = .pointer none ∧ kv = .pointer none ∧ MM w0 w a b d e L
  | some x, some y => ∃ j k, pv = .pointer (some ⟨j, 0, none⟩) ∧ kv = .pointer (some ⟨k, 0, none⟩) ∧ JJ w0 w a b j k d e x y L
  | _, _ => False
def appO (d : Dk) (jo : Option Jn) (rs : List (List UInt8)) : Dk × Option Jn × Int :=
  match jo with
  | none => (d, none, 1)
  | some x => ((appendS d x rs).1, some (appendS d x rs).2.1, (appendS d x rs).2.2)
theorem appO_iv {n i : Nat} {d : Dk} {jo : Option Jn} {rs : List (List UInt8)} (h : d.Ok) (hI : Iv n i d jo) (hr : rs.length ≤ 20) : Iv n (i + 1) (appO d jo rs).1 (appO d jo rs).2.1 := by
  cases jo with
  | none => exact hI.next
  | some x => exact append_iv h hI hr
/-- What Records and Room say. -/
def recO (jo : Option Jn) : List (List UInt8) := match jo with | none => [] | some x => x.rs
def roomO (jo : Option Jn) : Int := match jo with | none => 0 | some x => (x.n : Int) - 2 - x.cnt
/-- After the package's Open, before the reference's. -/
def JP (w0 wx : World) (a b : Nat) (d' d : Dk) (jo : Option Jn) (v11 v12 : Value) : Prop :=
  match jo with
  | none => v11 = .pointer none ∧ v12 = .slice none 0 0 ∧ MM w0 wx a b d' d (fun i => i < w0.heap.size)
  | some x => ∃ (j : Nat) (A : Option Addr) (c : Nat) (L : Foot), v11 = .pointer (some ⟨j, 0, none⟩) ∧ v12 = .slice A x.rs.length c ∧ OM w0 wx a b j d' d x L ∧ StrsIn wx L A x.rs ∧ ∀ i, i < w0.heap.size → L i
/-- After both. -/
def JO (w0 wx : World) (a b : Nat) (d : Dk) (jo : Option Jn) (v11 v12 v14 v15 : Value) : Prop := ∃ (A : Option Addr) (c : Nat) (A' : Option Addr) (c' : Nat), v12 = .slice A (recO jo).length c ∧ v15 = .slice A' (recO jo).length c' ∧
  StrsAt wx wx.heap.size A (recO jo) ∧ StrsAt wx wx.heap.size A' (recO jo) ∧ St2 w0 wx a b d d jo jo v11 v14 (fun i => i < w0.heap.size)
/-- The same, whatever was last returned. -/
def JN (w0 wx : World) (a b : Nat) (d : Dk) (jo : Option Jn) (v11 v12 v14 v15 : Value) : Prop := ∃ (A : Option Addr) (c : Nat) (A' : Option Addr) (c' : Nat) (X : List (List UInt8)), v12 = .slice A X.length c ∧ v15 = .slice A' X.length c' ∧
  StrsAt wx wx.heap.size A X ∧ StrsAt wx wx.heap.size A' X ∧ X.length ≤ 1000000 ∧ St2 w0 wx a b d d jo jo v11 v14 (fun i => i < w0.heap.size)
section
variable {w0 w w' : World} {a b : Nat} {d e : Dk} {jo ko : Option Jn} {pv kv v11 v12 : Value} {L L' : Foot} {n i : Nat} {cd : Int} {d' : Dk}
theorem MM.jp (M : MM w0 w a b d d (fun i => i < w0.heap.size)) (ht : Tbs w0) (hq : d.q = []) (he : openS d = (d', jo, cd)) :
    Calls Tryz.prog 8 #[.pointer (some ⟨a, 0, none⟩)] w fun r w' => ∃ v11 v12, r = .returned (.tuple #[v11, v12, .int .i64 cd]) ∧ JP w0 w' a b d' d jo v11 v12 := by
  cases jo with
  | none =>
    refine (M.open_none ht hq he).mono ?_
    rintro r w' ⟨hr, hM, _⟩
    exact ⟨_, _, hr, rfl, rfl, hM⟩
  | some x =>
    refine (M.open_some ht hq he).mono ?_
    rintro r w' ⟨j, A, c, L, hr, hO, hs, hL, _⟩
    exact ⟨_, _, hr, j, A, c, L, rfl, rfl, hO, hs, hL⟩
theorem JP.both (h : JP w0 w a b d' d jo v11 v12) (hq : d.q = []) (he : openS d = (d', jo, cd)) :
    Calls Tryz.prog 9 #[.pointer (some ⟨b, 0, none⟩)] w fun r w' => ∃ v14 v15, r = .returned (.tuple #[v14, v15, .int .i64 cd]) ∧ JO w0 w' a b d' jo v11 v12 v14 v15 := by
  cases jo with
  | none =>
    obtain ⟨rfl, rfl, M⟩ := h
    refine (M.ropen_none hq he).mono ?_
    rintro r w' ⟨hr, hM, _⟩
    exact ⟨_, _, hr, none, 0, none, 0, rfl, rfl, StrsAt.nil _ _ _, StrsAt.nil _ _ _, rfl, rfl, hM⟩
  | some x =>
    obtain ⟨j, A, c, L, rfl, rfl, O, hs, hL⟩ := h
    refine (O.ropen_some hq he).mono ?_
    rintro r w' ⟨k, A', c', hr, J, hs', hk⟩
    exact ⟨_, _, hr, A, c, A', c', rfl, rfl, (hs.keep hk).at J.mm.lt, hs', j, k, rfl, rfl, J.less hL⟩
theorem St2.mm (h : St2 w0 w a b d e jo ko pv kv L) : MM w0 w a b d e L := by
  match jo, ko, h with
  | none, none, h => exact h.2.2
  | some x, some y, h =>
    obtain ⟨j, k, _, _, h⟩ := h
    exact h.mm
theorem St2.more (h : St2 w0 w a b d e jo ko pv kv L) (hb : Below w.heap.size w w') (hL : ∀ i, L' i → L i ∨ (w.heap.size ≤ i ∧ i < w'.heap.size)) : St2 w0 w' a b d e jo ko pv kv L' := by
  match jo, ko, h with
  | none, none, h => exact ⟨h.1, h.2.1, h.2.2.more hb hL⟩
  | some x, some y, h =>
    obtain ⟨j, k, h1, h2, h⟩ := h
    exact ⟨j, k, h1, h2, h.more hb hL⟩
theorem St2.same (h : St2 w0 w a b d e jo ko pv kv L) (hb : Below w.heap.size w w') : St2 w0 w' a b d e jo ko pv kv L := h.more hb fun _ hi => .inl hi
theorem St2.less (h : St2 w0 w a b d e jo ko pv kv L) (hL : ∀ i, L' i → L i) : St2 w0 w a b d e jo ko pv kv L' := by
  match jo, ko, h with
  | none, none, h => exact ⟨h.1, h.2.1, h.2.2.less hL⟩
  | some x, some y, h =>
    obtain ⟨j, k, h1, h2, h⟩ := h
    exact ⟨j, k, h1, h2, h.less hL⟩
theorem St2.append (h : St2 w0 w a b d e jo ko pv kv L) (ht : Tbs w0) (hL : ∀ i, i < w0.heap.size → L i) {A : Option Addr} {c : Nat} {rs : List (List UInt8)} (hs : StrsAt w w0.heap.size A rs) (hI : Iv n i d jo) (hn : n ≤ 40) (hi : i ≤ 16) (hrl : rs.length ≤ 20) (htot : total rs ≤ 6000) :
    Calls Tryz.prog 25 #[pv, .slice A rs.length c] w fun r w' => r = .returned (.int .i64 (appO d jo rs).2.2) ∧ St2 w0 w' a b (appO d jo rs).1 e (appO d jo rs).2.1 ko pv kv L ∧ Keep L w w' := by
  match jo, ko, h, hI with
  | none, none, h, hI =>
    obtain ⟨rfl, rfl, M⟩ := h
    refine (append_nil w _).mono ?_
    rintro r w' ⟨hr, hb⟩
    exact ⟨hr, ⟨rfl, rfl, M.same hb⟩, Keep.of_below hb M.lt⟩
  | some x, some y, h, hI =>
    obtain ⟨j, k, rfl, rfl, J⟩ := h
    obtain ⟨hq, _, hx⟩ := hI
    obtain ⟨h3, h4, h5, h6⟩ := hx x rfl
    refine (J.append ht hL hs (by omega) (by omega) hrl htot (by omega) hq).mono ?_
    rintro r w' ⟨hr, hJ, hk⟩
    exact ⟨hr, ⟨j, k, rfl, rfl, hJ⟩, hk⟩
theorem St2.rappend (h : St2 w0 w a b d e jo ko pv kv L) (hL : ∀ i, i < w0.heap.size → L i) {A : Option Addr} {c : Nat} {rs : List (List UInt8)} (hs : StrsAt w w0.heap.size A rs) (hI : Iv n i e ko) (hn : n ≤ 40) (hi : i ≤ 16) (hrl : rs.length ≤ 20) (htot : total rs ≤ 6000) :
    Calls Tryz.prog 26 #[kv, .slice A rs.length c] w fun r w' => r = .returned (.int .i64 (appO e ko rs).2.2) ∧ St2 w0 w' a b d (appO e ko rs).1 jo (appO e ko rs).2.1 pv kv L ∧ Keep L w w' := by
  match jo, ko, h, hI with
  | none, none, h, hI =>
    obtain ⟨rfl, rfl, M⟩ := h
    refine (rappend_nil w _).mono ?_
    rintro r w' ⟨hr, hb⟩
    exact ⟨hr, ⟨rfl, rfl, M.same hb⟩, Keep.of_below hb M.lt⟩
  | some x, some y, h, hI =>
    obtain ⟨j, k, rfl, rfl, J⟩ := h
    obtain ⟨hq, _, hx⟩ := hI
    obtain ⟨h3, h4, h5, h6⟩ := hx y rfl
    refine (J.rappend hL hs (by omega) (by omega) hrl htot (by omega) hq).mono ?_
    rintro r w' ⟨hr, hJ, hk⟩
    exact ⟨hr, ⟨j, k, rfl, rfl, hJ⟩, hk⟩
theorem St2.arm (h : St2 w0 w a b d e jo ko pv kv L) (p q r : Int) (hp : p ≤ 9223372036854775807) :
    Calls Tryz.prog 19 #[.pointer (some ⟨a, 0, none⟩), .int .i64 p, .int .i64 q, .int .i64 r] w fun z w' => z = .returned (.tuple #[]) ∧ St2 w0 w' a b (d.doArm p q r) e jo ko pv kv L ∧ Keep L w w' := by
  match jo, ko, h with
  | none, none, h =>
    obtain ⟨rfl, rfl, M⟩ := h
    refine (M.left fun _ hF => arm_any hF p q r hp).mono ?_
    rintro z w' ⟨hr, hM, hk⟩
    exact ⟨hr, ⟨rfl, rfl, hM⟩, hk⟩
  | some x, some y, h =>
    obtain ⟨j, k, rfl, rfl, J⟩ := h
    refine (J.arm p q r hp).mono ?_
    rintro z w' ⟨hr, hJ, hk⟩
    exact ⟨hr, ⟨j, k, rfl, rfl, hJ⟩, hk⟩
theorem St2.rarm (h : St2 w0 w a b d e jo ko pv kv L) (p q r : Int) (hp : p ≤ 9223372036854775807) :
    Calls Tryz.prog 20 #[.pointer (some ⟨b, 0, none⟩), .int .i64 p, .int .i64 q, .int .i64 r] w fun z w' => z = .returned (.tuple #[]) ∧ St2 w0 w' a b d (e.doArm p q r) jo ko pv kv L ∧ Keep L w w' := by
  match jo, ko, h with
  | none, none, h =>
    obtain ⟨rfl, rfl, M⟩ := h
    refine (M.rlift fun _ hG => rarmA hG p q r hp).mono ?_
    rintro z w' ⟨hr, hM, hk⟩
    exact ⟨hr, ⟨rfl, rfl, hM⟩, hk⟩
  | some x, some y, h =>
    obtain ⟨j, k, rfl, rfl, J⟩ := h
    refine (J.rarm p q r hp).mono ?_
    rintro z w' ⟨hr, hJ, hk⟩
    exact ⟨hr, ⟨j, k, rfl, rfl, hJ⟩, hk⟩
theorem St2.records (h : St2 w0 w a b d e jo jo pv kv L) (hI : Iv n i d jo) (hn : n ≤ 40) (hi : i ≤ 16) :
    Calls Tryz.prog 11 #[pv] w fun r w' => ∃ A c, r = .returned (.slice A (recO jo).length c) ∧ StrsAt w' w'.heap.size A (recO jo) ∧ Below w.heap.size w w' := by
  cases jo with
  | none =>
    obtain ⟨rfl, rfl, M⟩ := h
    refine (records_nil w).mono ?_
    rintro r w' ⟨hr, hb⟩
    exact ⟨none, 0, hr, StrsAt.nil _ _ _, hb⟩
  | some x =>
    obtain ⟨j, k, rfl, rfl, K, H, hS, _⟩ := h
    obtain ⟨hq, _, hx⟩ := hI
    obtain ⟨h3, h4, h5, h6⟩ := hx x rfl
    refine (hS.records (by omega)).mono ?_
    rintro r w' ⟨v, hr, ho, hb⟩
    obtain ⟨A, c, rfl⟩ := ho.form
    exact ⟨A, c, hr, ho.strsAt, hb⟩
theorem St2.rrecords (h : St2 w0 w a b d e jo jo pv kv L) :
    Calls Tryz.prog 12 #[kv] w fun r w' => ∃ A c, r = .returned (.slice A (recO jo).length c) ∧ StrsAt w' w'.heap.size A (recO jo) ∧ Below w.heap.size w w' := by
  cases jo with
  | none =>
    obtain ⟨rfl, rfl, M⟩ := h
    refine (rrecords_nil w).mono ?_
    rintro r w' ⟨hr, hb⟩
    exact ⟨none, 0, hr, StrsAt.nil _ _ _, hb⟩
  | some x =>
    obtain ⟨j, k, rfl, rfl, K, H, _, hR, _⟩ := h
    refine (rrecords_any w hR).mono ?_
    rintro r w' ⟨v, hr, ho, hb⟩
    obtain ⟨A, c, rfl⟩ := ho.form
    exact ⟨A, c, hr, ho.strsAt, hb⟩
theorem St2.room (h : St2 w0 w a b d e jo jo pv kv L) (hI : Iv n i d jo) (hn : n ≤ 40) :
    Calls Tryz.prog 13 #[pv] w fun r w' => r = .returned (.int .i64 (roomO jo)) ∧ Below w.heap.size w w' := by
  cases jo with
  | none =>
    obtain ⟨rfl, rfl, M⟩ := h
    exact room_nil w
  | some x =>
    obtain ⟨j, k, rfl, rfl, K, H, hS, _⟩ := h
    obtain ⟨hq, _, hx⟩ := hI
    obtain ⟨h3, h4, h5, h6⟩ := hx x rfl
    exact hS.room (by omega) (by omega)
theorem St2.rroom (h : St2 w0 w a b d e jo jo pv kv L) (hI : Iv n i d jo) (hn : n ≤ 40) :
    Calls Tryz.prog 14 #[kv] w fun r w' => r = .returned (.int .i64 (roomO jo)) ∧ Below w.heap.size w w' := by
  cases jo with
  | none =>
    obtain ⟨rfl, rfl, M⟩ := h
    exact rroom_nil w
  | some x =>
    obtain ⟨j, k, rfl, rfl, K, H, _, hR, _⟩ := h
    obtain ⟨hq, _, hx⟩ := hI
    obtain ⟨h3, h4, h5, h6⟩ := hx x rfl
    refine (rroom_any w hR (by omega) (by omega)).mono ?_
    rintro r w' ⟨hr, q, rfl⟩
    exact ⟨hr, below_dN (Below.refl _ _) q⟩
/-- Both pointers are nil, or none is. -/
theorem St2.ptr (h : St2 w0 w a b d e jo jo pv kv L) : (pv = .pointer none ∧ kv = .pointer none) ∨ ∃ j k, pv = .pointer (some ⟨j, 0, none⟩) ∧ kv = .pointer (some ⟨k, 0, none⟩) := by
  cases jo with
  | none => exact .inl ⟨h.1, h.2.1⟩
  | some x =>
    obtain ⟨j, k, h1, h2, _⟩ := h
    exact .inr ⟨j, k, h1, h2⟩
theorem jo_nil (h : St2 w0 w a b d d jo jo pv kv (fun i => i < w0.heap.size)) : JN w0 w a b d jo pv (.slice none 0 0) kv (.slice none 0 0) := ⟨none, 0, none, 0, [], rfl, rfl, StrsAt.nil _ _ _, StrsAt.nil _ _ _, Nat.zero_le _, h⟩
theorem rec_len (hI : Iv n i d jo) (hn : n ≤ 40) (hi : i ≤ 16) : (recO jo).length ≤ 1000000 := by
  cases jo with
  | none => exact Nat.zero_le _
  | some x =>
    obtain ⟨hq, _, hx⟩ := hI
    obtain ⟨h3, h4, h5, h6⟩ := hx x rfl
    show x.rs.length ≤ 1000000
    omega
theorem JO.jn {v14 v15 : Value} (h : JO w0 w a b d jo v11 v12 v14 v15) (hI : Iv n i d jo) (hn : n ≤ 40) (hi : i ≤ 16) : JN w0 w a b d jo v11 v12 v14 v15 := by
  obtain ⟨A, c, A', c', h1, h2, h3, h4, h5⟩ := h
  exact ⟨A, c, A', c', recO jo, h1, h2, h3, h4, rec_len hI hn hi, h5⟩
end
end Go.Proofs.YtieicjjmkedgaaaGreatDoor

/- The five listed variables: what the rows' condition gives; a wrap that hands on the world's shape, too. -/
namespace Go.Proofs.YtieicjjmkedgaaaGreatDoor
open Go.RowKit Go.ChangeShapes

/-- The library's wrap with a condition on the world, the world's shape handed on. -/
theorem returns_and_shaped {H : Type} {enc : TypeId × Value → H} {a : Assume} {C : Checked} {os : Os} {f : FuncId} {fn : Func} {s : ChangeSpec} {conds : List PathCond} {apart fresh handsOn again : Bool} {X : World → Array Value → Prop}
    (hX : ∀ (w w' : World) (args : Array Value), w.heap = w'.heap → X w args → X w' args)
    (own : ownKnob C.prog.godebug = none) (started : os.Started) (noInit : C.prog.inits.idxOf? f = none) (hfn : C.prog.funcs[f]? = some fn)
    (witness : ∃ (w : World) (tape : Tape) (i : Input), w.os = os ∧ (w.forCall tape i).Shaped C.prog ∧ i.vars = [] ∧ Input.okWide C.prog (w.forCall tape i) .any w.heap.size f i ∧
      ((s.pre enc C.prog fn conds apart (w.forCall tape i).memory i.args ∧ X (w.forCall tape i).memory i.args) ∧ sizedMet enc C.prog fn (OpenSpec.ofChange s) apart (w.forCall tape i).memory i.args) ∧ a.holds C.prog (lone (Frame.enter C.prog f i.args .normal) [] (w.forCall tape i)))
    (contract : ∀ (W : World) (base : Nat) (args : Array Value) (ds gs : List (DataW H)) (before : List MemPlace),
      (∀ (j : Nat) t v, fn.params[j]? = some t → args[j]? = some v → Value.okWide C.prog W .any base t v) →
      DataW.Whole enc C.prog fn.params.toList s.vars apart W args.toList ds gs before → X W args → W.ShapedOpen C.prog →
      Calls C.prog f args W fun e W' => ∃ v, e = .returned v ∧ s.post enc C.prog fn apart fresh handsOn again W args v W') :
    ReturnsInHanded a C os f .any (fun w args => (s.pre enc C.prog fn conds apart w args ∧ X w args) ∧ sizedMet enc C.prog fn (OpenSpec.ofChange s) apart w args) (s.post enc C.prog fn apart fresh handsOn again) := by
  refine returnsInHanded_of_calls own started noInit witness ?_
  intro w tape i _ hsh _ hok hpre _
  obtain ⟨_, _, _, fn', hfn', _, _, _, _, hval⟩ := hok
  have e : fn' = fn := Option.some.inj (hfn'.symm.trans hfn)
  subst e
  obtain ⟨⟨⟨ds, gs, before, hw, _⟩, hx⟩, _⟩ := hpre
  have hw' := DataW.Whole.of_heap (w' := w.forCall tape i) (by rfl) hw
  refine (contract (w.forCall tape i) w.heap.size i.args ds gs before hval hw' (hX _ _ _ (by rfl) hx) hsh).mono fun e W' ⟨v, he, hp⟩ => ?_
  subst he
  exact ChangeSpec.post_blind hp

def laid5 : List (String × DataW Unit) := [("math/bits.deBruijn32tab", Rows.laid_math_bits_deBruijn32tab), ("math/bits.deBruijn64tab", Rows.laid_math_bits_deBruijn64tab), ("internal/strconv.uint64pow10", Rows.laid_internal_strconv_uint64pow10), ("strconv.ErrRange", Rows.laid_strconv_ErrRange), ("strconv.ErrSyntax", Rows.laid_strconv_ErrSyntax)]

theorem laid5_met (os : Os) (args : Array Value) : laidMetH Tryz.prog laid5 ((World.laidAll Tryz.prog os laid5).forCall (fun _ _ => 0) ⟨#[], args, []⟩).memory := by
  rw [MakeChecks.laidMetH_plain _ _ _ (by kernel_rfl)]
  exact laidMet_laidAll _ (by kernel_rfl) (by kernel_rfl)

/-- A listed variable of an interface's type holds an interface value. -/
theorem laid_iface {P : Program} {n : String} {le : DataW Unit} {r : List (String × DataW Unit)} {W : World} {g : Nat} {ti : TypeId} {ms : Array (String × TypeId)}
    (h : laidMet P ((n, le) :: r) W) (hg : P.globalNamed n = some g) (ht : (P.globals[g]?).map (·.type) = some ti) (hi : P.underlying ti = some (.interface ms)) :
    ∃ ev, W.cell? ⟨g, 0, none⟩ = some ev ∧ (ev = .nilIface ∨ ∃ te pe, ev = .iface te pe) := by
  obtain ⟨ps, ⟨g0, t0, cs0, f0, p0, q0, hg0, ht0, hv0, hd0, _, e0⟩, _, hrows⟩ := h
  obtain rfl := Option.some.inj (hg.symm.trans hg0)
  obtain rfl := Option.some.inj (ht.symm.trans ht0)
  have hc := World.var?_cell hg hv0 0
  cases f0 with
  | zero => simp [DataW.trod] at hd0
  | succ m =>
    obtain ⟨l0⟩ := cs0
    match l0, hd0, hc with
    | [], hd0, _ => simp [DataW.trod, hi] at hd0
    | [E], hd0, hc =>
      refine ⟨E, by simpa using hc, ?_⟩
      cases E with
      | nilIface => exact .inl rfl
      | iface u v => exact .inr ⟨u, v, rfl⟩
      | _ => simp [DataW.trod, hi] at hd0
    | E :: F :: r0, hd0, _ => simp [DataW.trod, hi] at hd0
theorem tabs_of {W : World} (h : laidMetH Tryz.prog laid5 W) (hs : W.ShapedOpen Tryz.prog) : Tbs W := by
  rw [MakeChecks.laidMetH_plain _ _ _ (by kernel_rfl)] at h
  refine ⟨Lib.tabIs_of_head (g := 3) (t := 155) (e := 123) (n := 20) (by kernel_rfl) (by kernel_rfl) (by kernel_rfl) (by kernel_rfl) (by kernel_rfl) (by kernel_rfl) (laidMet.tail (laidMet.tail h)),
    cell_of_shapedOpen_int (zero := #[.int .i64 0]) (t := 3) hs (of_decide_eq_true (by kernel_rfl)) (by kernel_rfl) rfl (by kernel_rfl) (by kernel_rfl) Tryz.underlying3, ?_, ?_⟩
  · exact laid_iface (laidMet.tail (laidMet.tail (laidMet.tail (laidMet.tail h)))) (by kernel_rfl) (by kernel_rfl) Tryz.underlying64
  · exact laid_iface (laidMet.tail (laidMet.tail (laidMet.tail h))) (by kernel_rfl) (by kernel_rfl) Tryz.underlying64
end Go.Proofs.YtieicjjmkedgaaaGreatDoor

/- JournalMatchesReference's walk. -/
namespace Go.Proofs.YtieicjjmkedgaaaGreatDoor
open Go.RowKit Go.Shelf

set_option maxRecDepth 100000 in
set_option maxHeartbeats 16000000 in
theorem jmatch_walk (w : World) (ht : Tbs w) (s : Int) (_ws : (Lit.int .i64 s).wf = true) (A : Option Addr) (c : Nat) (l : List OpJ) (h : OpsAt w w.heap.size A l) (hsm : ∀ o ∈ l, ∀ r ∈ o.list, r.length ≤ 140737488355328) :
    Calls Tryz.prog 3 #[.int .i64 s, .slice A l.length c] w fun e w' => e = .returned (.bool true) ∧ Below w.heap.size w w' := by
  have HO := Lib.hid h
  have HT := Lib.hid ht
  have HSM := Lib.hid hsm
  obtain ⟨i0, hi0, hz0, hz1, hz2⟩ := info_parts Tryz.infoStr
  clear h ht _ws hsm
  go_enter Tryz.func3, Tryz.ntmps3
  go_wp2_with fail
  refine (head_any w HT.out).mono ?_
  rintro e w1 ⟨rfl, b1⟩
  have HL := Lib.hid (light2_any w1 s A c l (HO.out.later b1) HSM.out)
  go_wp2_with fail
  refine HL.out.mono ?_
  rintro e w2 ⟨lt, rfl, hlt, b2⟩
  have hb2 := b1.trans (b2.mono b1.size)
  clear HL b1 b2 HSM
  cases lt with
  | false =>
    clear hlt
    go_wp2
    go_ret
    exact ⟨rfl, hb2⟩
  | true =>
    obtain ⟨h40, h16, h20⟩ := hlt rfl
    have HO2 := Lib.hid (HO.out.later hb2)
    have HTW := Lib.hid (HT.out.below hb2)
    have H20 := Lib.hid h20
    clear hlt h20 HO HT
    by_cases h1 : s < 1
    · have P := Lib.hid (new_no w2 s (.inl h1))
      have P2 := Lib.hid (rdisk_no w2 s h1)
      go_wp2_with fail
      refine P.out.mono ?_
      rintro e w3 ⟨rfl, rfl⟩
      go_wp2_with fail
      refine P2.out.mono ?_
      rintro e w4 ⟨rfl, b4⟩
      go_wp2_with fail
      refine (open_nil w4).mono ?_
      rintro e w5 ⟨rfl, rfl⟩
      clear P P2 h1
      go_wp2
      go_ret
      exact ⟨rfl, hb2.trans (b4.mono hb2.size)⟩
    obtain ⟨n, rfl⟩ := Int.eq_ofNat_of_zero_le (show 0 ≤ s by omega)
    have P := Lib.hid (new_yes w2 n (by omega) (by omega))
    go_wp2_with fail
    refine P.out.mono ?_
    rintro e w3 ⟨a, rfl, b3, ga, hD⟩
    have L3 : Live w2 w3 a (Dk.new n) (fun i => i < w2.heap.size) := (Live.of_new (Below.refl _ _) b3 hD).base.less fun _ hi => .inl hi
    have P2 := Lib.hid (rnew_yes w3 n (by omega) (by omega))
    clear P b3 ga hD
    go_wp2_with fail
    refine P2.out.mono ?_
    rintro e w4 ⟨b, rfl, b4, hD⟩
    have M4 := MM.of_new L3 b4 hD
    clear P2 b4 hD L3
    have hn40 : n ≤ 40 := by omega
    obtain ⟨⟨d1, jo, cd⟩, hop⟩ : ∃ r, openS (Dk.new n) = r := ⟨_, rfl⟩
    have hI := open_iv (i := 0) M4.ok rfl (show (Dk.new n).n = n from rfl)
    rw [hop] at hI
    have HOP := Lib.hid hop
    have PO := Lib.hid (M4.jp HTW.out rfl hop)
    have HI1 := Lib.hid hI
    clear hop M4 hI
    go_wp2_with (first | (go_at_call 8; refine PO.out.mono ?_; rintro r w7 ⟨v11, v12, rfl, J7⟩; have PR := Lib.hid (J7.both rfl HOP.out); clear J7 PO) | (go_at_call 9; refine PR.out.mono ?_; rintro r w8 ⟨v14, v15, rfl, J8⟩; have HJ8 := Lib.hid J8; clear J8 PR))
    go_loopw [11, 12, 13, 14, 15, 16, 17] (fun v11 v12 v13 v14 v15 v16 v17 wr => ∃ (i : Nat) (d : Dk) (jo : Option Jn) (cd : Int), i ≤ l.length ∧ v13 = .int .i64 cd ∧ v16 = .int .i64 cd ∧ v17 = .int .i64 (i : Int) ∧ Hid (Iv n i d jo) ∧ Hid (JN w2 wr a b d jo v11 v12 v14 v15)) (fun _ _ _ _ _ _ v _ => l.length + 1 - (intOf v).toNat)
    case atStart => exact ⟨0, d1, jo, cd, Nat.zero_le _, rfl, rfl, rfl, HI1, Lib.hid (HJ8.out.jn HI1.out hn40 (by omega))⟩
    case round =>
      clear HJ8 HI1 HOP
      obtain ⟨i, d, jo, cd, hil, rfl, rfl, rfl, HI, HJ⟩ := hrel
      obtain ⟨A1, c1, A2, c2, X, rfl, rfl, hs1, hs2, hX, hS⟩ := HJ.out
      have HS1 := Lib.hid hs1
      have HS2 := Lib.hid hs2
      have HST := Lib.hid hS
      have hli : (i : Int) ≤ (l.length : Int) := by omega
      have hrl := rec_len HI.out hn40 (by omega)
      obtain ⟨wq, rfl⟩ : ∃ q : World, q = wr := ⟨wr, rfl⟩
      clear hs1 hs2 hS HJ
      go_upto_region 14 with fail
      go_cut [106] from 76 to 107 (fun v wx => v = .bool false ∧ Below wq.heap.size wq wx)
      case first =>
        rcases HST.out.ptr with ⟨rfl, rfl⟩ | ⟨j, k, rfl, rfl⟩
        all_goals (have P1 := Lib.hid (same_yes wq A1 A2 c1 c2 X HS1.out HS2.out hX))
        all_goals (go_wp2_with (first | (go_at_call 10; refine P1.out.mono ?_; rintro r w5 ⟨rfl, b5⟩; have S5 := Lib.hid (HST.out.same b5); have B5 := Lib.hid b5; clear P1 b5) | (go_at_call 11; refine (S5.out.records HI.out hn40 (by omega)).mono ?_; rintro r w6 ⟨A3, c3, rfl, hs3, b6⟩; have S6 := Lib.hid (S5.out.same b6); have B6 := Lib.hid (B5.out.trans (b6.mono B5.out.size)); have HS3 := Lib.hid hs3; clear b6 S5 B5 hs3) | (go_at_call 12; refine S6.out.rrecords.mono ?_; rintro r w7 ⟨A4, c4, rfl, hs4, b7⟩; have S7 := Lib.hid (S6.out.same b7); have B7 := Lib.hid (B6.out.trans (b7.mono B6.out.size)); have P4 := Lib.hid (same_yes w7 A3 A4 c3 c4 _ ((HS3.out.below b7).wide b7.size) hs4 hrl); clear b7 S6 B6 hs4) | (go_at_call 10; refine P4.out.mono ?_; rintro r w8 ⟨rfl, b8⟩; have S8 := Lib.hid (S7.out.same b8); have B8 := Lib.hid (B7.out.trans (b8.mono B7.out.size)); clear b8 P4) | (go_at_call 13; refine (S8.out.room HI.out hn40).mono ?_; rintro r w9 ⟨rfl, b9⟩; have S9 := Lib.hid (S8.out.same b9); have B9 := Lib.hid (B8.out.trans (b9.mono B8.out.size)); clear b9) | (go_at_call 14; refine (S9.out.rroom HI.out hn40).mono ?_; rintro r w10 ⟨rfl, b10⟩; have B10 := Lib.hid (B9.out.trans (b10.mono B9.out.size)); clear b10)))
        all_goals go_meet
        all_goals exact ⟨rfl, B10.out⟩
      case rest =>
        obtain ⟨rfl, bc⟩ := hcut
        have S9 := HST.out.same bc
        have hqs := S9.mm.below
        have HS9 := Lib.hid S9
        clear HST HS1 HS2 S9 hrl bc
        by_cases hend : i = l.length
        · have hei : ((i : Int) == (l.length : Int)) = true := by rw [hend]; simp
          have M0 := Lib.hid HS9.out.mm
          clear HS9 hend hqs
          go_wp2_with (first | (go_at_call 15; refine (M0.out.left fun _ hF => fail_any hF 0 0).mono ?_; rintro r x1 ⟨rfl, m1, -⟩; have M1 := Lib.hid m1; clear m1) | (go_at_call 16; refine (M1.out.rlift fun _ hG => rfailA hG 0 0).mono ?_; rintro r x2 ⟨rfl, m2, -⟩; have M2 := Lib.hid m2; clear m2) | (go_at_call 17; refine (M2.out.left fun _ hF => startany hF).mono ?_; rintro r x3 ⟨rfl, m3, -⟩; have M3 := Lib.hid m3; clear m3) | (go_at_call 18; refine (M3.out.rlift fun _ hG => rstartA hG).mono ?_; rintro r x4 ⟨rfl, m4, -⟩; have M4 := Lib.hid m4; clear m4))
          obtain ⟨dN, hdN⟩ : ∃ q, (d.fail 0 0).start = q := ⟨_, rfl⟩
          rw [hdN] at M4
          clear hdN M0 M1 M2 M3
          go_loopw [19] (fun v wx => ∃ k : Nat, k ≤ n ∧ v = .int .i64 (k : Int) ∧ Hid (MM w2 wx a b dN dN (fun i => i < w2.heap.size))) (fun v _ => n - (intOf v).toNat)
          case atStart => exact ⟨0, Nat.zero_le _, rfl, M4⟩
          case round =>
            clear M4
            obtain ⟨k, hk, rfl, MR⟩ := hrel
            by_cases hkn : k < n
            · have hki : (k : Int) < (n : Int) := by omega
              have P5 := Lib.hid (MR.out.look (k : Int))
              have P6 := Lib.hid (fun W (hW : MM w2 W a b dN dN (fun i => i < w2.heap.size)) => hW.rlook (k : Int))
              obtain ⟨⟨T, tc⟩, hT⟩ : ∃ r, dN.read (k : Int) = r := ⟨_, rfl⟩
              rw [hT] at P5 P6
              clear hT
              have HKN := Lib.hid hkn
              clear hkn
              go_wp2_with (first | (go_at_call 27; refine P5.out.mono ?_; rintro r x5 ⟨rfl, b5⟩; have M5 := Lib.hid (MR.out.same b5); clear b5) | (go_at_call 28; refine (P6.out _ M5.out).mono ?_; rintro r x6 ⟨rfl, b6⟩; have M6 := Lib.hid (M5.out.same b6); clear b6))
              go_roundw
              case rel => exact ⟨k + 1, HKN.out, by go_num, M6⟩
              case measure => have := HKN.out; simp [intOf]; omega
            · have hki : ¬ (k : Int) < (n : Int) := by omega
              go_wp2_with fail
              go_ret
              exact ⟨rfl, hb2.trans (MR.out.below.mono hb2.size)⟩
        · have hilt : i < l.length := by omega
          have hei : ((i : Int) == (l.length : Int)) = false := by simp; omega
          obtain ⟨o, ho⟩ : ∃ o, l[i]? = some o := ⟨_, List.getElem?_eq_getElem hilt⟩
          have hom := List.mem_of_getElem? ho
          obtain ⟨g, off, rfl, hg, -⟩ := HO2.out.cell i o ho
          have hcells : ∀ W, Below w2.heap.size w2 W → ∀ (k : Nat) (v : Value), o.cells[k]? = some v → W.cell? ⟨g, off + i * 5 + k, none⟩ = some v := fun W hW => by
            obtain ⟨g', off', h1, h2, h3⟩ := (HO2.out.below hW).cell i o ho
            obtain ⟨rfl, rfl⟩ : g = g' ∧ off = off' := by simpa using h1
            exact h3
          have hst : ∀ W, Below w2.heap.size w2 W → StrsAt W w2.heap.size o.la o.list := fun W hW => ((HO2.out.below hW).strs o hom).1
          obtain ⟨h20, htt⟩ := H20.out o hom
          have hbd := HO2.out.bd o hom
          obtain ⟨kd, la, lc, ls, at_, wn, bn⟩ := o
          simp only at *
          have hi1 : (i : Int) < (l.length : Int) := by omega
          have hi0 : (0 : Int) ≤ (i : Int) := by omega
          have HC := Lib.hid hcells
          have HSTR := Lib.hid hst
          have HIL := Lib.hid hilt
          have f0 : wc.cell? ⟨g, off + i * 5, none⟩ = some (.int .i64 kd) := HC.out wc hqs 0 _ rfl
          have f1 : wc.cell? ⟨g, off + i * 5 + 1, none⟩ = some (.slice la ls.length lc) := HC.out wc hqs 1 _ rfl
          have f2 : wc.cell? ⟨g, off + i * 5 + 2, none⟩ = some (.int .i64 at_) := HC.out wc hqs 2 _ rfl
          have f3 : wc.cell? ⟨g, off + i * 5 + 3, none⟩ = some (.int .i64 wn) := HC.out wc hqs 3 _ rfl
          have f4 : wc.cell? ⟨g, off + i * 5 + 4, none⟩ = some (.int .i64 bn) := HC.out wc hqs 4 _ rfl
          clear hcells hst hom ho hilt hend
          go_upto_region 17 with fail
          go_upto_region 18 with fail
          obtain ⟨ob, hob⟩ : ∃ q, wc.heap.size = q := ⟨_, rfl⟩
          have KO := Lib.hid (Blk.new wc 41 #[.int .i64 kd, .slice la ls.length lc, .int .i64 at_, .int .i64 wn, .int .i64 bn])
          have S0 : Hid (St2 w2 (wc.alloc (.cells #[.int .i64 kd, .slice la ls.length lc, .int .i64 at_, .int .i64 wn, .int .i64 bn] 41)) a b d d jo jo u11 u14 (fun i => i < w2.heap.size ∨ i = ob)) := Lib.hid (HS9.out.more ((Below.refl _ wc).alloc (Nat.le_refl _) _) fun i hi => hi.imp id fun h => by rw [h, ← hob]; exact ⟨Nat.le_refl _, by simp⟩)
          rw [hob] at KO ⊢
          clear HS9 hob f0 f1 f2 f3 f4 hqs
          generalize wc.alloc (.cells #[.int .i64 kd, .slice la ls.length lc, .int .i64 at_, .int .i64 wn, .int .i64 bn] 41) = wo at *
          have hLb : Hid (∀ i, (fun i => i < w2.heap.size) i → (fun i => i < w2.heap.size ∨ i = ob) i) := Lib.hid fun i hi => .inl hi
          have hLo : Hid ((fun i => i < w2.heap.size ∨ i = ob) ob) := Lib.hid (.inr rfl)
          generalize (fun i => i < w2.heap.size ∨ i = ob) = L1 at *
          obtain ⟨z0, z1, z2⟩ := KO.out.all
          by_cases h1k : kd = 1
          · subst h1k
            have M0 := Lib.hid S0.out.mm
            go_upto_region 37 with (first | (go_at_call 15; refine (M0.out.left fun _ hF => fail_any hF wn bn).mono ?_; rintro r x1 ⟨rfl, m1, k1⟩; have M1 := Lib.hid m1; have KO1 := Lib.hid (KO.out.keep k1 hLo.out); clear z0 z1 z2 m1 k1; obtain ⟨z0, z1, z2⟩ := KO1.out.all) | (go_at_call 16; refine (M1.out.rlift fun _ hG => rfailA hG wn bn).mono ?_; rintro r x2 ⟨rfl, m2, k2⟩; have M2 := Lib.hid m2; have KO2 := Lib.hid (KO1.out.keep k2 hLo.out); clear z0 z1 z2 m2 k2; obtain ⟨z0, z1, z2⟩ := KO2.out.all) | (go_at_call 17; refine (M2.out.left fun _ hF => startany hF).mono ?_; rintro r x3 ⟨rfl, m3, k3⟩; have M3 := Lib.hid m3; have KO3 := Lib.hid (KO2.out.keep k3 hLo.out); clear z0 z1 z2 m3 k3; obtain ⟨z0, z1, z2⟩ := KO3.out.all) | (go_at_call 18; refine (M3.out.rlift fun _ hG => rstartA hG).mono ?_; rintro r x4 ⟨rfl, m4, k4⟩; have M4 := Lib.hid m4; have KO4 := Lib.hid (KO3.out.keep k4 hLo.out); clear z0 z1 z2 m4 k4; obtain ⟨z0, z1, z2⟩ := KO4.out.all))
            obtain ⟨hq, hn⟩ : ((d.fail wn bn).start).q = [] ∧ ((d.fail wn bn).start).n = n := ⟨fail_q0 HI.out.1 wn bn, (Dk.fail_n d wn bn).trans HI.out.2.1⟩
            obtain ⟨dN, hdN⟩ : ∃ q, (d.fail wn bn).start = q := ⟨_, rfl⟩
            rw [hdN] at hq hn
            replace M4 : Hid (MM w2 x4 a b dN dN L1) := Lib.hid (hdN ▸ M4.out)
            have HQ := Lib.hid hq
            have HN := Lib.hid hn
            clear hq hn hdN S0
            have hI := open_iv (i := i + 1) M4.out.ok HQ.out HN.out
            obtain ⟨⟨d1, jo1, cd1⟩, hop⟩ : ∃ r, openS dN = r := ⟨_, rfl⟩
            rw [hop] at hI
            have HOP := Lib.hid hop
            have HI1 := Lib.hid hI
            clear hop hI z0 z1 z2
            go_wp2_with (first | (go_at_call 8; refine ((M4.out.less hLb.out).jp HTW.out HQ.out HOP.out).mono ?_; rintro r y1 ⟨v11, v12, rfl, J7⟩; have HJ7 := Lib.hid J7; clear J7) | (go_at_call 9; refine (HJ7.out.both HQ.out HOP.out).mono ?_; rintro r y2 ⟨v14, v15, rfl, J8⟩; have HJ8 := Lib.hid J8; clear J8))
            go_roundw
            case rel => exact ⟨i + 1, d1, jo1, cd1, HIL.out, rfl, rfl, by go_num, HI1, Lib.hid (HJ8.out.jn HI1.out hn40 (by have := HIL.out; omega))⟩
            case measure => have := HIL.out; simp [intOf]; omega
          by_cases h2k : kd = 2
          · subst h2k
            go_wp2_with (first | (go_at_call 19; refine (S0.out.arm at_ wn bn hbd).mono ?_; rintro r x1 ⟨rfl, m1, k1⟩; have S1 := Lib.hid m1; have KO1 := Lib.hid (KO.out.keep k1 hLo.out); clear z0 z1 z2 m1 k1; obtain ⟨z0, z1, z2⟩ := KO1.out.all) | (go_at_call 20; refine (S1.out.rarm at_ wn bn hbd).mono ?_; rintro r x2 ⟨rfl, m2, k2⟩; have S2 := Lib.hid m2; clear z0 z1 z2 m2 k2))
            go_roundw
            case rel => exact ⟨i + 1, d.doArm at_ wn bn, jo, cd, HIL.out, rfl, rfl, by go_num, Lib.hid (HI.out.arm at_ wn bn), Lib.hid (jo_nil (S2.out.less hLb.out))⟩
            case measure => have := HIL.out; simp [intOf]; omega
          by_cases h3k : kd = 3
          · subst h3k
            have M0 := Lib.hid S0.out.mm
            go_upto_region 37 with (first | (go_at_call 21; refine (M0.out.left fun _ hF => rot_any hF at_ wn bn).mono ?_; rintro r x1 ⟨rfl, m1, k1⟩; have M1 := Lib.hid m1; have KO1 := Lib.hid (KO.out.keep k1 hLo.out); clear z0 z1 z2 m1 k1; obtain ⟨z0, z1, z2⟩ := KO1.out.all) | (go_at_call 22; refine (M1.out.rlift fun _ hG => rrotA hG at_ wn bn).mono ?_; rintro r x2 ⟨rfl, m2, k2⟩; have M2 := Lib.hid m2; have KO2 := Lib.hid (KO1.out.keep k2 hLo.out); clear z0 z1 z2 m2 k2; obtain ⟨z0, z1, z2⟩ := KO2.out.all))
            obtain ⟨hq, hn⟩ : (d.rot at_ wn bn).q = [] ∧ (d.rot at_ wn bn).n = n := ⟨(rot_qn d at_ wn bn).1.trans HI.out.1, (rot_qn d at_ wn bn).2.trans HI.out.2.1⟩
            obtain ⟨dN, hdN⟩ : ∃ q, d.rot at_ wn bn = q := ⟨_, rfl⟩
            rw [hdN] at hq hn
            replace M2 : Hid (MM w2 x2 a b dN dN L1) := Lib.hid (hdN ▸ M2.out)
            have HQ := Lib.hid hq
            have HN := Lib.hid hn
            clear hq hn hdN S0
            have hI := open_iv (i := i + 1) M2.out.ok HQ.out HN.out
            obtain ⟨⟨d1, jo1, cd1⟩, hop⟩ : ∃ r, openS dN = r := ⟨_, rfl⟩
            rw [hop] at hI
            have HOP := Lib.hid hop
            have HI1 := Lib.hid hI
            clear hop hI z0 z1 z2
            go_wp2_with (first | (go_at_call 8; refine ((M2.out.less hLb.out).jp HTW.out HQ.out HOP.out).mono ?_; rintro r y1 ⟨v11, v12, rfl, J7⟩; have HJ7 := Lib.hid J7; clear J7) | (go_at_call 9; refine (HJ7.out.both HQ.out HOP.out).mono ?_; rintro r y2 ⟨v14, v15, rfl, J8⟩; have HJ8 := Lib.hid J8; clear J8))
            go_roundw
            case rel => exact ⟨i + 1, d1, jo1, cd1, HIL.out, rfl, rfl, by go_num, HI1, Lib.hid (HJ8.out.jn HI1.out hn40 (by have := HIL.out; omega))⟩
            case measure => have := HIL.out; simp [intOf]; omega
          by_cases h4k : kd = 4
          · subst h4k
            have M0 := Lib.hid S0.out.mm
            go_upto_region 37 with (first | (go_at_call 23; refine (M0.out.left fun _ hF => stale_any hF at_).mono ?_; rintro r x1 ⟨rfl, m1, k1⟩; have M1 := Lib.hid m1; have KO1 := Lib.hid (KO.out.keep k1 hLo.out); clear z0 z1 z2 m1 k1; obtain ⟨z0, z1, z2⟩ := KO1.out.all) | (go_at_call 24; refine (M1.out.rlift fun _ hG => rstaleA hG at_).mono ?_; rintro r x2 ⟨rfl, m2, k2⟩; have M2 := Lib.hid m2; have KO2 := Lib.hid (KO1.out.keep k2 hLo.out); clear z0 z1 z2 m2 k2; obtain ⟨z0, z1, z2⟩ := KO2.out.all))
            obtain ⟨hq, hn⟩ : (d.stale at_).q = [] ∧ (d.stale at_).n = n := ⟨(stale_qn d at_).1.trans HI.out.1, (stale_qn d at_).2.trans HI.out.2.1⟩
            obtain ⟨dN, hdN⟩ : ∃ q, d.stale at_ = q := ⟨_, rfl⟩
            rw [hdN] at hq hn
            replace M2 : Hid (MM w2 x2 a b dN dN L1) := Lib.hid (hdN ▸ M2.out)
            have HQ := Lib.hid hq
            have HN := Lib.hid hn
            clear hq hn hdN S0
            have hI := open_iv (i := i + 1) M2.out.ok HQ.out HN.out
            obtain ⟨⟨d1, jo1, cd1⟩, hop⟩ : ∃ r, openS dN = r := ⟨_, rfl⟩
            rw [hop] at hI
            have HOP := Lib.hid hop
            have HI1 := Lib.hid hI
            clear hop hI z0 z1 z2
            go_wp2_with (first | (go_at_call 8; refine ((M2.out.less hLb.out).jp HTW.out HQ.out HOP.out).mono ?_; rintro r y1 ⟨v11, v12, rfl, J7⟩; have HJ7 := Lib.hid J7; clear J7) | (go_at_call 9; refine (HJ7.out.both HQ.out HOP.out).mono ?_; rintro r y2 ⟨v14, v15, rfl, J8⟩; have HJ8 := Lib.hid J8; clear J8))
            go_roundw
            case rel => exact ⟨i + 1, d1, jo1, cd1, HIL.out, rfl, rfl, by go_num, HI1, Lib.hid (HJ8.out.jn HI1.out hn40 (by have := HIL.out; omega))⟩
            case measure => have := HIL.out; simp [intOf]; omega
          have d1 : (kd == 1) = false := by simpa using h1k
          have d2 : (kd == 2) = false := by simpa using h2k
          have d3 : (kd == 3) = false := by simpa using h3k
          have d4 : (kd == 4) = false := by simpa using h4k
          clear h1k h2k h3k h4k
          have PA := Lib.hid (S0.out.append HTW.out hLb.out (HSTR.out wo S0.out.mm.below) HI.out hn40 (by omega) h20 htt (c := lc))
          obtain ⟨r5, hr5⟩ : ∃ r, appO d jo ls = r := ⟨_, rfl⟩
          have hI5 := appO_iv S0.out.mm.ok HI.out h20
          have HRA : Hid (∀ W, St2 w2 W a b r5.1 d r5.2.1 jo u11 u14 L1 → Calls Tryz.prog 26 #[u14, .slice la ls.length lc] W fun r w' => r = .returned (.int .i64 r5.2.2) ∧ St2 w2 w' a b r5.1 r5.1 r5.2.1 r5.2.1 u11 u14 L1 ∧ Keep L1 W w') := Lib.hid fun W hS => by
            have := hS.rappend hLb.out (HSTR.out W hS.mm.below) HI.out hn40 (by omega) h20 htt (c := lc)
            rwa [hr5] at this
          rw [hr5] at PA hI5
          have HI5 := Lib.hid hI5
          clear hr5 hI5 S0
          go_wp2_with (first | (go_at_call 25; refine PA.out.mono ?_; rintro r x1 ⟨rfl, m1, k1⟩; have S1 := Lib.hid m1; have KO1 := Lib.hid (KO.out.keep k1 hLo.out); clear z0 z1 z2 m1 k1 PA; obtain ⟨z0, z1, z2⟩ := KO1.out.all) | (go_at_call 26; refine (HRA.out _ S1.out).mono ?_; rintro r x2 ⟨rfl, m2, k2⟩; have S2 := Lib.hid m2; clear z0 z1 z2 m2 k2))
          go_roundw
          case rel => exact ⟨i + 1, r5.1, r5.2.1, r5.2.2, HIL.out, rfl, rfl, by go_num, HI5, Lib.hid (jo_nil (S2.out.less hLb.out))⟩
          case measure => have := HIL.out; simp [intOf]; omega
end Go.Proofs.YtieicjjmkedgaaaGreatDoor

/- What the claim's reach says of the records of an argument; a wrap that hands the reach on. -/
namespace Go.Proofs.YtieicjjmkedgaaaGreatDoor
open Go.RowKit Go.ChangeShapes Go.WideShapes Go.Deep

section
variable {H : Type} {P : Program}
theorem weightsAll_mem {e : TypeId} {n : Nat} : ∀ {l : List (DataW H)} {d : DataW H}, d ∈ l → n ∈ d.weights P e → n ∈ DataW.weightsAll P e l
  | x :: l, d, hd, hn => by
    simp only [DataW.weightsAll, List.mem_append]
    rcases List.mem_cons.1 hd with rfl | hd
    · exact .inl hn
    · exact .inr (weightsAll_mem hd hn)
theorem weights_elem {t e : TypeId} (ht : P.underlying t = some (.slice e)) {R len : Nat} {D : Nat → DataW H} {sp : List (DataW H)} (h : ∀ n ∈ (DataW.slice ((List.range len).map D) sp).weights P t, n ≤ R) {i : Nat} (hi : i < len) :
    ∀ n ∈ (D i).weights P e, n ≤ R := by
  intro n hn
  refine h n ?_
  simp only [DataW.weights, ht, List.mem_cons, List.mem_append]
  exact .inr (.inl (weightsAll_mem (List.mem_map.2 ⟨i, List.mem_range.2 hi, rfl⟩) hn))
theorem weights_field {e : TypeId} {fs : Array Field} (he : P.underlying e = some (.struct fs)) {R : Nat} {xs : List (DataW H)} (h : ∀ n ∈ (DataW.agg xs).weights P e, n ≤ R) {j : Nat} {f : Field} {d : DataW H} (hf : fs[j]? = some f) (hd : xs[j]? = some d) :
    ∀ n ∈ d.weights P f.type, n ≤ R := by
  intro n hn
  refine h n ?_
  simp only [DataW.weights, he]
  exact DataW.weights_mem_each (ts := fs.toList.map (·.type)) (j := j) (by simp [hf]) hd n hn
end

theorem strs_small {H : Type} {enc : TypeId × Value → H} {w : World} {base : Nat} {spare : Nat → Bool} {held : Bool} {fuel len cap R : Nat} {A : Option Addr} {x : DataW H × List MemPlace}
    (h : DataW.trod enc Tryz.prog w base spare held fuel 30 [.slice A len cap] = some x) (hw : ∀ n ∈ x.1.weights Tryz.prog 30, n ≤ R) {i g off : Nat} {s : ByteArray} (hi : i < len) (hA : A = some ⟨g, off, none⟩)
    (hc : w.cell? ⟨g, off + i, none⟩ = some (.string s)) : s.size ≤ R := by
  have ht := Tryz.underlying30
  have he := Tryz.underlying9
  have c1 : Tryz.prog.cellsOf 9 = 1 := by kernel_rfl
  rcases open_slice ht h with ⟨h0, _⟩ | ⟨a, len', cap', m, n, D, Pl, hcs, hb, hl, hm, hmm, rfl, hall⟩
  · injection h0 with h0
    injection h0 with _ h1 _
    omega
  · injection hcs with hcs _
    injection hcs with hA' hle hca
    subst hle hca
    obtain rfl : a = ⟨g, off, none⟩ := by rw [hA] at hA'; exact (Option.some.inj hA').symm
    obtain ⟨cs', hc', ht'⟩ := hall i (by rw [hmm]; split <;> omega)
    rw [c1, Nat.mul_one] at hc'
    obtain ⟨v, rfl, hx, _⟩ := DataW.trod_string he ht'
    obtain ⟨_, _, hat⟩ := World.cells?_some hc'
    have h1 := hat 0 (by omega)
    rw [add_of_add, Nat.add_zero] at h1
    have h2 : (⟨g, off, none⟩ : Addr).add i = ⟨g, off + i, none⟩ := spot_none (h1.trans rfl)
    rw [h2, hc] at h1
    obtain rfl : s = v := by simpa using h1
    have h3 := weights_elem ht hw hi s.size
    refine h3 ?_
    have : D i = .lit (.string s.data.toList) := (congrArg Prod.fst hx)
    rw [this]
    simp only [DataW.weights, List.mem_singleton]
    rfl
theorem ops_small {H : Type} {enc : TypeId × Value → H} {w : World} {base : Nat} {spare : Nat → Bool} {held : Bool} {cap R : Nat} {A : Option Addr} {l : List OpJ} {d : DataW H} {p : List MemPlace}
    (h : DataW.Trod enc Tryz.prog w base spare held 22 (.slice A l.length cap) d p) (hz : OpsAt w w.heap.size A l) (hw : ∀ n ∈ d.weights Tryz.prog 22, n ≤ R) : ∀ o ∈ l, ∀ r ∈ o.list, r.length ≤ R := by
  intro o ho r hr
  obtain ⟨i, hi⟩ := List.getElem?_of_mem ho
  obtain ⟨k, hk⟩ := List.getElem?_of_mem hr
  have hil : i < l.length := (List.getElem?_eq_some_iff.1 hi).1
  have hkl : k < o.list.length := (List.getElem?_eq_some_iff.1 hk).1
  obtain ⟨fuel, hf⟩ := h
  have ht := Tryz.underlying22
  obtain ⟨fs, he, hone, hfs, f1, hf1, hf1t⟩ : ∃ fs, Tryz.prog.underlying 41 = some (.struct fs) ∧ oneCellFields Tryz.prog fs = true ∧ fs.size = 5 ∧ ∃ f1, fs[1]? = some f1 ∧ f1.type = 30 := ⟨_, Tryz.underlying41, by kernel_rfl, rfl, _, rfl, rfl⟩
  have c5 : Tryz.prog.cellsOf 41 = 5 := by kernel_rfl
  rcases open_slice ht hf with ⟨h0, _⟩ | ⟨a, len', cap', m, n, D, Pl, hcs, hb, hl, hm, hmm, hx, hall⟩
  · injection h0 with h0
    injection h0 with _ h1 _
    omega
  · injection hcs with hcs _
    injection hcs with hA' hle hca
    obtain rfl : d = _ := congrArg Prod.fst hx
    obtain ⟨g, off, hA, hg, hcell⟩ := hz.cell i o hi
    obtain rfl : a = ⟨g, off, none⟩ := by rw [hA] at hA'; exact (Option.some.inj hA').symm
    obtain ⟨cs', hc, ht'⟩ := hall i (by rw [hmm]; split <;> omega)
    rw [c5] at hc
    obtain ⟨xs, n', _, hxe, hlen, hxl, hfld⟩ := DataW.trod_struct he ht'
    have hDi : D i = .agg (xs.map (·.1)) := congrArg Prod.fst hxe
    obtain ⟨_, hcl, hat⟩ := World.cells?_some hc
    have h1 := hat 1 (by omega)
    rw [Go.Deep.add_add] at h1
    rw [List.getElem?_eq_getElem (by omega)] at h1
    have h2 := spot_none h1
    rw [h2] at h1
    have h3 := hcell 1 _ rfl
    rw [show off + i * 5 + 1 = off + (i * 5 + 1) by omega] at h3
    simp only at h1
    rw [h3] at h1
    have h4 := hfld 1 f1 hf1
    obtain ⟨ho1, hk1⟩ := hone_of hone 1 f1 hf1
    rw [ho1, hk1, hf1t] at h4
    have h5 : (cs'.drop 1).take 1 = [cs'[1]'(by omega)] := by
      rw [List.drop_eq_getElem_cons (by omega)]
      rfl
    have h6 : xs[1]? = some (xs[1]'(by omega)) := List.getElem?_eq_getElem _
    rw [h6] at h4
    generalize xs[1]'(by omega) = y at h4 h6
    have h7 : DataW.trod enc Tryz.prog w base spare held n' 30 [.slice o.la o.list.length o.lc] = some y := by
      rw [← h4, Option.some.inj h1, ← h5]
    have hwi : ∀ n ∈ (DataW.agg (xs.map (·.1))).weights Tryz.prog 41, n ≤ R := by
      rw [← hDi]
      exact weights_elem ht hw (by omega)
    have hwy := weights_field he hwi (j := 1) (d := y.1) hf1 (by rw [List.getElem?_map, h6]; rfl)
    rw [hf1t] at hwy
    obtain ⟨g', off', hla, _, hcs'⟩ := (hz.strs o ho).1 k r hk
    have := strs_small h7 hwy hkl hla hcs'
    rwa [bs_size] at this

/-- The library's wrap with a condition on the world; the world's shape and the claim's reach handed on. -/
theorem returns_and_sized {H : Type} {enc : TypeId × Value → H} {a : Assume} {C : Checked} {os : Os} {f : FuncId} {fn : Func} {s : ChangeSpec} {conds : List PathCond} {apart fresh handsOn again : Bool} {X : World → Array Value → Prop}
    (hX : ∀ (w w' : World) (args : Array Value), w.heap = w'.heap → X w args → X w' args)
    (own : ownKnob C.prog.godebug = none) (started : os.Started) (noInit : C.prog.inits.idxOf? f = none) (hfn : C.prog.funcs[f]? = some fn)
    (witness : ∃ (w : World) (tape : Tape) (i : Input), w.os = os ∧ (w.forCall tape i).Shaped C.prog ∧ i.vars = [] ∧ Input.okWide C.prog (w.forCall tape i) .any w.heap.size f i ∧
      ((s.pre enc C.prog fn conds apart (w.forCall tape i).memory i.args ∧ X (w.forCall tape i).memory i.args) ∧ sizedMet enc C.prog fn (OpenSpec.ofChange s) apart (w.forCall tape i).memory i.args) ∧ a.holds C.prog (lone (Frame.enter C.prog f i.args .normal) [] (w.forCall tape i)))
    (contract : ∀ (W : World) (base : Nat) (args : Array Value) (ds gs : List (DataW H)) (before : List MemPlace),
      (∀ (j : Nat) t v, fn.params[j]? = some t → args[j]? = some v → Value.okWide C.prog W .any base t v) →
      DataW.Whole enc C.prog fn.params.toList s.vars apart W args.toList ds gs before → X W args → W.ShapedOpen C.prog →
      (DataW.weightsEach C.prog (fn.params.toList ++ (OpenSpec.ofChange s).bare.plain.varTypes C.prog) (ds ++ gs)).all (· ≤ reachBytes) = true →
      Calls C.prog f args W fun e W' => ∃ v, e = .returned v ∧ s.post enc C.prog fn apart fresh handsOn again W args v W') :
    ReturnsInHanded a C os f .any (fun w args => (s.pre enc C.prog fn conds apart w args ∧ X w args) ∧ sizedMet enc C.prog fn (OpenSpec.ofChange s) apart w args) (s.post enc C.prog fn apart fresh handsOn again) := by
  refine returnsInHanded_of_calls own started noInit witness ?_
  intro w tape i _ hsh _ hok hpre _
  obtain ⟨_, _, _, fn', hfn', _, _, _, _, hval⟩ := hok
  have e : fn' = fn := Option.some.inj (hfn'.symm.trans hfn)
  subst e
  obtain ⟨⟨⟨ds, gs, before, hw, _⟩, hx⟩, hz⟩ := hpre
  have hzw := hz.weights hw
  have hw' := DataW.Whole.of_heap (w' := w.forCall tape i) (by rfl) hw
  refine (contract (w.forCall tape i) w.heap.size i.args ds gs before hval hw' (hX _ _ _ (by rfl) hx) hsh hzw).mono fun e W' ⟨v, he, hp⟩ => ?_
  subst he
  exact ChangeSpec.post_blind hp
end Go.Proofs.YtieicjjmkedgaaaGreatDoor
