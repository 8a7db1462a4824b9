/- What Read, Stale, Rot and New of the reference do. -/
import Derived.Test.YtahkahmkoibmhaaSd
namespace Go.Proofs.Ytahkahmkoibmhaa
open Go.RowKit

section
variable {w w' : World} {m g1 g2 c1 c2 : Nat} {qv : Value} {b : Bool} {x y z : Int} {d d' : Dk} {F G : Foot}

theorem lastOf_take {q : List (Nat × ByteArray)} {k : Nat} {p : Nat × ByteArray} (h : q[k]? = some p) (i : Nat) : lastOf (q.take (k + 1)) i = if p.1 = i then some p.2 else lastOf (q.take k) i := by
  obtain ⟨hk, rfl⟩ := List.getElem?_eq_some_iff.1 h
  rw [List.take_succ_eq_append_getElem hk, lastOf_snoc]

set_option maxHeartbeats 800000 in
theorem rread_any (h : RefAt' w m g1 g2 c1 c2 qv b x y z d F) (s : Int) :
    Calls Try.prog 18 #[.pointer (some ⟨m, 0, none⟩), .int .i64 s] w fun e w' => e = .returned (.tuple #[.string (d.read s).1, .int .i64 (d.read s).2]) ∧ w = w' := by
  obtain ⟨k0, f0, hlt⟩ := h.main.all
  have hn := h.ok.n2
  cases ho : d.off with
  | true =>
    have e : d.read s = (ByteArray.empty, 25) := by unfold Dk.read; rw [ho]; rfl
    rw [e]
    simp only [ho] at k0
    clear ho e
    go_enter Try.func18, Try.ntmps18
    go_wp2
    go_ret2
    exact ⟨rfl, rfl⟩
  | false =>
    simp only [ho] at k0
    have HO := Lib.hid ho
    by_cases h0 : s < 0
    · have e : d.read s = (ByteArray.empty, 1) := by unfold Dk.read; rw [ho]; simp [Dk.has, show ¬ 0 ≤ s by omega]
      rw [e]
      clear ho e
      go_enter Try.func18, Try.ntmps18
      go_wp2
      go_ret2
      exact ⟨rfl, rfl⟩
    · by_cases h1 : (d.n : Int) ≤ s
      · have e : d.read s = (ByteArray.empty, 1) := by unfold Dk.read; rw [ho]; simp [Dk.has, show ¬ s < d.n by omega]
        rw [e]
        clear ho e
        go_enter Try.func18, Try.ntmps18
        go_wp2
        go_ret2
        exact ⟨rfl, rfl⟩
      · obtain ⟨i, rfl⟩ := Int.eq_ofNat_of_zero_le (show 0 ≤ s by omega)
        have hi : i < d.n := by omega
        have hh : d.has (i : Int) = true := by simp [Dk.has]; omega
        have e : d.read (i : Int) = ((lastOf d.q i).getD (d.secB i), 0) := by unfold Dk.read; rw [ho, hh]; simp; rfl
        rw [e]
        have hql := h.qlen
        have s1 := h.st.cellAt i (by omega)
        rw [str_at (Dk.stS_at d hi)] at s1
        obtain ⟨A, c, hqv⟩ := h.form
        have hRq := h.q
        rw [hqv] at k0 hRq
        clear ho e hh hqv
        generalize d.secB i = sb at *
        have hiI : (i : Int) < d.n := by omega
        go_enter Try.func18, Try.ntmps18
        go_wp2_with fail
        go_loop [6, 7] (fun v u => ∃ k : Nat, k ≤ d.q.length ∧ u = .int .i64 (k : Int) ∧ v = .string ((lastOf (d.q.take k) i).getD sb)) (fun _ u => d.q.length - (intOf u).toNat)
        case atStart => exact ⟨0, Nat.zero_le _, rfl, rfl⟩
        case round =>
          obtain ⟨k, hk, rfl, rfl⟩ := hrel
          by_cases hlt2 : k < d.q.length
          · obtain ⟨p, hp⟩ : ∃ p, d.q[k]? = some p := ⟨_, List.getElem?_eq_getElem hlt2⟩
            obtain ⟨r1, r2⟩ := rcells_at d.q hp
            have hla := lastOf_take hp i
            obtain ⟨g, hA⟩ : ∃ g, A = some ⟨g, 0, none⟩ := by
              rcases hRq.2 with ⟨h0, _⟩ | ⟨g, cap, cur, hv, _⟩
              · injection h0 with _ h0 _; omega
              · injection hv with hv; exact ⟨g, hv⟩
            subst hA
            have a1 := hRq.cellAt (k * 2) (by omega)
            have a2 := hRq.cellAt (k * 2 + 1) (by omega)
            rw [r1] at a1
            rw [r2] at a2
            obtain ⟨u, t⟩ := p
            simp only at a1 a2 hla
            have HLA := Lib.hid hla
            generalize lastOf (d.q.take k) i = L at *
            clear r1 r2 hla hp
            by_cases hu : u = i
            · have hub : ((u : Int) == (i : Int)) = true := by simp [hu]
              have HU := Lib.hid hu
              clear hu
              go_wp2
              go_round
              case rel => exact ⟨k + 1, by omega, by go_num, by rw [HLA.out, if_pos HU.out]; rfl⟩
              case measure => simp [intOf]; omega
            · have hub : ((u : Int) == (i : Int)) = false := by rw [beq_eq_false_iff_ne]; omega
              have HU := Lib.hid hu
              clear hu
              go_wp2
              go_round
              case rel => exact ⟨k + 1, by omega, by go_num, by rw [HLA.out, if_neg HU.out]⟩
              case measure => simp [intOf]; omega
          · obtain rfl : k = d.q.length := by omega
            go_wp2
            go_ret2
            exact ⟨rfl, rfl⟩

set_option maxHeartbeats 800000 in
theorem rstale_any (h : RefAt' w m g1 g2 c1 c2 qv b x y z d F) (s : Int) : Calls Try.prog 38 #[.pointer (some ⟨m, 0, none⟩), .int .i64 s] w fun e w' =>
    e = .returned (.tuple #[]) ∧ Only F w w' ∧ RefAt w' m (d.stale s) F := by
  obtain ⟨k0, f0, hlt⟩ := h.main.all
  have hn := h.ok.n2
  by_cases h0 : s < 0
  · have e : d.stale s = d := by unfold Dk.stale; rw [if_neg]; simp [Dk.has]; omega
    rw [e]
    go_enter Try.func38, Try.ntmps38
    go_wp2
    go_end0
    exact ⟨rfl, Only.refl _ _, h.ref⟩
  · by_cases h1 : (d.n : Int) ≤ s
    · have e : d.stale s = d := by unfold Dk.stale; rw [if_neg]; simp [Dk.has]; omega
      rw [e]
      go_enter Try.func38, Try.ntmps38
      go_wp2
      go_end0
      exact ⟨rfl, Only.refl _ _, h.ref⟩
    · obtain ⟨i, rfl⟩ := Int.eq_ofNat_of_zero_le (show 0 ≤ s by omega)
      have hi : i < d.n := by omega
      have hsec := Dk.stale_sectors h.ok hi
      have hsm := Dk.stale_same d (i : Int)
      have s1 := h.st.cellAt i (by omega)
      rw [str_at (Dk.stS_at d hi)] at s1
      have s2 := h.el.cellAt i (by omega)
      rw [str_at (Dk.elS_at d hi)] at s2
      have z1 := h.st.frozenAt i
      have hne := h.ne
      have hg1m := own_ne_blk h.st h.main (by decide)
      have HSEC := Lib.hid hsec
      have r1 := (h.st.stored i (.string (d.elB i))).1
      have hok' : (d.stale (i : Int)).Ok := by
        have hl : ((d.el.drop (64 * i)).take 64).length = 64 := by rw [List.length_take, List.length_drop, h.ok.el]; omega
        unfold Dk.stale
        split
        · exact ⟨h.ok.n1, h.ok.n2, by
            show (splice _ _ _).length = 64 * d.n
            rw [length_splice _ _ _ (by rw [h.ok.st]; simp [h.ok.el]; omega)]; exact h.ok.st, h.ok.el, h.ok.q, h.ok.arm⟩
        · exact h.ok
      have harm : (d.stale (i : Int)).arm = d.arm := by unfold Dk.stale; split <;> rfl
      generalize d.secB i = sb at *
      generalize d.elB i = eb at *
      have hiI : (i : Int) < d.n := by omega
      have HSM := Lib.hid hsm
      have HARM := Lib.hid harm
      clear hsec hsm harm
      go_enter Try.func38, Try.ntmps38
      go_wp2
      refine wp_region_tail 12 (by kernel_rfl) (by kernel_rfl) ?_
      simp only [List.take_succ_cons, List.take_zero, List.drop_succ_cons, List.drop_zero]
      repeat still_step
      refine wpStill_nil ?_
      go_wp2
      go_end0
      have O1 : Only (fun k => k = g1) w (w.setCell ⟨g1, i, none⟩ (.string eb)) := (Only.refl (fun k => k = g1) w).setCell (p := ⟨g1, i, none⟩) (.inl rfl) _
      have r2 := O1.owns h.el (fun g hg e => by injection hg with hg; exact hne (e.symm.trans hg.symm))
      have e1 : Only (fun k => k = g1 ∨ k = g2) w ((w.setCell ⟨g1, i, none⟩ (.string eb)).drew) := (O1.mono (fun k hk => .inl hk)).drew
      refine ⟨rfl, e1.mono (by rintro k (rfl | rfl); exact h.f1; exact h.f2), _, _, _, _, _, _, _, _, _, h.upd e1 hok' ?_ ?_ HSM.out.1 HSM.out.2.1 HSM.out.2.2.1 HARM.out⟩
      · rw [HSEC.out.1, List.map_set]
        exact r1.drew
      · rw [HSEC.out.2]
        exact r2.drew

def zeros (k : Nat) : ByteArray := ⟨(List.replicate k 0).toArray⟩
theorem zero_succ (k : Nat) : zeros k ++ ⟨#[0]⟩ = zeros (k + 1) := by
  apply ba_ext
  simp [zeros, ByteArray.data_append, List.replicate_succ']
theorem zeros_size (k : Nat) : (zeros k).size = k := by simp [zeros, ByteArray.size]

set_option maxHeartbeats 800000 in
theorem rzero (w : World) : Calls Try.prog 31 #[.int .i64 64] w fun e w' => e = .returned (.string zero64) ∧ w = w' := by
  go_enter Try.func31, Try.ntmps31
  go_wp2_with fail
  go_loop [3, 4] (fun v u => ∃ k : Nat, k ≤ 64 ∧ u = .int .i64 (k : Int) ∧ v = .string (zeros k)) (fun _ u => 64 - (intOf u).toNat)
  case atStart => exact ⟨0, Nat.zero_le _, rfl, rfl⟩
  case round =>
    obtain ⟨k, hk, rfl, rfl⟩ := hrel
    by_cases hlt : k < 64
    · have had : ∀ W : World, (Op.stringOp .add (zeros k) ⟨#[0]⟩).run Try.prog W = .ok (.string (zeros (k + 1))) W := fun W => by
        rw [run_string_add_sum W _ _ (by rw [zeros_size]; simp [ByteArray.size]; omega), zero_succ]
      have hkI : (k : Int) < 64 := by omega
      go_wp2
      go_round
      case rel => exact ⟨k + 1, by omega, by go_num, rfl⟩
      case measure => simp [intOf]; omega
    · obtain rfl : k = 64 := by omega
      go_wp2
      go_ret
      exact ⟨rfl, rfl⟩
end
end Go.Proofs.Ytahkahmkoibmhaa
