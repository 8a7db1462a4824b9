/- Names: package matter's name. -/
import Derived.Test.YtgfahifdmacmhaaGreatDoorQf
import Derived.Test.YtgfahifdmacmhaaGreatDoorTy
namespace Go.Proofs.YtgfahifdmacmhaaGreatDoor
open Go.RowKit Go.Shelf

set_option maxRecDepth 100000 in
set_option maxHeartbeats 4000000 in
theorem mname_any (w : World) (s : ByteArray) (hs : s.size ≤ 9223372036854775807) : Calls Tryz.prog 52 #[.string s] w fun e w' => e = .returned (.bool (nameB s)) ∧ Below w.heap.size w w' := by
  obtain ⟨L, rfl⟩ : ∃ L, s = bs L := ⟨s.data.toList, (of_bs s).symm⟩
  have hl : L.length ≤ 9223372036854775807 := by rw [bs_size] at hs; exact hs
  have hlex := fun W => lex_any W L hl
  have hnm : nameB (bs L) = nmB L := rfl
  rw [hnm]
  obtain ⟨r, hr⟩ : ∃ r, nmB L = r := ⟨_, rfl⟩
  rw [hr]
  have HR := Lib.hid hr
  have HLEX := Lib.hid hlex
  clear hlex hs hl hnm hr
  go_enter Tryz.func52, Tryz.ntmps52
  go_wp2_with fail
  refine (HLEX.out _).mono ?_
  rintro e w1 ⟨b1, (⟨hn, g, c, rfl, c0, c1⟩ | ⟨hn, A, n, c, er, p, rfl, hq⟩)⟩
  · obtain rfl : true = r := hn.symm.trans HR.out
    clear HLEX HR hn
    go_wp2
    go_ret
    exact ⟨rfl, b1⟩
  · obtain rfl : false = r := hn.symm.trans HR.out
    have HQ := Lib.hid hq
    clear HLEX HR hn hq
    by_cases h0 : er = 0
    · have e0 : (er == 0) = true := by simpa using h0
      by_cases h1 : n = 1
      · obtain ⟨g, kd, tx, rfl, c0, c1, hk⟩ := HQ.out h0 h1
        have HK := Lib.hid hk
        subst h1
        clear h0 HQ hk
        by_cases hk1 : kd = 1
        · have e1 : (kd == 1) = true := by simpa using hk1
          have ht := HK.out hk1
          obtain ⟨T, rfl⟩ : ∃ T, tx = bs T := ⟨tx.data.toList, (of_bs tx).symm⟩
          have e2 := beq_bs (fun h => ht (by rw [h]) : T ≠ L)
          clear hk1 ht HK
          go_wp2
          go_ret
          exact ⟨rfl, b1⟩
        · have e1 : (kd == 1) = false := by simpa using hk1
          clear hk1 HK
          go_wp2
          go_ret
          exact ⟨rfl, b1⟩
      · have e1 : ((n : Int) == 1) = false := by simp; omega
        clear h0 h1 HQ
        go_wp2
        go_ret
        exact ⟨rfl, b1⟩
    · have e0 : (er == 0) = false := by simpa using h0
      clear h0 HQ
      go_wp2
      go_ret
      exact ⟨rfl, b1⟩
end Go.Proofs.YtgfahifdmacmhaaGreatDoor
