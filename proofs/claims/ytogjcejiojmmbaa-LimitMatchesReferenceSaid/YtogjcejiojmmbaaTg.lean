/- The walk of Due. -/
import Derived.Test.YtogjcejiojmmbaaTf
namespace Go.Proofs.Ytogjcejiojmmbaa
open Go.RowKit Go.Shelf

/-- A limit in memory: its stops can be read; its sizes are those of Go's. -/
def LmAt (w : World) (B : Nat) (A : Option Addr) (L : Lm) : Prop := StopsAt w B A L.S ∧ L.id.size ≤ 9223372036854775807 ∧ L.S.length ≤ 9223372036854775807
theorem LmAt.below {w w' : World} {B : Nat} {A : Option Addr} {L : Lm} (h : LmAt w B A L) (hb : Below B w w') : LmAt w' B A L := ⟨h.1.below hb, h.2⟩

set_option maxHeartbeats 2000000 in
theorem due_any (w : World) (L : Lm) (B : Nat) (A : Option Addr) (c : Nat) (h : LmAt w B A L) (hB : B ≤ w.heap.size) (C : Option Addr) (l : List Int) (cl : Nat) (hA : IntsAt w B C l) (hll : l.length ≤ 4611686018427387904) (hw : ∀ x ∈ l, wf64 x) :
    Calls Try.prog 13 #[.agg (L.cells A c), .slice C l.length cl] w fun e w' => e = .returned (.tuple #[.int .i64 (dueS L l).1, .int .i64 (dueS L l).2]) ∧ Below w.heap.size w w' := by
  obtain ⟨hs, hid, hsl⟩ := h
  obtain ⟨r1, r2, hr⟩ : ∃ r1 r2, dueS L l = (r1, r2) := ⟨_, _, rfl⟩
  rw [hr]
  obtain ⟨id, n, u, f, S⟩ := L
  show Calls Try.prog 13 #[.agg #[.string id, .int .i64 n, .int .i64 u, .int .i64 f, .slice A S.length c], .slice C l.length cl] w _
  have hb := (Below.refl w.heap.size w).alloc (Nat.le_refl _) (.cells #[.string id, .int .i64 n, .int .i64 u, .int .i64 f, .slice A S.length c] 26)
  have k0 := Blk.new w 26 #[.string id, .int .i64 n, .int .i64 u, .int .i64 f, .slice A S.length c]
  have hs1 := hs.below (hb.mono hB)
  have hA1 := hA.below (hb.mono hB)
  have hB1 : B ≤ (w.alloc (.cells #[.string id, .int .i64 n, .int .i64 u, .int .i64 f, .slice A S.length c] 26)).heap.size := Nat.le_trans hB hb.size
  have hpr := proper_any (w.alloc (.cells #[.string id, .int .i64 n, .int .i64 u, .int .i64 f, .slice A S.length c] 26)) ⟨id, n, u, f, S⟩ B A c hs1 hB1 hid hsl
  have HPR := Lib.hid hpr
  have HW := Lib.hid hw
  have HA := Lib.hid hA
  have HS := Lib.hid hs
  have HR := Lib.hid hr
  clear hpr hw hA hA1 hs hs1 hr hB1
  obtain ⟨t0, t1, -⟩ := k0.all
  cases hp : prB ⟨id, n, u, f, S⟩ with
  | false =>
    have h2 := HPR.out
    rw [hp] at h2
    have h3 := HR.out
    unfold dueS at h3
    rw [hp, if_neg (by simp)] at h3
    injection h3 with h3 h4
    subst h3 h4
    have H2 := Lib.hid h2
    clear h2 hp HPR HR
    go_enter Try.func13, Try.ntmps13
    go_wp2_with fail
    refine H2.out.mono ?_
    rintro e w2 ⟨rfl, b⟩
    replace hb := hb.trans (b.mono hb.size)
    clear b t0 t1
    go_wp2
    go_ret2
    exact ⟨rfl, hb⟩
  | true =>
    have h2 := HPR.out
    rw [hp] at h2
    have h3 := HR.out
    unfold dueS at h3
    rw [hp, if_pos rfl] at h3
    obtain ⟨-, hf, -, hl60, hS⟩ := prB_iff.1 hp
    obtain ⟨f0, f1⟩ := (isB_iff f).1 hf
    obtain ⟨a1, a2, ha⟩ : ∃ a1 a2, addS l f n u = (a1, a2) := ⟨_, _, rfl⟩
    simp only at h3 hS hl60
    rw [ha] at h3
    have HP := Lib.hid hp
    have H2 := Lib.hid h2
    have HADD := Lib.hid ha
    have HSS := Lib.hid hS
    clear h2 hp HPR HR hf ha hS
    have kk := k0
    have bb := hb
    clear k0 hb
    go_enter Try.func13, Try.ntmps13
    go_wp2_with fail
    refine H2.out.mono ?_
    rintro e w2 ⟨rfl, b⟩
    have k2 := kk.below b kk.lt
    replace bb := bb.trans (b.mono bb.size)
    clear b t0 t1 kk H2
    obtain ⟨t0, t1, -⟩ := k2.all
    go_wp2_with fail
    have hadd := add_any w2 B C l cl (HA.out.below (bb.mono hB)) (Nat.le_trans hB bb.size) HW.out f n u
    rw [HADD.out] at hadd
    refine hadd.mono ?_
    rintro e w3 ⟨rfl, b⟩
    have k3 := k2.below b k2.lt
    replace bb := bb.trans (b.mono bb.size)
    clear b t0 t1 k2 hadd
    obtain ⟨t0, t1, -⟩ := k3.all
    by_cases hz : a2 = 0
    · subst hz
      have hge := add_ge (l := l) (d := f) (n := n) (u := u) (by rw [HADD.out])
      rw [HADD.out] at hge
      obtain ⟨g1, g2, g3⟩ := hge
      obtain ⟨g4, g5⟩ := (isB_iff _).1 g2
      simp only at g1 g4 g5
      rw [if_pos rfl] at h3
      have H3 := Lib.hid h3
      clear h3 g2 g3
      go_wp2_with fail
      refine (start_any w3 ⟨id, n, u, f, S⟩ B A c (HS.out.below (bb.mono hB)) (Nat.le_trans hB bb.size) HP.out).mono ?_
      rintro e w4 ⟨g, J, rfl, hcl, hgood, b⟩
      obtain ⟨hsep, hany, hJl, hJm⟩ := hgood
      have k4 := k3.below b k3.lt
      replace bb := bb.trans (b.mono bb.size)
      have HSEP := Lib.hid hsep
      have HANY := Lib.hid hany
      have HJM := Lib.hid hJm
      simp only at hcl
      clear b t0 t1 k3 hsep hany hJm
      obtain ⟨t0, t1, -⟩ := k4.all
      go_wp2_with fail
      refine (after_any w4 g f (a1 - f) J hcl f0 f1 (by omega) (by omega) hJl HJM.out).mono ?_
      rintro e w5 ⟨rfl, b⟩
      have hcl5 : ClockAt w5 g f J := by
        obtain ⟨A5, c5, q1, q2⟩ := hcl
        exact ⟨A5, c5, q1.below b q1.lt, (q2.below b).wide b.size⟩
      replace bb := bb.trans (b.mono bb.size)
      have hbd := aftJ_bd (a1 - f) J (f + (a1 - f)) (fun s hs => by have := HJM.out s hs; omega)
      have hnn : ((a1 - f).toNat : Int) = a1 - f := by omega
      have hnth := aft_nth (f := f) HSEP.out (by rw [HANY.out]; exact pz_far HSS.out) (a1 - f).toNat
      rw [hnn] at hnth
      have HN := Lib.hid hnth
      generalize aftJ (a1 - f) J (f + (a1 - f)) = D at *
      clear hcl hnth hnn b t0 t1 k4
      go_wp2_with fail
      refine (open_l w5 g f D J hcl5 hJl (by omega) (by omega) B C l cl (HA.out.below (bb.mono hB)) (Nat.le_trans hB bb.size) hll HW.out).mono ?_
      rintro e w6 ⟨rfl, b⟩
      replace bb := bb.trans (b.mono bb.size)
      have hfin : openS (anyS J) l D = (r1, r2) := by rw [HN.out, HANY.out]; exact H3.out
      rw [hfin]
      clear b hcl5 hfin hbd
      go_wp2
      go_ret2
      exact ⟨rfl, bb⟩
    · rw [if_neg hz] at h3
      injection h3 with h4 h5
      subst h4 h5
      have hz2 : (a2 != 0) = true := by simpa using hz
      clear hz
      go_wp2
      go_ret2
      exact ⟨rfl, bb⟩
end Go.Proofs.Ytogjcejiojmmbaa
