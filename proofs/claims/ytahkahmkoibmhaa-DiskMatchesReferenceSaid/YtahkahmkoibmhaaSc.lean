/- What Fail, count, Sync and Write of the reference do to its disk. -/
import Derived.Test.YtahkahmkoibmhaaSb
import Derived.Deep.RegionLaw
import Derived.Deep.RegionHeld3
namespace Go.Proofs.Ytahkahmkoibmhaa
open Go.RowKit

/-- Block m holds a disk of the reference; F are its blocks. -/
def RefAt (w : World) (m : Nat) (d : Dk) (F : Foot) : Prop := ∃ g1 g2 c1 c2 qv b x y z, RefAt' w m g1 g2 c1 c2 qv b x y z d F

section
variable {w w' : World} {m g1 g2 c1 c2 : Nat} {qv : Value} {b : Bool} {x y z : Int} {d d' : Dk} {F G : Foot}

theorem RefAt'.form (h : RefAt' w m g1 g2 c1 c2 qv b x y z d F) : ∃ A c, qv = .slice A d.q.length c := by
  rcases qv_slice h with ⟨h0, h1⟩ | ⟨g, c, h1⟩
  · exact ⟨none, 0, by rw [h0]; exact h1⟩
  · exact ⟨_, c, h1⟩

/-- The cells of the struct have changed alone. -/
theorem RefAt'.flags (h : RefAt' w m g1 g2 c1 c2 qv b x y z d F) (hO : Only (fun i => i = m) w w') {qv' : Value} {q' : List (Nat × ByteArray)} {off' : Bool} {arm' : Option (Int × Int × Int)} {b' : Bool} {x' y' z' : Int}
    (hq : (qv' = qv ∧ q' = d.q) ∨ (qv' = .slice none 0 0 ∧ q' = [])) (ha : Alr arm' b' x' y' z') (hr : ∀ t, arm' = some t → 0 ≤ t.1 ∧ t.1 ≤ 9223372036854775807)
    (hm : Blk w' m 64 #[.slice (some ⟨g1, 0, none⟩) d.n c1, .slice (some ⟨g2, 0, none⟩) d.n c2, qv', .bool (!off'), .bool b', .int .i64 x', .int .i64 y', .int .i64 z']) :
    RefAt' w' m g1 g2 c1 c2 qv' b' x' y' z' { d with q := q', off := off', arm := arm' } F where
  ok := ⟨h.ok.n1, h.ok.n2, h.ok.st, h.ok.el, (by
    rcases hq with ⟨_, e⟩ | ⟨_, e⟩
    · simp only [e]; exact h.ok.q
    · simp only [e]; intro p hp; cases hp), hr⟩
  main := hm
  st := hO.owns h.st (fun g hg => by injection hg with hg; subst hg; exact own_ne_blk h.st h.main (by decide))
  el := hO.owns h.el (fun g hg => by injection hg with hg; subst hg; exact own_ne_blk h.el h.main (by decide))
  ne := h.ne
  q := by
    rcases hq with ⟨e1, e2⟩ | ⟨e1, e2⟩
    · simp only [e1, e2]
      exact hO.owns h.q (fun g hg e => own_blk_ne h.q h.main (by decide) (by rw [hg, e]))
    · simp only [e1, e2]
      exact World.ownsRow_nil _ _ _ _
  qlen := by
    rcases hq with ⟨_, e⟩ | ⟨_, e⟩
    · simp only [e]; exact h.qlen
    · simp only [e]; exact Nat.zero_le _
  alr := ha
  fa := h.fa
  f1 := h.f1
  f2 := h.f2
  fq := by
    rcases hq with ⟨e, _⟩ | ⟨e, _⟩
    · rw [e]; exact h.fq
    · rw [e]; intro g hg; cases hg
  fl := fun i hi => Nat.lt_of_lt_of_le (h.fl i hi) hO.size

theorem RefAt'.down {w0 : World} (h : RefAt' w m g1 g2 c1 c2 qv b x y z d F) (hO : Only F w0 w) :
    Only F w0 (((w.setCell ⟨m, 2, none⟩ (.slice none 0 0)).setCell ⟨m, 3, none⟩ (.bool false)).setCell ⟨m, 4, none⟩ (.bool false)) ∧
    RefAt' (((w.setCell ⟨m, 2, none⟩ (.slice none 0 0)).setCell ⟨m, 3, none⟩ (.bool false)).setCell ⟨m, 4, none⟩ (.bool false)) m g1 g2 c1 c2 (.slice none 0 0) false x y z { d with q := [], off := true, arm := none } F :=
  ⟨((hO.setCell (.inl h.fa) _).setCell (.inl h.fa) _).setCell (.inl h.fa) _,
   h.flags ((((Only.refl (fun i => i = m) w).setCell (p := ⟨m, 2, none⟩) (.inl rfl) _).setCell (p := ⟨m, 3, none⟩) (.inl rfl) _).setCell (p := ⟨m, 4, none⟩) (.inl rfl) _) (.inr ⟨rfl, rfl⟩) rfl (fun t ht => by cases ht)
    (by simpa using ((h.main.set_ 2 (.slice none 0 0)).set_ 3 (.bool false)).set_ 4 (.bool false))⟩

set_option maxHeartbeats 800000 in
theorem rfail_on (h : RefAt' w m g1 g2 c1 c2 qv b x y z d F) (ho : d.off = false) (wr by_ : Int) :
    Calls Try.prog 34 #[.pointer (some ⟨m, 0, none⟩), .int .i64 wr, .int .i64 by_] w fun e w' =>
      e = .returned (.tuple #[]) ∧ Only F w w' ∧ RefAt' w' m g1 g2 c1 c2 (.slice none 0 0) false x y z (d.fail wr by_) F := by
  obtain ⟨A, c, rfl⟩ := h.form
  obtain ⟨k0, f0, hlt⟩ := h.main.all
  have hql := h.qlen
  have HO := Lib.hid ho
  simp only [ho] at k0
  obtain ⟨u, hu⟩ : ∃ u : Int, u = min wr (d.q.length : Int) := ⟨_, rfl⟩
  obtain ⟨n, hn⟩ : ∃ n : Nat, (n : Int) = max 0 u := ⟨(max 0 u).toNat, by omega⟩
  have e1 := run_min2 (P := Try.prog) wr (d.q.length : Int) u hu
  have e2 := run_max2 (P := Try.prog) 0 u n hn
  obtain ⟨v, hv⟩ : ∃ v : Int, v = min by_ 64 := ⟨_, rfl⟩
  obtain ⟨k, hk⟩ : ∃ k : Nat, (k : Int) = max 0 v := ⟨(max 0 v).toNat, by omega⟩
  have e3 := run_min2 (P := Try.prog) by_ 64 v hv
  have e4 := run_max2 (P := Try.prog) 0 v k hk
  have hnl : n ≤ d.q.length := by omega
  have hkl : k ≤ 64 := by omega
  have en : clamp wr d.q.length = n := by unfold clamp; omega
  have em : clamp by_ 64 = k := by unfold clamp; omega
  have EN := Lib.hid en
  have EM := Lib.hid em
  clear hn hk hu hv en em
  have hd : d.fail wr by_ = { (((d.settle (d.q.take n)).torn d.q[n]? k)) with q := [], off := true, arm := none } := by
    unfold Dk.fail; rw [ho, EN.out, EM.out]; rfl
  have HD := Lib.hid hd
  clear hd ho
  have hsame := Dk.settle_same (d.q.take n) d
  have HS := Lib.hid hsame
  clear hsame
  by_cases hnl2 : n < d.q.length
  · obtain ⟨p, hp⟩ : ∃ p, d.q[n]? = some p := ⟨_, List.getElem?_eq_getElem hnl2⟩
    have hqk : p.1 < d.n ∧ p.2.size = 64 := h.ok.q _ (List.mem_of_getElem? hp)
    have HP := Lib.hid hp
    clear hp
    obtain ⟨s, t⟩ := p
    simp only at hqk
    obtain ⟨hs, ht⟩ := hqk
    have HT := Lib.hid ht
    clear ht
    go_enter Try.func34, Try.ntmps34
    go_wp2_with fail
    refine (rsettle_any h n hnl).mono ?_
    rintro e w1 ⟨rfl, o1, h1⟩
    have hn1 : (d.settle (d.q.take n)).n = d.n := HS.out.1
    have hq1 : (d.settle (d.q.take n)).q = d.q := HS.out.2.1
    have hof : (d.settle (d.q.take n)).off = false := HS.out.2.2.1.trans HO.out
    generalize d.settle (d.q.take n) = D at *
    have hRq := h1.q
    rw [hq1] at hRq
    obtain ⟨r1, r2⟩ := rcells_at d.q HP.out
    obtain ⟨g, hA⟩ : ∃ g, A = some ⟨g, 0, none⟩ := by
      rcases hRq.2 with ⟨h0, _⟩ | ⟨g, cap, cur, hv, _⟩
      · injection h0 with _ h0 _; omega
      · injection hv with hv; exact ⟨g, hv⟩
    subst hA
    have a1 := hRq.cellAt (n * 2) (by omega)
    have a2 := hRq.cellAt (n * 2 + 1) (by omega)
    rw [r1] at a1
    rw [r2] at a2
    simp only at a1 a2
    obtain ⟨m0, m1, m2⟩ := h1.main.all
    simp only [hof] at m0
    have hnI : (n : Int) < d.q.length := by omega
    have HN := Lib.hid hn1
    have hsD : s < D.n := by omega
    have hsI : (s : Int) < D.n := by omega
    have hsI0 : (0 : Int) ≤ s := by omega
    clear k0 f0 hRq r1 r2 hq1 hn1 hof
    by_cases hk0 : 0 < k
    · have s1 := h1.st.cellAt s (by omega)
      rw [str_at (Dk.stS_at D hsD)] at s1
      have hsz := Dk.secB_size h1.ok hsD
      have HSB := Lib.hid (show D.secB s = D.secB s from rfl)
      have hT : (D.secB s).data.toList = D.sec s := by simp [Dk.secB]
      have htorn := Dk.set_torn h1.ok (k := k) (t := t.data.toList) hsD (by rw [toList_len]; exact HT.out) hkl
      have hres : (D.torn (some (s, t)) k) = D.set_ s (t.extract 0 k ++ (D.secB s).extract k (D.secB s).size).data.toList := by
        unfold Dk.torn
        simp only [hk0, if_true]
        rw [htorn]
        congr 1
        rw [← hT]
        simp [ByteArray.data_append, ByteArray.data_extract, List.take_of_length_le]
      have HRES := Lib.hid hres
      have hs1 : (t.extract 0 k).size = k := by rw [ext_size _ _ _ (by rw [HT.out]; omega)]; omega
      have hs2 : ((D.secB s).extract k (D.secB s).size).size = 64 - k := by rw [ext_size _ _ _ (Nat.le_refl _), hsz]
      have hsl1 : ∀ W : World, (Instr.slice 9 (.string t) none (some (.int .i64 (k : Int))) none).run Try.prog W = .ok (.string (t.extract 0 k)) W := fun W => by
        have := run_slice_string_h (P := Try.prog) W 9 t (by kernel_rfl) .i64 (k : Int) (by omega) (by rw [HT.out]; omega)
        simpa using this
      have hsl2 : ∀ W : World, (Instr.slice 9 (.string (D.secB s)) (some (.int .i64 (k : Int))) none none).run Try.prog W = .ok (.string ((D.secB s).extract k (D.secB s).size)) W := fun W => by
        have := run_slice_string_l (P := Try.prog) W 9 (D.secB s) (by kernel_rfl) .i64 (k : Int) (by omega) (by rw [hsz]; omega)
        simpa using this
      have had : ∀ W : World, (Op.stringOp .add (t.extract 0 k) ((D.secB s).extract k (D.secB s).size)).run Try.prog W = .ok (.string (t.extract 0 k ++ (D.secB s).extract k (D.secB s).size)) W := fun W => run_string_add_sum W _ _ (by omega)
      have hTT : (t.extract 0 k ++ (D.secB s).extract k (D.secB s).size).size = 64 := by rw [ByteArray.size_append, hs1, hs2]; omega
      have HTT := Lib.hid hTT
      clear hs1 hs2 hTT hres htorn hT HSB
      have hsz' : 64 ≤ (D.secB s).size := by omega
      generalize t.extract 0 k ++ (D.secB s).extract k (D.secB s).size = T at *
      generalize (D.secB s).extract k (D.secB s).size = T2 at *
      generalize t.extract 0 k = T1 at *
      generalize D.secB s = sb at *
      clear hsz hsz'
      have hg1l := h1.fl _ h1.f1
      go_wp2_with fail
      refine wp_region_tail 18 (by kernel_rfl) (by kernel_rfl) ?_
      simp only [List.take_succ_cons, List.take_zero, List.drop_succ_cons, List.drop_zero]
      repeat still_step
      refine wpStill_nil ?_
      go_wp2_with fail
      have h1' := h1.keep ((Only.refl (fun _ => False) w1).alloc (.cells #[Value.int .i64 (s : Int), .string t] 73)).drew (by simp)
      refine (rset_any h1' s T hsD HTT.out).mono ?_
      rintro e w2 ⟨rfl, o2, h2⟩
      obtain ⟨n0, n1, n2⟩ := h2.main.all
      clear m0 m1
      go_wp2
      go_end0
      obtain ⟨r1, r2⟩ := h2.down ((o1.alloc _).trans o2.undrew (fun i hi => .inl hi))
      refine ⟨rfl, r1, ?_⟩
      rw [HD.out, HP.out, HRES.out]
      exact r2
    · go_wp2
      go_end0
      obtain ⟨r1, r2⟩ := h1.down o1
      refine ⟨rfl, r1.alloc _, ?_⟩
      rw [HD.out, HP.out]
      have : D.torn (some (s, t)) k = D := by simp [Dk.torn, hk0]
      rw [this]
      exact r2.keep ((Only.refl (fun _ => False) _).alloc _) (by simp)
  · go_enter Try.func34, Try.ntmps34
    go_wp2_with fail
    refine (rsettle_any h n hnl).mono ?_
    rintro e w1 ⟨rfl, o1, h1⟩
    have hof : (d.settle (d.q.take n)).off = false := HS.out.2.2.1.trans HO.out
    obtain ⟨m0, m1, m2⟩ := h1.main.all
    simp only [hof] at m0
    clear k0 f0 hof
    go_wp2
    go_end0
    obtain ⟨r1, r2⟩ := h1.down o1
    refine ⟨rfl, r1, ?_⟩
    rw [HD.out, List.getElem?_eq_none (by omega)]
    exact r2
end
end Go.Proofs.Ytahkahmkoibmhaa
