/- The disk of the reference in memory; what set and settle do to it. -/
import Derived.Test.YtahkahmkoibmhaaSa
namespace Go.Proofs.Ytahkahmkoibmhaa
open Go.RowKit

/-- The cells of the pending writes. -/
def rcells (q : List (Nat × ByteArray)) : List Value := q.flatMap fun p => [.int .i64 (p.1 : Int), .string p.2]
theorem rcells_at (q : List (Nat × ByteArray)) {i : Nat} {p : Nat × ByteArray} (h : q[i]? = some p) : (rcells q)[i * 2]? = some (.int .i64 (p.1 : Int)) ∧ (rcells q)[i * 2 + 1]? = some (.string p.2) := by
  induction q generalizing i with
  | nil => simp at h
  | cons x q ih =>
    have e : rcells (x :: q) = [.int .i64 (x.1 : Int), .string x.2] ++ rcells q := rfl
    cases i with
    | zero =>
      have hx : x = p := by simpa using h
      subst hx
      rw [e]
      exact ⟨rfl, rfl⟩
    | succ i =>
      have h' : q[i]? = some p := by simpa using h
      obtain ⟨h1, h2⟩ := ih h'
      rw [e]
      exact ⟨by rw [List.getElem?_append_right (by simp; omega)]; rw [← h1]; congr 1; simp; omega, by rw [List.getElem?_append_right (by simp; omega)]; rw [← h2]; congr 1; simp; omega⟩
theorem rcells_len (q : List (Nat × ByteArray)) : (rcells q).length = q.length * 2 := by
  induction q with
  | nil => rfl
  | cons x q ih =>
    have e : rcells (x :: q) = [.int .i64 (x.1 : Int), .string x.2] ++ rcells q := rfl
    rw [e, List.length_append, ih]
    simp; omega

/-- The cells of the alarm. -/
def Alr (arm : Option (Int × Int × Int)) (b : Bool) (x y z : Int) : Prop :=
  match arm with
  | none => b = false
  | some t => b = true ∧ x = t.1 ∧ y = t.2.1 ∧ z = t.2.2

/-- Block m holds a disk of the reference; all its blocks are those of F. -/
structure RefAt' (w : World) (m g1 g2 c1 c2 : Nat) (qv : Value) (b : Bool) (x y z : Int) (d : Dk) (F : Foot) : Prop where
  ok : d.Ok
  main : Blk w m 64 #[.slice (some ⟨g1, 0, none⟩) d.n c1, .slice (some ⟨g2, 0, none⟩) d.n c2, qv, .bool (!d.off), .bool b, .int .i64 x, .int .i64 y, .int .i64 z]
  st : w.ownsRow 0 9 1 (.slice (some ⟨g1, 0, none⟩) d.n c1) d.n (d.stS.map Value.string)
  el : w.ownsRow 0 9 1 (.slice (some ⟨g2, 0, none⟩) d.n c2) d.n (d.elS.map Value.string)
  ne : g1 ≠ g2
  q : w.ownsRow 0 73 2 qv d.q.length (rcells d.q)
  qlen : d.q.length ≤ 4096
  alr : Alr d.arm b x y z
  fa : F m
  f1 : F g1
  f2 : F g2
  fq : ∀ g, qv.ownBlock = some g → F g
  fl : ∀ i, F i → i < w.heap.size

theorem own_ne_blk {w : World} {g n c : Nat} {e t : TypeId} {size : Nat} {cs : Array Value} {m : Nat} {xs : List Value} (h : w.ownsRow 0 e size (.slice (some ⟨g, 0, none⟩) n c) n xs) (hm : Blk w m t cs) (hne : e ≠ t) : g ≠ m := by
  intro e1
  subst e1
  exact own_blk_ne h hm hne rfl

theorem own_lt {w : World} {g n c : Nat} {e : TypeId} {size : Nat} {xs : List Value} (h : w.ownsRow 0 e size (.slice (some ⟨g, 0, none⟩) n c) n xs) : ∃ cs, Blk w g e cs := by
  rcases h.2 with ⟨h0, _⟩ | ⟨k, cap, cur, hv, _, hh, _⟩
  · cases h0
  · injection hv with hA
    injection hA with hA
    injection hA with hA
    subst hA
    exact ⟨_, hh⟩
theorem own_own_ne {w : World} {g n c : Nat} {e e' : TypeId} {size size' : Nat} {xs xs' : List Value} {qv : Value} {k : Nat} (h : w.ownsRow 0 e size (.slice (some ⟨g, 0, none⟩) n c) n xs) (hq : w.ownsRow 0 e' size' qv k xs') (hne : e' ≠ e) : qv.ownBlock ≠ some g := by
  obtain ⟨cs, hb⟩ := own_lt h
  exact own_blk_ne hq hb hne

section
variable {w w' : World} {m g1 g2 c1 c2 : Nat} {qv : Value} {b : Bool} {x y z : Int} {d d' : Dk} {F G : Foot}

theorem RefAt'.keep (h : RefAt' w m g1 g2 c1 c2 qv b x y z d F) (hO : Only G w w') (hd : ∀ i, F i → ¬ G i) : RefAt' w' m g1 g2 c1 c2 qv b x y z d F where
  ok := h.ok
  main := hO.blk h.main (hd _ h.fa)
  st := hO.owns h.st (fun g hg => by injection hg with hg; subst hg; exact hd _ h.f1)
  el := hO.owns h.el (fun g hg => by injection hg with hg; subst hg; exact hd _ h.f2)
  ne := h.ne
  q := hO.owns h.q fun g hg => hd _ (h.fq g hg)
  qlen := h.qlen
  alr := h.alr
  fa := h.fa
  f1 := h.f1
  f2 := h.f2
  fq := h.fq
  fl := fun i hi => Nat.lt_of_lt_of_le (h.fl i hi) hO.size

/-- Its sectors have changed alone. -/
theorem RefAt'.upd (h : RefAt' w m g1 g2 c1 c2 qv b x y z d F) (hO : Only (fun i => i = g1 ∨ i = g2) w w') (hok : d'.Ok)
    (h1 : w'.ownsRow 0 9 1 (.slice (some ⟨g1, 0, none⟩) d.n c1) d.n (d'.stS.map Value.string)) (h2 : w'.ownsRow 0 9 1 (.slice (some ⟨g2, 0, none⟩) d.n c2) d.n (d'.elS.map Value.string))
    (hn : d'.n = d.n) (hq : d'.q = d.q) (hf : d'.off = d.off) (ha : d'.arm = d.arm) : RefAt' w' m g1 g2 c1 c2 qv b x y z d' F where
  ok := hok
  main := by
    rw [hn, hf]
    refine hO.blk h.main ?_
    rintro (e | e)
    · exact own_ne_blk h.st h.main (by decide) e.symm
    · exact own_ne_blk h.el h.main (by decide) e.symm
  st := by rw [hn]; exact h1
  el := by rw [hn]; exact h2
  ne := h.ne
  q := by
    rw [hq]
    exact hO.owns h.q (fun g hg => by
      rintro (rfl | rfl)
      · exact own_own_ne h.st h.q (by decide) hg
      · exact own_own_ne h.el h.q (by decide) hg)
  qlen := by rw [hq]; exact h.qlen
  alr := by rw [ha]; exact h.alr
  fa := h.fa
  f1 := h.f1
  f2 := h.f2
  fq := h.fq
  fl := fun i hi => Nat.lt_of_lt_of_le (h.fl i hi) hO.size

theorem str_at {l : List ByteArray} {i : Nat} {v : ByteArray} (h : l[i]? = some v) : (l.map Value.string)[i]? = some (.string v) := by rw [List.getElem?_map, h]; rfl

set_option maxHeartbeats 800000 in
theorem rset_any (h : RefAt' w m g1 g2 c1 c2 qv b x y z d F) (i : Nat) (t : ByteArray) (hi : i < d.n) (ht : t.size = 64) :
    Calls Try.prog 46 #[.pointer (some ⟨m, 0, none⟩), .int .i64 (i : Int), .string t] w fun e w' =>
      e = .returned (.tuple #[]) ∧ Only F w w' ∧ RefAt' w' m g1 g2 c1 c2 qv b x y z (d.set_ i t.data.toList) F := by
  have hn := h.ok.n2
  have hsec := Dk.set_sectors h.ok hi ht
  have hok' := Dk.set_ok h.ok hi (t := t.data.toList) (by rw [toList_len]; omega)
  obtain ⟨m0, m1, m2⟩ := h.main.all
  have s1 := h.st.cellAt i (by omega)
  rw [str_at (Dk.stS_at d hi)] at s1
  have s2 := h.el.cellAt i (by omega)
  rw [str_at (Dk.elS_at d hi)] at s2
  have z1 := h.st.frozenAt i
  have z2 := h.el.frozenAt i
  have hne := h.ne
  have HT := Lib.hid ht
  have hI0 : (0 : Int) ≤ i := by omega
  have hI1 : (i : Int) < d.n := by omega
  have hg1m := own_ne_blk h.st h.main (by decide)
  have hg2m := own_ne_blk h.el h.main (by decide)
  have HSEC := Lib.hid hsec
  have r2 := (h.el.stored i (.string (d.secB i))).1
  generalize d.secB i = sb at *
  generalize d.elB i = eb at *
  clear ht hsec
  go_enter Try.func46, Try.ntmps46
  go_wp2
  refine wp_region_tail 12 (by kernel_rfl) (by kernel_rfl) ?_
  simp only [List.take_succ_cons, List.take_zero, List.drop_succ_cons, List.drop_zero]
  repeat still_step
  refine wpStill_nil ?_
  go_wp2
  go_end0
  have O1 : Only (fun k => k = g2) w (w.setCell ⟨g2, i, none⟩ (.string sb)) := (Only.refl (fun k => k = g2) w).setCell (p := ⟨g2, i, none⟩) (.inl rfl) _
  have k1 := O1.owns h.st (fun g hg e => by injection hg with hg; exact hne (hg.trans e))
  have r1 := (k1.stored i (.string t)).1
  have O2 : Only (fun k => k = g1) (w.setCell ⟨g2, i, none⟩ (.string sb)) ((w.setCell ⟨g2, i, none⟩ (.string sb)).setCell ⟨g1, i, none⟩ (.string t)) := (Only.refl (fun k => k = g1) _).setCell (p := ⟨g1, i, none⟩) (.inl rfl) _
  have r3 := O2.owns r2 (fun g hg e => by injection hg with hg; exact hne (e.symm.trans hg.symm))
  have e1 : Only (fun k => k = g1 ∨ k = g2) w (((w.setCell ⟨g2, i, none⟩ (.string sb)).setCell ⟨g1, i, none⟩ (.string t)).drew) :=
    ((O1.mono (fun k hk => .inr hk)).trans O2 (fun k hk => .inl (.inl hk))).drew
  refine ⟨rfl, e1.mono (by rintro k (rfl | rfl); exact h.f1; exact h.f2), h.upd e1 hok' ?_ ?_ rfl rfl rfl rfl⟩
  · rw [HSEC.out.1, List.map_set]
    exact r1.drew
  · rw [HSEC.out.2, List.map_set]
    exact r3.drew

theorem qv_slice (h : RefAt' w m g1 g2 c1 c2 qv b x y z d F) : (d.q = [] ∧ qv = .slice none 0 0) ∨ ∃ g c, qv = .slice (some ⟨g, 0, none⟩) d.q.length c := by
  rcases h.q.2 with ⟨h0, h1⟩ | ⟨g, cap, cur, hv, _⟩
  · left
    have := h.q.1
    refine ⟨?_, h0⟩
    simpa using h1
  · exact .inr ⟨g, cap, hv⟩

set_option maxHeartbeats 800000 in
theorem rsettle_any (h : RefAt' w m g1 g2 c1 c2 qv b x y z d F) (k : Nat) (hk : k ≤ d.q.length) :
    Calls Try.prog 45 #[.pointer (some ⟨m, 0, none⟩), .int .i64 (k : Int)] w fun e w' =>
      e = .returned (.tuple #[]) ∧ Only F w w' ∧ RefAt' w' m g1 g2 c1 c2 qv b x y z (d.settle (d.q.take k)) F := by
  have hql := h.qlen
  go_enter Try.func45, Try.ntmps45
  go_wp2_with fail
  go_loopw [4] (fun v wr => ∃ j : Nat, j ≤ k ∧ v = .int .i64 (j : Int) ∧ Only F w wr ∧ RefAt' wr m g1 g2 c1 c2 qv b x y z (d.settle (d.q.take j)) F) (fun v _ => k - (intOf v).toNat)
  case atStart => exact ⟨0, Nat.zero_le _, rfl, Only.refl _ _, h⟩
  case round =>
    obtain ⟨j, hj, rfl, hO, hR⟩ := hrel
    by_cases hlt : j < k
    · obtain ⟨p, hp⟩ : ∃ p, d.q[j]? = some p := ⟨_, List.getElem?_eq_getElem (by omega)⟩
      have hpo := h.ok.q p (List.mem_of_getElem? hp)
      have hset := Dk.settle_take d d.q j p hp
      have hsm := Dk.settle_same (d.q.take j) d
      obtain ⟨g, c, hqv⟩ : ∃ g c, qv = .slice (some ⟨g, 0, none⟩) d.q.length c := by
        rcases qv_slice h with ⟨h0, _⟩ | h0
        · rw [h0] at hp; simp at hp
        · exact h0
      have HSET := Lib.hid hset
      have hRq := hR.q
      rw [hsm.2.1] at hRq
      obtain ⟨r1, r2⟩ := rcells_at d.q hp
      have hqc := hRq
      rw [hqv] at hqc
      have a1 := hqc.cellAt (j * 2) (by omega)
      have a2 := hqc.cellAt (j * 2 + 1) (by omega)
      rw [r1] at a1
      rw [r2] at a2
      have hRn := hsm.1
      generalize d.settle (d.q.take j) = D at *
      obtain ⟨m0, m1, m2⟩ := hR.main.all
      rw [hqv] at m0
      obtain ⟨s, t⟩ := p
      simp only at hpo a1 a2 HSET
      obtain ⟨hs, ht⟩ := hpo
      have HT := Lib.hid ht
      have HQV := Lib.hid hqv
      have hDn : s < D.n := by omega
      have hjI : (j : Int) < d.q.length := by omega
      clear hset hsm r1 r2 hRq hqc hp ht hqv hRn
      go_wp2
      refine wp_region_tail 17 (by kernel_rfl) (by kernel_rfl) ?_
      simp only [List.take_succ_cons, List.take_zero, List.drop_succ_cons, List.drop_zero]
      repeat still_step
      refine wpStill_nil ?_
      go_wp2_with fail
      refine (rset_any (hR.keep (Only.refl (fun _ => False) wr).drew (by simp)) s t hDn HT.out).mono ?_
      rintro e w1 ⟨rfl, o1, h1⟩
      go_wp2
      go_roundw
      case rel => exact ⟨j + 1, by omega, by go_num, hO.trans o1.undrew (fun i hi => .inl hi), by rw [HSET.out]; exact h1⟩
      case measure => simp [intOf]; omega
    · obtain rfl : k = j := by omega
      go_wp2
      go_end0
      exact ⟨rfl, hO, hR⟩
end
end Go.Proofs.Ytahkahmkoibmhaa
