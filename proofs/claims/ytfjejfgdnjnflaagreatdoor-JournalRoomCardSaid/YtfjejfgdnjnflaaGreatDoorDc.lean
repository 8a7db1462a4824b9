/- What Fail of package disk does to a disk in memory. -/
import Derived.Test.YtfjejfgdnjnflaaGreatDoorDb
namespace Go.Proofs.YtfjejfgdnjnflaaGreatDoor
open Go.RowKit

section
variable {w : World} {a b1 b2 : Nat} {qv : Value} {ga : Option Nat} {d : Dk} {F : Foot}

theorem DiskAt'.form (h : DiskAt' w a b1 b2 qv ga d F) : ∃ A c, qv = .slice A d.q.length c ∧ d.q.length ≤ c := by
  rcases h.q.2 with ⟨h1, h0⟩ | ⟨g, cap, cur, hv, _, _, hc, _⟩
  · exact ⟨none, 0, by rw [h0]; exact h1, by omega⟩
  · exact ⟨_, cap, hv, hc⟩

theorem DiskAt'.flags {w' : World} (h : DiskAt' w a b1 b2 qv ga d F) (hO : Only (fun i => i = a) w w') (off' : Bool) (qv' : Value) (q' : List (Nat × ByteArray)) (ga' : Option Nat) (arm' : Option (Int × Int × Int))
    (hq : qv' = qv ∧ q' = d.q ∨ qv' = .slice none 0 0 ∧ q' = []) (hg : ga' = ga ∧ arm' = d.arm ∨ ga' = none ∧ arm' = none)
    (hm : Blk w' a 73 #[.slice (some ⟨b1, 0, none⟩) (64 * d.n) (64 * d.n), .slice (some ⟨b2, 0, none⟩) (64 * d.n) (64 * d.n), qv', .bool off', armV ga']) :
    DiskAt' w' a b1 b2 qv' ga' { d with q := q', off := off', arm := arm' } F := by
  have n1 := h.main.ne_ h.st (by decide)
  have n2 := h.main.ne_ h.el (by decide)
  exact {
    ok := ⟨h.ok.n1, h.ok.n2, h.ok.st, h.ok.el, (by rcases hq with ⟨_, rfl⟩ | ⟨_, rfl⟩; exact h.ok.q; intro p hp; cases hp), (by rcases hg with ⟨_, rfl⟩ | ⟨_, rfl⟩; exact h.ok.arm; intro x hx; cases hx)⟩
    main := hm
    st := hO.blk h.st n1.symm
    el := hO.blk h.el n2.symm
    ne := h.ne
    q := by
      rcases hq with ⟨rfl, rfl⟩ | ⟨rfl, rfl⟩
      · exact hO.owns h.q (fun g hg e => own_blk_ne h.q h.main (by decide) (by rw [hg, e]))
      · exact World.ownsRow_nil _ _ _ _
    qlen := by
      rcases hq with ⟨rfl, rfl⟩ | ⟨rfl, rfl⟩
      · exact h.qlen
      · exact Nat.zero_le _
    arm0 := by
      rcases hg with ⟨rfl, rfl⟩ | ⟨rfl, rfl⟩
      · exact h.arm0
      · intro _; rfl
    arm1 := by
      rcases hg with ⟨rfl, rfl⟩ | ⟨rfl, rfl⟩
      · intro g hg
        obtain ⟨x, hx, hb⟩ := h.arm1 g hg
        exact ⟨x, hx, hO.blk hb (hb.ne_ h.main (by decide))⟩
      · intro g hg; cases hg
    fa := h.fa
    f1 := h.f1
    f2 := h.f2
    fq := by
      rcases hq with ⟨rfl, rfl⟩ | ⟨rfl, rfl⟩
      · exact h.fq
      · intro g hg; cases hg
    fg := by
      rcases hg with ⟨rfl, rfl⟩ | ⟨rfl, rfl⟩
      · exact h.fg
      · intro g hg; cases hg
    fl := fun i hi => Nat.lt_of_lt_of_le (h.fl i hi) hO.size }

/-- The last three stores of Fail. -/
theorem DiskAt'.down (h : DiskAt' w a b1 b2 qv ga d F) {w0 : World} (hO : Only F w0 w) :
    Only F w0 (((w.setCell ⟨a, 2, none⟩ (.slice none 0 0)).setCell ⟨a, 3, none⟩ (.bool true)).setCell ⟨a, 4, none⟩ (.pointer none)) ∧
    DiskAt' (((w.setCell ⟨a, 2, none⟩ (.slice none 0 0)).setCell ⟨a, 3, none⟩ (.bool true)).setCell ⟨a, 4, none⟩ (.pointer none)) a b1 b2 (.slice none 0 0) none { d with q := [], off := true, arm := none } F :=
  ⟨((hO.setCell (.inl h.fa) _).setCell (.inl h.fa) _).setCell (.inl h.fa) _,
   h.flags ((((Only.refl (fun i => i = a) w).setCell (p := ⟨a, 2, none⟩) (.inl rfl) _).setCell (p := ⟨a, 3, none⟩) (.inl rfl) _).setCell (p := ⟨a, 4, none⟩) (.inl rfl) _) true _ _ _ _ (.inr ⟨rfl, rfl⟩) (.inr ⟨rfl, rfl⟩)
    (by simpa [armV] using ((h.main.set_ 2 (.slice none 0 0)).set_ 3 (.bool true)).set_ 4 (.pointer none))⟩

set_option maxRecDepth 100000 in
set_option maxHeartbeats 400000 in
theorem fail_on (h : DiskAt' w a b1 b2 qv ga d F) (ho : d.off = false) (wr by_ : Int) :
    Calls Tryz.prog 20 #[.pointer (some ⟨a, 0, none⟩), .int .i64 wr, .int .i64 by_] w fun e w' =>
      e = .returned (.tuple #[]) ∧ Only F w w' ∧ DiskAt' w' a b1 b2 (.slice none 0 0) none (d.fail wr by_) F := by
  obtain ⟨A, c, rfl, hc⟩ := h.form
  obtain ⟨c0, f0, hlt⟩ := h.main.all
  have hql := h.qlen
  have HO := Lib.hid ho
  simp only [ho] at c0
  obtain ⟨x, hx⟩ : ∃ x : Int, x = max wr 0 := ⟨_, rfl⟩
  obtain ⟨n, hn⟩ : ∃ n : Nat, (n : Int) = min x (d.q.length : Int) := ⟨(min x (d.q.length : Int)).toNat, by omega⟩
  have e1 := run_max2 (P := Tryz.prog) wr 0 x hx
  have e2 := run_min2 (P := Tryz.prog) x (d.q.length : Int) n hn
  obtain ⟨y, hy⟩ : ∃ x : Int, x = max by_ 0 := ⟨_, rfl⟩
  obtain ⟨m, hm⟩ : ∃ n : Nat, (n : Int) = min y 64 := ⟨(min y 64).toNat, by omega⟩
  have e3 := run_max2 (P := Tryz.prog) by_ 0 y hy
  have e4 := run_min2 (P := Tryz.prog) y 64 m hm
  have hnl : n ≤ d.q.length := by omega
  have hml : m ≤ 64 := by omega
  have en : clamp wr d.q.length = n := by unfold clamp; omega
  have em : clamp by_ 64 = m := by unfold clamp; omega
  have EN := Lib.hid en
  have EM := Lib.hid em
  clear hn hm hx hy en em
  have hd : d.fail wr by_ = { (((d.settle (d.q.take n)).torn d.q[n]? m)) with q := [], off := true, arm := none } := by
    unfold Dk.fail; rw [ho, EN.out, EM.out]; rfl
  have HD := Lib.hid hd
  clear hd ho
  have hsame := Dk.settle_same (d.q.take n) d
  have HS := Lib.hid hsame
  clear hsame
  by_cases hnl2 : n < d.q.length
  · obtain ⟨p, hp⟩ : ∃ p, d.q[n]? = some p := ⟨_, List.getElem?_eq_getElem hnl2⟩
    have hqk : p.1 < d.n ∧ p.2.size = 64 := h.ok.q _ (List.mem_of_getElem? hp)
    have HP := Lib.hid hp
    clear hp
    obtain ⟨s, t⟩ := p
    go_enter Tryz.func20, Tryz.ntmps20
    go_wp2_with fail
    refine (settle_any h A d.q.length c n c rfl hnl).mono ?_
    rintro e w1 ⟨rfl, o1, h1⟩
    obtain ⟨c1, f1, l1⟩ := h1.main.all
    obtain ⟨g, c2, hqv, k1, k2, k3⟩ := h1.qat n (s, t) (by rw [HS.out.2.1]; exact HP.out)
    injection hqv with hA _ _
    subst hA
    clear c0 f0
    by_cases hm0 : 0 < m
    · have sl : ∀ W : World, (Instr.slice 9 (.string t) none (some (.int .i64 (m : Int))) none).run Tryz.prog W = .ok (.string (t.extract 0 m)) W := fun W => by
        have := run_slice_string_h (P := Tryz.prog) W 9 t (by kernel_rfl) .i64 (m : Int) (by omega) (by omega)
        simpa using this
      go_wp2
      refine wp_region_tail 7 (by kernel_rfl) (by kernel_rfl) ?_
      simp only [List.take_succ_cons, List.take_zero, List.drop_succ_cons, List.drop_zero]
      repeat still_step
      refine wpStill_nil ?_
      go_wp2_with fail
      have h1' : DiskAt' (w1.alloc (.cells #[Value.int .i64 (64 * (s : Int)), .int .i64 (64 * (s : Int) + 64), .string t] 89)).drew a b1 b2 _ ga _ F := h1.keep ((Only.refl (fun _ => False) w1).alloc _).drew (by simp)
      have hx := ext_size t 0 m (by omega)
      refine (set_any h1' s (t.extract 0 m) (by rw [HS.out.1]; exact hqk.1) (by omega)).mono ?_
      rintro e w2 ⟨rfl, o2, h2⟩
      obtain ⟨c2, f2, l2⟩ := h2.main.all
      clear c1 f1
      go_wp2
      go_end0
      obtain ⟨r1, r2⟩ := h2.down ((o1.alloc _).trans o2.undrew (fun i hi => .inl hi))
      refine ⟨rfl, r1, ?_⟩
      rw [HD.out, HP.out]
      have : (d.settle (d.q.take n)).torn (some (s, t)) m = (d.settle (d.q.take n)).set_ s (t.extract 0 m).data.toList := by rw [ext_take]; simp [Dk.torn, hm0]
      rw [this]
      exact r2
    · go_wp2
      go_end0
      obtain ⟨r1, r2⟩ := h1.down o1
      refine ⟨rfl, r1.alloc _, ?_⟩
      rw [HD.out, HP.out]
      have : (d.settle (d.q.take n)).torn (some (s, t)) m = d.settle (d.q.take n) := by simp [Dk.torn, hm0]
      rw [this]
      exact r2.keep ((Only.refl (fun _ => False) _).alloc _) (by simp)
  · go_enter Tryz.func20, Tryz.ntmps20
    go_wp2_with fail
    refine (settle_any h A d.q.length c n c rfl hnl).mono ?_
    rintro e w1 ⟨rfl, o1, h1⟩
    obtain ⟨c1, f1, l1⟩ := h1.main.all
    clear c0 f0
    go_wp2
    go_end0
    obtain ⟨r1, r2⟩ := h1.down o1
    refine ⟨rfl, r1, ?_⟩
    rw [HD.out, List.getElem?_eq_none (by omega)]
    exact r2
end
end Go.Proofs.YtfjejfgdnjnflaaGreatDoor
