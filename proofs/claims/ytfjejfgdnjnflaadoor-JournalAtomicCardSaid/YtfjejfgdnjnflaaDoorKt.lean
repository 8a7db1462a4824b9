/- JournalAtomic in plain words: one round. No program in sight. -/
import Derived.Test.YtfjejfgdnjnflaaDoorKn
namespace Go.Proofs.YtfjejfgdnjnflaaDoor

/-- A journal at rest on a disk that cannot fail. -/
structure At (d : Dk) (x : Jn) (n : Nat) : Prop where
  on : JOn d x
  arm : d.arm = none
  q : d.q = []
  n : d.n = n
theorem At.size {d : Dk} {x : Jn} {n : Nat} (h : At d x n) : x.n = n ∧ x.cnt + 2 ≤ n ∧ 3 ≤ n ∧ x.broken = false ∧ x.rs.length ≤ 46 * n := by
  have h1 := h.on.good.le
  have h2 := h.on.good.n3
  have h3 := h.n
  refine ⟨h.on.n.trans h.n, by omega, by omega, h.on.fine, ?_⟩
  obtain ⟨T, k1, k2⟩ := h.on.good.body
  have k3 := foundP_len _ _ _ k1
  have k4 := textR_rows x.rs
  rw [← (parse_some k2).1] at k4
  have k5 : (listF x.cnt fun i => d.vw (2 + i)).length = x.cnt := by simp [listF]
  rw [k5] at k3
  omega
/-- A disk that is on, nothing pending, holding a journal. -/
structure Has (d : Dk) (c : Nat) (rs : List (List UInt8)) (n : Nat) : Prop where
  ok : d.Ok
  off : d.off = false
  q : d.q = []
  nn : d.n = n
  good : Good n d.vw c rs
theorem doArm_vw {d : Dk} (hq : d.q = []) (v y z : Int) : (d.doArm v y z).vw = d.vw ∧ (d.doArm v y z).q = [] ∧ (d.doArm v y z).n = d.n ∧ (d.doArm v y z).off = d.off := by
  have e : (d.doArm v y z).q = d.q ∧ (d.doArm v y z).sec = d.sec ∧ (d.doArm v y z).n = d.n ∧ (d.doArm v y z).off = d.off := by
    unfold Dk.doArm
    split <;> exact ⟨rfl, rfl, rfl, rfl⟩
  refine ⟨?_, e.1.trans hq, e.2.2.1, e.2.2.2⟩
  rw [vw_empty (e.1.trans hq), vw_empty hq, e.2.1]
theorem doArm_ok {d : Dk} (h : d.Ok) {v : Int} (hv : v ≤ 9223372036854775807) (y z : Int) : (d.doArm v y z).Ok := by
  unfold Dk.doArm
  split
  · exact h
  · refine ⟨h.n1, h.n2, h.st, h.el, h.q, fun x hx => ?_⟩
    simp only at hx
    split at hx
    · obtain rfl : (v, y, z) = x := by simpa using hx
      simp only
      omega
    · cases hx
theorem Has.arm {d : Dk} {c n : Nat} {rs : List (List UInt8)} (h : Has d c rs n) {v : Int} (hv : v ≤ 9223372036854775807) (y z : Int) : Has (d.doArm v y z) c rs n := by
  obtain ⟨h1, h2, h3, h4⟩ := doArm_vw h.q v y z
  exact ⟨doArm_ok h.ok hv y z, h4.trans h.off, h2, h3.trans h.nn, by rw [h1]; exact h.good⟩
/-- A disk at rest, turned off and on. -/
theorem Has.rest {d : Dk} {x : Jn} {n : Nat} (h : JOn d x) (hq : d.q = []) (hn : d.n = n) : Has (d.fail 0 0).start x.cnt x.rs n ∧ (d.fail 0 0).start.arm = none := by
  obtain ⟨d', k1, k2, k3, k4, k5, _, _⟩ := fail_start h hq 0 0
  rw [k1]
  refine ⟨⟨k2.ok, k2.off, k4, k5.trans hn, ?_⟩, k3⟩
  have := k2.good
  rwa [k5, hn] at this
theorem Has.dead {d : Dk} {c n : Nat} {rs : List (List UInt8)} (h : d.Ok) (ho : d.off = true) (hq : d.q = []) (hn : d.n = n) (hg : Good n d.sec c rs) : Has (d.fail 0 0).start c rs n ∧ (d.fail 0 0).start.arm = none := by
  obtain ⟨e, k1, k2⟩ := dead_start h ho hq 0 0
  refine ⟨⟨k1, by rw [e], by rw [e]; exact hq, by rw [e]; exact hn, by rw [k2]; exact hg⟩, by rw [e]⟩
/-- Opened in the end. -/
def Fin (d4 : Dk) (c : Nat) (rs : List (List UInt8)) (n : Nat) : Prop := (d4.fail 0 0).start.q = [] ∧ ∃ d6, openS (d4.fail 0 0).start = (d6, some ⟨n, c, rs, false⟩, 0) ∧ At d6 ⟨n, c, rs, false⟩ n
theorem Has.fin {d : Dk} {c n : Nat} {rs : List (List UInt8)} (h : Has d c rs n) (ha : d.arm = none) : ∃ d6, openS d = (d6, some ⟨n, c, rs, false⟩, 0) ∧ At d6 ⟨n, c, rs, false⟩ n := by
  have hg := h.good
  rw [← h.nn] at hg
  obtain ⟨d', h1, h2, h3, h4, h5⟩ := found_good h.ok h.off ha h.q hg
  rw [h.nn] at h1 h2 h5
  exact ⟨d', h1, h2, h3, h4, h5⟩
theorem atomic_step {d : Dk} {x : Jn} {n : Nat} (h : At d x n) (v : Nat) (hv : v ≤ 99) (v5 : Nat) (hv5 : v5 ≤ 99) (y z : Int) (ls : List (List UInt8)) :
    (d.doArm v y z).q = [] ∧ ∃ c rs, (rs = x.rs ∨ rs = x.rs ++ ls) ∧ ((appendS (d.doArm v y z) x ls).2.2 = 0 → rs = x.rs ++ ls) ∧ ((appendS (d.doArm v y z) x ls).2.2 ≠ 0 → (appendS (d.doArm v y z) x ls).2.2 ≠ 25 → rs = x.rs) ∧
      (((appendS (d.doArm v y z) x ls).1.fail 0 0).start.doArm v5 z y).q = [] ∧
      ((∃ d4 x4, openS (((appendS (d.doArm v y z) x ls).1.fail 0 0).start.doArm v5 z y) = (d4, some x4, 0) ∧ x4.rs = rs ∧ Fin d4 c rs n) ∨
        (∃ d4, openS (((appendS (d.doArm v y z) x ls).1.fail 0 0).start.doArm v5 z y) = (d4, none, 25) ∧ Fin d4 c rs n)) := by
  obtain ⟨a1, a2, a3, a4⟩ := doArm_vw h.q (v : Int) y z
  have hJ : JOn (d.doArm v y z) x := ⟨doArm_ok h.on.ok (by omega) y z, a4.trans h.on.off, h.on.n.trans a3.symm, by rw [a1]; exact h.on.heads, by rw [a1, a3]; exact h.on.good, h.on.fine⟩
  have hn1 : (d.doArm v y z).n = n := a3.trans h.n
  refine ⟨a2, ?_⟩
  have key : ∃ c rs, (rs = x.rs ∨ rs = x.rs ++ ls) ∧ ((appendS (d.doArm v y z) x ls).2.2 = 0 → rs = x.rs ++ ls) ∧ ((appendS (d.doArm v y z) x ls).2.2 ≠ 0 → (appendS (d.doArm v y z) x ls).2.2 ≠ 25 → rs = x.rs) ∧
      Has ((appendS (d.doArm v y z) x ls).1.fail 0 0).start c rs n := by
    rcases append_on hJ ls with ⟨_, e⟩ | ⟨_, ⟨_, e⟩ | ⟨_, ⟨h0, e⟩ | ⟨_, ⟨d', e, k1, k2, _, k4, _⟩ | ⟨d', e, _, k1, k2, k3, k4, k5, k6⟩⟩⟩⟩
    · rw [e]
      exact ⟨x.cnt, x.rs, .inl rfl, fun h => absurd h (by simp), fun _ _ => rfl, (Has.rest hJ a2 hn1).1⟩
    · rw [e]
      exact ⟨x.cnt, x.rs, .inl rfl, fun h => absurd h (by simp), fun _ _ => rfl, (Has.rest hJ a2 hn1).1⟩
    · rw [e]
      subst h0
      exact ⟨x.cnt, x.rs, .inl rfl, fun _ => by simp, fun _ _ => rfl, (Has.rest hJ a2 hn1).1⟩
    · rw [e]
      exact ⟨_, x.rs ++ ls, .inr rfl, fun _ => rfl, fun h => absurd rfl h, (Has.rest k1 k4 (k2.trans hn1)).1⟩
    · rw [e]
      rcases k6 a2 with hg | hg
      · rw [hn1] at hg
        exact ⟨_, x.rs, .inl rfl, fun h => absurd h (by simp), fun _ h => absurd rfl h, (Has.dead k1 k2 k3 (k5.trans hn1) hg).1⟩
      · rw [hn1] at hg
        exact ⟨_, x.rs ++ ls, .inr rfl, fun h => absurd h (by simp), fun _ h => absurd rfl h, (Has.dead k1 k2 k3 (k5.trans hn1) hg).1⟩
  obtain ⟨c, rs, r1, r2, r3, r4⟩ := key
  have r5 := r4.arm (v := (v5 : Int)) (by omega) z y
  refine ⟨c, rs, r1, r2, r3, r5.q, ?_⟩
  generalize (((appendS (d.doArm v y z) x ls).1.fail 0 0).start.doArm v5 z y) = d3 at *
  have hg := r5.good
  rw [← r5.nn] at hg
  rcases open_on r5.ok r5.off hg with ⟨d4, e, k1, k2, _, k4, _⟩ | ⟨d4, e, _, k1, k2, k3, k4, k5, k6⟩
  · left
    obtain ⟨m1, m2⟩ := Has.rest k1 (k4 r5.q) (k2.trans r5.nn)
    exact ⟨d4, _, e, rfl, m1.q, m1.fin m2⟩
  · right
    have hg2 := k6 r5.q
    rw [r5.nn] at hg2
    obtain ⟨m1, m2⟩ := Has.dead k1 k2 k3 (k5.trans r5.nn) hg2
    exact ⟨d4, e, m1.q, m1.fin m2⟩
end Go.Proofs.YtfjejfgdnjnflaaDoor
