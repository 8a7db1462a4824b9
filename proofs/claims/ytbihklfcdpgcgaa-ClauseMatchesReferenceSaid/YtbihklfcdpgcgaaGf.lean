/- ClauseMatchesReference, walked. -/
import Derived.Test.YtbihklfcdpgcgaaGe
import Derived.Test.YtbihklfcdpgcgaaPy
namespace Go.Proofs.Ytbihklfcdpgcgaa
open Go.RowKit

theorem PP.mono {w : World} {base p b n n' : Nat} {L : List Cl} (h : PP w base p b n L) (k : n ≤ n') : PP w base p b n' L := ⟨h.at_, h.lo, h.lob, h.pg, Nat.le_trans h.len k⟩
theorem RP.mono {w : World} {base q n n' : Nat} {v : Value} {L : List Cl} (h : RP w base q v n L) (k : n ≤ n') : RP w base q v n' L := ⟨h.blk, h.own, h.pg, Nat.le_trans h.len k⟩
/-- Two pages of the package, two of the reference. -/
structure Four (w0 w : World) (pa ma na : Nat) (A : List Cl) (qx : Nat) (vx : Value) (nx : Nat) (X : List Cl) (pb mb nb : Nat) (B : List Cl) (qy : Nat) (vy : Value) (ny : Nat) (Y : List Cl) : Prop where
  a : PP w w0.heap.size pa ma na A
  x : RP w w0.heap.size qx vx nx X
  b : PP w w0.heap.size pb mb nb B
  y : RP w w0.heap.size qy vy ny Y
  bel : Below w0.heap.size w0 w
  lox : w0.heap.size ≤ qx
  loy : w0.heap.size ≤ qy
  n1 : pa ≠ pb
  n2 : ma ≠ mb
  n3 : qx ≠ qy
  n4 : ∀ g, vx.ownBlock = some g → vy.ownBlock ≠ some g
section
variable {w0 w w' : World} {pa ma na qx nx pb mb nb qy ny : Nat} {A X B Y : List Cl} {vx vy : Value}
theorem Four.swap (h : Four w0 w pa ma na A qx vx nx X pb mb nb B qy vy ny Y) : Four w0 w pb mb nb B qy vy ny Y pa ma na A qx vx nx X :=
  ⟨h.b, h.y, h.a, h.x, h.bel, h.loy, h.lox, h.n1.symm, h.n2.symm, h.n3.symm, fun g h1 h2 => h.n4 g h2 h1⟩
theorem Four.same (h : Four w0 w pa ma na A qx vx nx X pb mb nb B qy vy ny Y) (k : Below w.heap.size w w') : Four w0 w' pa ma na A qx vx nx X pb mb nb B qy vy ny Y :=
  ⟨h.a.below k, h.x.below k, h.b.below k, h.y.below k, h.bel.trans (k.mono h.bel.size), h.lox, h.loy, h.n1, h.n2, h.n3, h.n4⟩
theorem Four.drew (h : Four w0 w pa ma na A qx vx nx X pb mb nb B qy vy ny Y) : Four w0 w.drew pa ma na A qx vx nx X pb mb nb B qy vy ny Y := h.same ⟨rfl, rfl, rfl, Nat.le_refl _, fun _ _ => rfl⟩
theorem Four.onlyA (h : Four w0 w pa ma na A qx vx nx X pb mb nb B qy vy ny Y) {na' : Nat} {A' : List Cl} (k : PP w' w0.heap.size pa ma na' A') (o : Only (fun i => i = ma) w w') : Four w0 w' pa ma na' A' qx vx nx X pb mb nb B qy vy ny Y :=
  ⟨k, h.x.pp h.a o, h.b.far h.a h.n2.symm o, h.y.pp h.a o, h.bel.trans (o.below h.bel.size fun i hi => by rw [hi]; exact h.a.lob), h.lox, h.loy, h.n1, h.n2, h.n3, h.n4⟩
theorem Four.putA (h : Four w0 w pa ma na A qx vx nx X pb mb nb B qy vy ny Y) (hn : na ≤ 100000) (c : Cl) :
    Calls Try.prog 14 #[.pointer (some ⟨pa, 0, none⟩), .agg (clA c)] w fun e w' => e = .returned (.int .i64 (putS A c).2) ∧ Four w0 w' pa ma (na + 1) (putS A c).1 qx vx nx X pb mb nb B qy vy ny Y :=
  (pp_put w h.a hn c).mono fun _ _ ⟨h1, h2, h3⟩ => ⟨h1, h.onlyA h2 h3⟩
theorem Four.dropA (h : Four w0 w pa ma na A qx vx nx X pb mb nb B qy vy ny Y) (t : St2) :
    Calls Try.prog 12 #[.pointer (some ⟨pa, 0, none⟩), .agg (stA t)] w fun e w' => e = .returned (.int .i64 (dropS A t).2) ∧ Four w0 w' pa ma na (dropS A t).1 qx vx nx X pb mb nb B qy vy ny Y :=
  (pp_drop w h.a t).mono fun _ _ ⟨h1, h2, h3⟩ => ⟨h1, h.onlyA h2 h3⟩
theorem Four.onlyX (h : Four w0 w pa ma na A qx vx nx X pb mb nb B qy vy ny Y) {nx' : Nat} {X' : List Cl} {v : Value} (k : RP w' w0.heap.size qx v nx' X') (hv : ∀ g, v.ownBlock = some g → vx.ownBlock = some g ∨ w.heap.size ≤ g)
    (o : Only (fun i => i = qx ∨ vx.ownBlock = some i) w w') : Four w0 w' pa ma na A qx v nx' X' pb mb nb B qy vy ny Y :=
  ⟨h.a.rp h.x o, k, h.b.rp h.x o, h.y.only o (fun e => by
      rcases e with e | e
      · exact h.n3 e.symm
      · exact h.x.own.ne_blk h.y.blk (by decide) e) (fun g hg e => by
      rcases e with e | e
      · exact h.y.own.ne_blk h.x.blk (by decide) (by rw [hg, e])
      · exact h.n4 g e hg),
    h.bel.trans (o.below h.bel.size fun i hi => by
      rcases hi with hi | hi
      · rw [hi]; exact h.lox
      · exact (h.x.own.lt i hi).1), h.lox, h.loy, h.n1, h.n2, h.n3, fun g hg hy => by
      rcases hv g hg with h9 | h9
      · exact h.n4 g h9 hy
      · have := (h.y.own.lt g hy).2
        omega⟩
theorem Four.putX (h : Four w0 w pa ma na A qx vx nx X pb mb nb B qy vy ny Y) (hn : nx ≤ 100000) (c : Cl) :
    Calls Try.prog 15 #[.pointer (some ⟨qx, 0, none⟩), .agg (clA c)] w fun e w' => e = .returned (.int .i64 (putS X c).2) ∧ ∃ v, Four w0 w' pa ma na A qx v (nx + 1) (putS X c).1 pb mb nb B qy vy ny Y :=
  (rPut_any w h.x hn h.bel.size c).mono fun _ _ ⟨h1, v, h2, h3, h4⟩ => ⟨h1, v, h.onlyX h2 (fun g hg => by
    rcases h3 with h3 | ⟨g', h3, h5⟩
    · exact .inl (by rw [← h3]; exact hg)
    · rw [h3] at hg
      injection hg with hg
      exact .inr (by omega)) h4⟩
theorem Four.dropX (h : Four w0 w pa ma na A qx vx nx X pb mb nb B qy vy ny Y) (hn : nx ≤ 100000) (t : St2) :
    Calls Try.prog 13 #[.pointer (some ⟨qx, 0, none⟩), .agg (stA t)] w fun e w' => e = .returned (.int .i64 (dropS X t).2) ∧ Four w0 w' pa ma na A qx vx nx (dropS X t).1 pb mb nb B qy vy ny Y :=
  (rDrop_any w h.x hn t).mono fun _ _ ⟨h1, h2, h3⟩ => ⟨h1, h.onlyX h2 (fun _ hg => .inl hg) (h3.mono fun _ hi => .inr hi)⟩
theorem Four.joinA (h : Four w0 w pa ma na A qx vx nx X pb mb nb B qy vy ny Y) (h1 : na ≤ 100000) (h2 : nb ≤ 100000) :
    Calls Try.prog 19 #[.pointer (some ⟨pa, 0, none⟩), .pointer (some ⟨pb, 0, none⟩)] w fun e w' => e = .returned (.int .i64 (joinS A B).2) ∧ ∃ ma', Four w0 w' pa ma' (na + nb) (joinS A B).1 qx vx nx X pb mb nb B qy vy ny Y :=
  (pp_join w h.a h.b h1 h2).mono fun _ _ ⟨e1, ⟨b', k1, k2⟩, o⟩ => ⟨e1, b', k1, h.x.ppp h.a o, h.b.farp h.a h.n1.symm o, h.y.ppp h.a o, h.bel.trans (o.below h.bel.size fun i hi => by rw [hi]; exact h.a.lo), h.lox, h.loy, h.n1, by
    rcases k2 with rfl | k2
    · exact h.n2
    · have := h.b.at_.ltb; omega, h.n3, h.n4⟩
theorem Four.joinX (h : Four w0 w pa ma na A qx vx nx X pb mb nb B qy vy ny Y) (h1 : nx ≤ 50000) (h2 : ny ≤ 50000) :
    Calls Try.prog 20 #[.pointer (some ⟨qx, 0, none⟩), .pointer (some ⟨qy, 0, none⟩)] w fun e w' => e = .returned (.int .i64 (joinS X Y).2) ∧ ∃ v, Four w0 w' pa ma na A qx v (nx + ny) (joinS X Y).1 pb mb nb B qy vy ny Y :=
  (rJoin_any w h.x h.y h1 h2 h.bel.size).mono fun _ _ ⟨e1, v, k1, k2, k3⟩ => ⟨e1, v, h.onlyX k1 k2 (k3.mono fun _ hi => .inl hi)⟩
end
theorem exec_load_op {ev : Operand → Value} {o : Oper} {W : World} {x : Operand} (ho : o.op = .load 35 x) {B g off i : Nat} {A : Option Addr} {l : List (Bool × Cl)} (hx : ev x = .pointer (some ⟨g, off + i * 21 + 1, none⟩))
    (hr : OpsAt W B A l) (hA : A = some ⟨g, off, none⟩) {c : Bool × Cl} (hi : l[i]? = some c) : (execOp ev o).run Try.prog W = .ok (.value (.agg (clA c.2))) W := by
  obtain ⟨g', off', h1, h2, _, h4⟩ := hr i c hi
  rw [hA] at h1
  obtain ⟨rfl, rfl⟩ : g = g' ∧ off = off' := by
    have h4 := Option.some.inj h1
    exact ⟨congrArg Addr.block h4, congrArg Addr.off h4⟩
  have hc : ClsAt W B (some ⟨g, off + i * 21 + 1, none⟩) [c.2] := fun j d hj => by
    have hj0 : j = 0 := by
      have := (List.getElem?_eq_some_iff.1 hj).1
      simp at this
      exact this
    subst hj0
    simp at hj
    subst hj
    exact ⟨g, _, rfl, h2, fun k v hv => by rw [Nat.zero_mul, Nat.add_zero]; exact h4 k v hv⟩
  exact exec_load_at (i := 0) ho (by rw [Nat.zero_mul, Nat.add_zero]; exact hx) hc rfl rfl
theorem OpsAt.at_ {w : World} {B : Nat} {A : Option Addr} {l : List (Bool × Cl)} (h : OpsAt w B A l) {i : Nat} {c : Bool × Cl} (hi : l[i]? = some c) {g off : Nat} (hA : A = some ⟨g, off, none⟩) :
    w.cell? ⟨g, off + i * 21, none⟩ = some (.bool c.1) ∧ w.cell? ⟨g, off + i * 21 + 1, none⟩ = some (.int .i64 c.2.id.1) ∧ w.cell? ⟨g, off + i * 21 + 1 + 1, none⟩ = some (.int .i64 c.2.id.2) := by
  obtain ⟨g', off', h1, _, h3, h4⟩ := h i c hi
  rw [hA] at h1
  obtain ⟨rfl, rfl⟩ : g = g' ∧ off = off' := by
    have h4 := Option.some.inj h1
    exact ⟨congrArg Addr.block h4, congrArg Addr.off h4⟩
  exact ⟨h3, h4 0 _ rfl, h4 1 _ rfl⟩
def opS (R : List Cl) (c : Bool × Cl) : List Cl := if c.1 then (dropS R c.2.id).1 else (putS R c.2).1
def opsS (l : List (Bool × Cl)) : List Cl := l.foldl opS []
theorem opsS_take {l : List (Bool × Cl)} {k : Nat} {c : Bool × Cl} (h : l[k]? = some c) : opsS (l.take (k + 1)) = opS (opsS (l.take k)) c := by
  unfold opsS
  rw [List.take_add_one, h, Option.toList_some, List.foldl_append]
  rfl
theorem ne_self (x : Int) : (x != x) = false := by simp
set_option maxRecDepth 100000 in
set_option maxHeartbeats 40000000 in
theorem cmatch_walk (w : World) (A1 : Option Addr) (cap1 : Nat) (l : List (Bool × Cl)) (h1 : OpsAt w w.heap.size A1 l) (A2 : Option Addr) (cap2 : Nat) (m : List (Bool × Cl)) (h2 : OpsAt w w.heap.size A2 m) :
    Calls Try.prog 3 #[.slice A1 l.length cap1, .slice A2 m.length cap2] w fun e w' => e = .returned (.bool true) ∧ Below w.heap.size w w' := by
  have H1 := Lib.hid h1
  have H2 := Lib.hid h2
  obtain ⟨N1, hN1⟩ : ∃ N, l.length = N := ⟨_, rfl⟩
  obtain ⟨N2, hN2⟩ : ∃ N, m.length = N := ⟨_, rfl⟩
  rw [hN1, hN2]
  have HN1 := Lib.hid hN1
  have HN2 := Lib.hid hN2
  clear h1 h2 hN1 hN2
  go_enter Try.func3, Try.ntmps3
  go_wp2_with fail
  refine (head_any _).mono ?_
  rintro e w1 ⟨rfl, b1⟩
  have HB1 := Lib.hid b1
  clear b1
  by_cases hf1 : 80 < N1
  · have e1 : decide ((80 : Int) < (N1 : Int)) = true := decide_eq_true (by omega)
    clear hf1
    go_wp2
    go_ret
    exact ⟨rfl, HB1.out⟩
  have e1 : decide ((80 : Int) < (N1 : Int)) = false := decide_eq_false (by omega)
  by_cases hf2 : 80 < N2
  · have e2 : decide ((80 : Int) < (N2 : Int)) = true := decide_eq_true (by omega)
    clear hf2
    go_wp2
    go_ret
    exact ⟨rfl, HB1.out⟩
  have e2 : decide ((80 : Int) < (N2 : Int)) = false := decide_eq_false (by omega)
  have hl1 : N1 ≤ 80 := by omega
  have hl2 : N2 ≤ 80 := by omega
  clear hf1 hf2
  go_wp2_with fail
  refine (new_any _).mono ?_
  rintro e w2 ⟨pa, ma, rfl, a2, xa, ya, b2⟩
  go_wp2_with fail
  refine (new_any _).mono ?_
  rintro e w3 ⟨pb, mb, rfl, a3, xb, yb, b3⟩
  go_wp2_with fail
  refine (rNew_any _).mono ?_
  rintro e w4 ⟨qx, rfl, r4, x4, b4⟩
  go_wp2_with fail
  refine (rNew_any _).mono ?_
  rintro e w5 ⟨qy, rfl, r5, x5, b5⟩
  have HF5 := Lib.hid (show Four w w5 pa ma 0 [] qx (.slice none 0 0) 0 [] pb mb 0 [] qy (.slice none 0 0) 0 [] from by
    have s1 := HB1.out.size
    have s2 := b2.size
    have s3 := b3.size
    have s4 := b4.size
    have t1 := a2.blk.lt
    have t2 := a2.ltb
    have t3 := r4.blk.lt
    exact ⟨⟨((a2.below b3).below b4).below b5, by omega, by omega, Pg.nil, Nat.le_refl _⟩, ⟨(r4.below b5).blk, (r4.below b5).own.low (by omega), Pg.nil, Nat.le_refl _⟩,
      ⟨(a3.below b4).below b5, by omega, by omega, Pg.nil, Nat.le_refl _⟩, ⟨r5.blk, r5.own.low (by omega), Pg.nil, Nat.le_refl _⟩,
      HB1.out.trans ((b2.trans ((b3.trans ((b4.trans (b5.mono b4.size)).mono b3.size)).mono b2.size)).mono HB1.out.size), by omega, by omega, by omega, by omega, by omega, fun g hg => by cases hg⟩)
  clear a2 xa ya b2 a3 xb yb b3 r4 x4 b4 r5 x5 b5 HB1 e1 e2
  go_wp2_with fail
  go_loopw [10] (fun i wr => ∃ (j : Nat) (vx : Value), j ≤ N1 ∧ i = .int .i64 (j : Int) ∧ Hid (Four w wr pa ma j (opsS (l.take j)) qx vx j (opsS (l.take j)) pb mb 0 [] qy (.slice none 0 0) 0 [])) (fun i _ => N1 - (intOf i).toNat)
  case atStart => exact ⟨0, _, Nat.zero_le _, rfl, HF5⟩
  case round =>
    obtain ⟨j, vx, hj, rfl, HFj⟩ := hrel
    clear HF5
    by_cases hjN : j < N1
    · obtain ⟨c, hc⟩ : ∃ c, l[j]? = some c := ⟨_, List.getElem?_eq_getElem (by rw [HN1.out]; exact hjN)⟩
      obtain ⟨g, off, hA, -, -, -⟩ := H1.out j c hc
      subst hA
      have e1 : decide ((j : Int) < (N1 : Int)) = true := decide_eq_true (by omega)
      have hst := opsS_take hc
      obtain ⟨dr, d⟩ := c
      obtain ⟨R, hR⟩ : ∃ R, opsS (l.take j) = R := ⟨_, rfl⟩
      rw [hR] at HFj hst
      have HC := Lib.hid hc
      have HST := Lib.hid hst
      have HKN := Lib.hid hjN
      clear hc hst hR
      obtain ⟨CD, hCD⟩ : ∃ x, clA d = x := ⟨_, rfl⟩
      have HCD := Lib.hid hCD
      clear hCD
      cases dr with
      | true =>
        go_upto_region 9 with fail
        refine wp_region_at (N := 49) (by kernel_rfl) (by kernel_rfl) (fun _ d _ _ _ h => by cases d <;> exact h) rfl #[false, false, false, false, false, false, false, false, false, false, false, false, false, false, false, false, false, false, false, false, false, false, false, false, false, false, false, false, false, false, false, false, false, false, false, false, false, false, false, false, false, false, false, false, false, false, false, false, false] (by kernel_rfl) ?_
        refine at_free [0, 1, 2, 3] #[true, true, true, true, false, false, false, false, false, false, false, false, false, false, false, false, false, false, false, false, false, false, false, false, false, false, false, false, false, false, false, false, false, false, false, false, false, false, false, false, false, false, false, false, false, false, false, false, false] 45 rfl (by kernel_rfl) ?_
        simp only [pick, List.drop_succ_cons, List.drop_zero, List.head?_cons, Option.toList_some, List.cons_append, List.nil_append, List.append_nil]
        iterate 4 ((first | (refine wpHeld_step ?_ rfl ?_ ?_; rotate_left; · (intro W hW; go_simp; with_reducible rfl)) | (refine wpHeld_want ?_ (by kernel_rfl) ?_ ?_; rotate_left; · (intro W hW; go_simp; with_reducible rfl))); simp only [Act.put, List.setIfInBounds_toArray, List.set_cons_succ, List.set_cons_zero])
        refine wpHeld_nil ?_
        have HFa := Lib.hid HFj.out.drew
        clear HFj
        generalize wr.drew = w6 at *
        obtain ⟨q0, -, -⟩ := (H1.out.below HFa.out.bel).at_ HC.out rfl
        refine at_run [4, 5] #[true, true, true, true, true, true, false, false, false, false, false, false, false, false, false, false, false, false, false, false, false, false, false, false, false, false, false, false, false, false, false, false, false, false, false, false, false, false, false, false, false, false, false, false, false, false, false, false, false] 43 rfl (by kernel_rfl) ?_
        simp only [pick, List.drop_succ_cons, List.drop_zero, List.head?_cons, Option.toList_some, List.cons_append, List.nil_append, List.append_nil]
        go_wp2_with fail
        refine at_free [6, 7, 8, 9, 10, 11, 14, 15, 16, 17, 18, 19] #[true, true, true, true, true, true, true, true, true, true, true, true, false, false, true, true, true, true, true, true, false, false, false, false, false, false, false, false, false, false, false, false, false, false, false, false, false, false, false, false, false, false, false, false, false, false, false, false, false] 31 rfl (by kernel_rfl) ?_
        simp only [pick, List.drop_succ_cons, List.drop_zero, List.head?_cons, Option.toList_some, List.cons_append, List.nil_append, List.append_nil]
        iterate 12 ((first | (refine wpHeld_step ?_ rfl ?_ ?_; rotate_left; · (intro W hW; go_simp; with_reducible rfl)) | (refine wpHeld_want ?_ (by kernel_rfl) ?_ ?_; rotate_left; · (intro W hW; go_simp; with_reducible rfl))); simp only [Act.put, List.setIfInBounds_toArray, List.set_cons_succ, List.set_cons_zero])
        refine wpHeld_nil ?_
        refine at_hold (fun W => Below w.heap.size w W) [12, 20] [13] [[13, 21, 22, 23, 24, 25, 26, 27, 28, 29, 30, 31, 32, 33, 34, 35, 36, 37, 38, 39, 40, 41, 42, 43, 44, 45, 46, 47, 48], [21, 22, 23, 24, 25, 26, 27, 28, 29, 30, 31, 32, 33, 34, 35, 36, 37, 38, 39, 40, 41, 42, 43, 44, 45, 46, 47, 48]] #[true, true, true, true, true, true, true, true, true, true, true, true, true, false, true, true, true, true, true, true, true, false, false, false, false, false, false, false, false, false, false, false, false, false, false, false, false, false, false, false, false, false, false, false, false, false, false, false, false] #[true, true, true, true, true, true, true, true, true, true, true, true, true, true, true, true, true, true, true, true, true, false, false, false, false, false, false, false, false, false, false, false, false, false, false, false, false, false, false, false, false, false, false, false, false, false, false, false, false] 28 rfl (by kernel_rfl) (by kernel_rfl) (by kernel_rfl) rfl (by kernel_rfl) HFa.out.bel ?_
        simp only [wpEarly, pick, List.drop_succ_cons, List.drop_zero, List.head?_cons, Option.toList_some, List.cons_append, List.nil_append, List.append_nil]
        iterate 2 ((refine wpHeld_want ?_ (by kernel_rfl) ?_ ?_; rotate_left; · (intro W hW; obtain ⟨-, q1, q2⟩ := (H1.out.below hW).at_ HC.out rfl; go_simp; with_reducible rfl)); simp only [Act.put, List.setIfInBounds_toArray, List.set_cons_succ, List.set_cons_zero])
        refine wpHeld_nil ?_
        go_wp2_with fail
        refine (HFa.out.dropA d.id).mono ?_
        rintro e w7 ⟨rfl, f7⟩
        have HFb := Lib.hid f7
        clear f7 HFa q0
        go_wp2_with fail
        refine ⟨HFb.out.bel, ?_⟩
        refine at_run [21, 22, 23, 24] #[true, true, true, true, true, true, true, true, true, true, true, true, true, true, true, true, true, true, true, true, true, true, true, true, true, false, false, false, false, false, false, false, false, false, false, false, false, false, false, false, false, false, false, false, false, false, false, false, false] 24 rfl (by kernel_rfl) ?_
        simp only [pick, List.drop_succ_cons, List.drop_zero, List.head?_cons, Option.toList_some, List.cons_append, List.nil_append, List.append_nil]
        go_wp2_with fail
        refine (HFb.out.dropX (by omega) d.id).mono ?_
        rintro e w8 ⟨rfl, f8⟩
        have HFc := Lib.hid f8
        clear f8 HFb
        obtain ⟨E, hE⟩ : ∃ E, (dropS R d.id).2 = E := ⟨_, rfl⟩
        rw [hE]
        clear hE
        have hne := ne_self E
        go_wp2_with fail
        refine at_free [25, 26, 27, 28] #[true, true, true, true, true, true, true, true, true, true, true, true, true, true, true, true, true, true, true, true, true, true, true, true, true, true, true, true, true, false, false, false, false, false, false, false, false, false, false, false, false, false, false, false, false, false, false, false, false] 20 rfl (by kernel_rfl) ?_
        simp only [pick, List.drop_succ_cons, List.drop_zero, List.head?_cons, Option.toList_some, List.cons_append, List.nil_append, List.append_nil]
        iterate 4 ((first | (refine wpHeld_step ?_ rfl ?_ ?_; rotate_left; · (intro W hW; go_simp; with_reducible rfl)) | (refine wpHeld_want ?_ (by kernel_rfl) ?_ ?_; rotate_left; · (intro W hW; go_simp; with_reducible rfl))); simp only [Act.put, List.setIfInBounds_toArray, List.set_cons_succ, List.set_cons_zero])
        refine wpHeld_nil ?_
        obtain ⟨q0, -, -⟩ := (H1.out.below HFc.out.bel).at_ HC.out rfl
        refine at_run [29, 30, 31] #[true, true, true, true, true, true, true, true, true, true, true, true, true, true, true, true, true, true, true, true, true, true, true, true, true, true, true, true, true, true, true, true, false, false, false, false, false, false, false, false, false, false, false, false, false, false, false, false, false] 17 rfl (by kernel_rfl) ?_
        simp only [pick, List.drop_succ_cons, List.drop_zero, List.head?_cons, Option.toList_some, List.cons_append, List.nil_append, List.append_nil]
        go_wp2_with fail
        refine at_free [32, 33, 34, 35, 36, 39, 40, 41, 42, 43] #[true, true, true, true, true, true, true, true, true, true, true, true, true, true, true, true, true, true, true, true, true, true, true, true, true, true, true, true, true, true, true, true, true, true, true, true, true, false, false, true, true, true, true, true, false, false, false, false, false] 7 rfl (by kernel_rfl) ?_
        simp only [pick, List.drop_succ_cons, List.drop_zero, List.head?_cons, Option.toList_some, List.cons_append, List.nil_append, List.append_nil]
        iterate 10 (refine wpHeld_skip (by kernel_rfl) ?_; simp only [Act.put, List.setIfInBounds_toArray, List.set_cons_succ, List.set_cons_zero])
        refine wpHeld_nil ?_
        refine at_hold (fun W => Below w.heap.size w W) [37, 44] [38] [[38, 45, 46, 47, 48], [45, 46, 47, 48]] #[true, true, true, true, true, true, true, true, true, true, true, true, true, true, true, true, true, true, true, true, true, true, true, true, true, true, true, true, true, true, true, true, true, true, true, true, true, true, false, true, true, true, true, true, true, false, false, false, false] #[true, true, true, true, true, true, true, true, true, true, true, true, true, true, true, true, true, true, true, true, true, true, true, true, true, true, true, true, true, true, true, true, true, true, true, true, true, true, true, true, true, true, true, true, true, false, false, false, false] 4 rfl (by kernel_rfl) (by kernel_rfl) (by kernel_rfl) rfl (by kernel_rfl) HFc.out.bel ?_
        simp only [wpEarly, pick, List.drop_succ_cons, List.drop_zero, List.head?_cons, Option.toList_some, List.cons_append, List.nil_append, List.append_nil]
        iterate 2 (refine wpHeld_skip (by kernel_rfl) ?_; simp only [Act.put, List.setIfInBounds_toArray, List.set_cons_succ, List.set_cons_zero])
        refine wpHeld_nil ?_
        go_wp2_with fail
        refine ⟨HFc.out.bel, ?_⟩
        refine at_run [45, 46, 47, 48] #[true, true, true, true, true, true, true, true, true, true, true, true, true, true, true, true, true, true, true, true, true, true, true, true, true, true, true, true, true, true, true, true, true, true, true, true, true, true, true, true, true, true, true, true, true, true, true, true, true] 0 rfl (by kernel_rfl) ?_
        simp only [pick, List.drop_succ_cons, List.drop_zero, List.head?_cons, Option.toList_some, List.cons_append, List.nil_append, List.append_nil]
        go_wp2_with fail
        refine at_end (by kernel_rfl) ?_
        go_wp2_with fail
        have HFd := Lib.hid (show Four w w8 pa ma (j + 1) (opsS (l.take (j + 1))) qx vx (j + 1) (opsS (l.take (j + 1))) pb mb 0 [] qy (.slice none 0 0) 0 [] from by
          rw [HST.out]
          exact ⟨HFc.out.a.mono (by omega), HFc.out.x.mono (by omega), HFc.out.b, HFc.out.y, HFc.out.bel, HFc.out.lox, HFc.out.loy, HFc.out.n1, HFc.out.n2, HFc.out.n3, HFc.out.n4⟩)
        first
          | (go_roundw
             case rel => exact ⟨j + 1, _, HKN.out, by go_num, HFd⟩
             case measure =>
               have := HKN.out
               simp [intOf]
               omega)
          | (refine ⟨⟨j + 1, _, HKN.out, by go_num, HFd⟩, ?_⟩
             have := HKN.out
             simp [intOf]
             omega)
      | false =>
        go_upto_region 9 with fail
        refine wp_region_at (N := 49) (by kernel_rfl) (by kernel_rfl) (fun _ d _ _ _ h => by cases d <;> exact h) rfl #[false, false, false, false, false, false, false, false, false, false, false, false, false, false, false, false, false, false, false, false, false, false, false, false, false, false, false, false, false, false, false, false, false, false, false, false, false, false, false, false, false, false, false, false, false, false, false, false, false] (by kernel_rfl) ?_
        refine at_free [0, 1, 2, 3] #[true, true, true, true, false, false, false, false, false, false, false, false, false, false, false, false, false, false, false, false, false, false, false, false, false, false, false, false, false, false, false, false, false, false, false, false, false, false, false, false, false, false, false, false, false, false, false, false, false] 45 rfl (by kernel_rfl) ?_
        simp only [pick, List.drop_succ_cons, List.drop_zero, List.head?_cons, Option.toList_some, List.cons_append, List.nil_append, List.append_nil]
        iterate 4 ((first | (refine wpHeld_step ?_ rfl ?_ ?_; rotate_left; · (intro W hW; go_simp; with_reducible rfl)) | (refine wpHeld_want ?_ (by kernel_rfl) ?_ ?_; rotate_left; · (intro W hW; go_simp; with_reducible rfl))); simp only [Act.put, List.setIfInBounds_toArray, List.set_cons_succ, List.set_cons_zero])
        refine wpHeld_nil ?_
        have HFa := Lib.hid HFj.out.drew
        clear HFj
        generalize wr.drew = w6 at *
        obtain ⟨q0, -, -⟩ := (H1.out.below HFa.out.bel).at_ HC.out rfl
        refine at_run [4, 5] #[true, true, true, true, true, true, false, false, false, false, false, false, false, false, false, false, false, false, false, false, false, false, false, false, false, false, false, false, false, false, false, false, false, false, false, false, false, false, false, false, false, false, false, false, false, false, false, false, false] 43 rfl (by kernel_rfl) ?_
        simp only [pick, List.drop_succ_cons, List.drop_zero, List.head?_cons, Option.toList_some, List.cons_append, List.nil_append, List.append_nil]
        go_wp2_with fail
        refine at_free [6, 7, 8, 9, 10, 11, 14, 15, 16, 17, 18, 19] #[true, true, true, true, true, true, true, true, true, true, true, true, false, false, true, true, true, true, true, true, false, false, false, false, false, false, false, false, false, false, false, false, false, false, false, false, false, false, false, false, false, false, false, false, false, false, false, false, false] 31 rfl (by kernel_rfl) ?_
        simp only [pick, List.drop_succ_cons, List.drop_zero, List.head?_cons, Option.toList_some, List.cons_append, List.nil_append, List.append_nil]
        iterate 12 (refine wpHeld_skip (by kernel_rfl) ?_; simp only [Act.put, List.setIfInBounds_toArray, List.set_cons_succ, List.set_cons_zero])
        refine wpHeld_nil ?_
        refine at_hold (fun W => Below w.heap.size w W) [12, 20] [13] [[13, 21, 22, 23, 24, 25, 26, 27, 28, 29, 30, 31, 32, 33, 34, 35, 36, 37, 38, 39, 40, 41, 42, 43, 44, 45, 46, 47, 48], [21, 22, 23, 24, 25, 26, 27, 28, 29, 30, 31, 32, 33, 34, 35, 36, 37, 38, 39, 40, 41, 42, 43, 44, 45, 46, 47, 48]] #[true, true, true, true, true, true, true, true, true, true, true, true, true, false, true, true, true, true, true, true, true, false, false, false, false, false, false, false, false, false, false, false, false, false, false, false, false, false, false, false, false, false, false, false, false, false, false, false, false] #[true, true, true, true, true, true, true, true, true, true, true, true, true, true, true, true, true, true, true, true, true, false, false, false, false, false, false, false, false, false, false, false, false, false, false, false, false, false, false, false, false, false, false, false, false, false, false, false, false] 28 rfl (by kernel_rfl) (by kernel_rfl) (by kernel_rfl) rfl (by kernel_rfl) HFa.out.bel ?_
        simp only [wpEarly, pick, List.drop_succ_cons, List.drop_zero, List.head?_cons, Option.toList_some, List.cons_append, List.nil_append, List.append_nil]
        iterate 2 (refine wpHeld_skip (by kernel_rfl) ?_; simp only [Act.put, List.setIfInBounds_toArray, List.set_cons_succ, List.set_cons_zero])
        refine wpHeld_nil ?_
        go_wp2_with fail
        refine ⟨HFa.out.bel, ?_⟩
        refine at_run [21, 22, 23, 24] #[true, true, true, true, true, true, true, true, true, true, true, true, true, true, true, true, true, true, true, true, true, true, true, true, true, false, false, false, false, false, false, false, false, false, false, false, false, false, false, false, false, false, false, false, false, false, false, false, false] 24 rfl (by kernel_rfl) ?_
        simp only [pick, List.drop_succ_cons, List.drop_zero, List.head?_cons, Option.toList_some, List.cons_append, List.nil_append, List.append_nil]
        go_wp2_with fail
        refine at_free [25, 26, 27, 28] #[true, true, true, true, true, true, true, true, true, true, true, true, true, true, true, true, true, true, true, true, true, true, true, true, true, true, true, true, true, false, false, false, false, false, false, false, false, false, false, false, false, false, false, false, false, false, false, false, false] 20 rfl (by kernel_rfl) ?_
        simp only [pick, List.drop_succ_cons, List.drop_zero, List.head?_cons, Option.toList_some, List.cons_append, List.nil_append, List.append_nil]
        iterate 4 ((first | (refine wpHeld_step ?_ rfl ?_ ?_; rotate_left; · (intro W hW; go_simp; with_reducible rfl)) | (refine wpHeld_want ?_ (by kernel_rfl) ?_ ?_; rotate_left; · (intro W hW; go_simp; with_reducible rfl))); simp only [Act.put, List.setIfInBounds_toArray, List.set_cons_succ, List.set_cons_zero])
        refine wpHeld_nil ?_
        refine at_run [29, 30, 31] #[true, true, true, true, true, true, true, true, true, true, true, true, true, true, true, true, true, true, true, true, true, true, true, true, true, true, true, true, true, true, true, true, false, false, false, false, false, false, false, false, false, false, false, false, false, false, false, false, false] 17 rfl (by kernel_rfl) ?_
        simp only [pick, List.drop_succ_cons, List.drop_zero, List.head?_cons, Option.toList_some, List.cons_append, List.nil_append, List.append_nil]
        go_wp2_with fail
        refine at_free [32, 33, 34, 35, 36, 39, 40, 41, 42, 43] #[true, true, true, true, true, true, true, true, true, true, true, true, true, true, true, true, true, true, true, true, true, true, true, true, true, true, true, true, true, true, true, true, true, true, true, true, true, false, false, true, true, true, true, true, false, false, false, false, false] 7 rfl (by kernel_rfl) ?_
        simp only [pick, List.drop_succ_cons, List.drop_zero, List.head?_cons, Option.toList_some, List.cons_append, List.nil_append, List.append_nil]
        iterate 10 ((first | (refine wpHeld_step ?_ rfl ?_ ?_; rotate_left; · (intro W hW; go_simp; with_reducible rfl)) | (refine wpHeld_want ?_ (by kernel_rfl) ?_ ?_; rotate_left; · (intro W hW; go_simp; with_reducible rfl))); simp only [Act.put, List.setIfInBounds_toArray, List.set_cons_succ, List.set_cons_zero])
        refine wpHeld_nil ?_
        refine at_hold (fun W => Below w.heap.size w W) [37, 44] [38] [[38, 45, 46, 47, 48], [45, 46, 47, 48]] #[true, true, true, true, true, true, true, true, true, true, true, true, true, true, true, true, true, true, true, true, true, true, true, true, true, true, true, true, true, true, true, true, true, true, true, true, true, true, false, true, true, true, true, true, true, false, false, false, false] #[true, true, true, true, true, true, true, true, true, true, true, true, true, true, true, true, true, true, true, true, true, true, true, true, true, true, true, true, true, true, true, true, true, true, true, true, true, true, true, true, true, true, true, true, true, false, false, false, false] 4 rfl (by kernel_rfl) (by kernel_rfl) (by kernel_rfl) rfl (by kernel_rfl) HFa.out.bel ?_
        simp only [wpEarly, pick, List.drop_succ_cons, List.drop_zero, List.head?_cons, Option.toList_some, List.cons_append, List.nil_append, List.append_nil]
        refine wpHeld_want (.agg CD) (by kernel_rfl) ?_ ?_
        · intro W hW; rw [← HCD.out]; refine exec_load_op (x := .tmp 68) (c := (false, d)) ?_ ?_ (H1.out.below hW) rfl HC.out <;> rfl
        simp only [Act.put, List.setIfInBounds_toArray, List.set_cons_succ, List.set_cons_zero]
        refine wpHeld_want (.agg CD) (by kernel_rfl) ?_ ?_
        · intro W hW; rw [← HCD.out]; refine exec_load_op (x := .tmp 75) (c := (false, d)) ?_ ?_ (H1.out.below hW) rfl HC.out <;> rfl
        simp only [Act.put, List.setIfInBounds_toArray, List.set_cons_succ, List.set_cons_zero]
        refine wpHeld_nil ?_
        have PA := Lib.hid (HFa.out.putA (by omega) d)
        rw [HCD.out] at PA
        go_wp2_with fail
        refine PA.out.mono ?_
        rintro e w7 ⟨rfl, f7⟩
        have HFb := Lib.hid f7
        clear f7 HFa q0 PA
        go_wp2_with fail
        refine ⟨HFb.out.bel, ?_⟩
        have PX := Lib.hid (HFb.out.putX (by omega) d)
        rw [HCD.out] at PX
        refine at_run [45, 46, 47, 48] #[true, true, true, true, true, true, true, true, true, true, true, true, true, true, true, true, true, true, true, true, true, true, true, true, true, true, true, true, true, true, true, true, true, true, true, true, true, true, true, true, true, true, true, true, true, true, true, true, true] 0 rfl (by kernel_rfl) ?_
        simp only [pick, List.drop_succ_cons, List.drop_zero, List.head?_cons, Option.toList_some, List.cons_append, List.nil_append, List.append_nil]
        go_wp2_with fail
        refine PX.out.mono ?_
        rintro e w8 ⟨rfl, v8, f8⟩
        have HFc := Lib.hid f8
        clear f8 HFb PX
        obtain ⟨E, hE⟩ : ∃ E, (putS R d).2 = E := ⟨_, rfl⟩
        rw [hE]
        clear hE
        have hne := ne_self E
        go_wp2_with fail
        refine at_end (by kernel_rfl) ?_
        go_wp2_with fail
        have HFd := Lib.hid (show Four w w8 pa ma (j + 1) (opsS (l.take (j + 1))) qx v8 (j + 1) (opsS (l.take (j + 1))) pb mb 0 [] qy (.slice none 0 0) 0 [] from by
          rw [HST.out]
          exact ⟨HFc.out.a.mono (by omega), HFc.out.x.mono (by omega), HFc.out.b, HFc.out.y, HFc.out.bel, HFc.out.lox, HFc.out.loy, HFc.out.n1, HFc.out.n2, HFc.out.n3, HFc.out.n4⟩)
        first
          | (go_roundw
             case rel => exact ⟨j + 1, _, HKN.out, by go_num, HFd⟩
             case measure =>
               have := HKN.out
               simp [intOf]
               omega)
          | (refine ⟨⟨j + 1, _, HKN.out, by go_num, HFd⟩, ?_⟩
             have := HKN.out
             simp [intOf]
             omega)
    have hjN1 : j = N1 := by omega
    rw [hjN1] at HFj
    have htk : l.take N1 = l := List.take_of_length_le (by rw [HN1.out]; exact Nat.le_refl _)
    rw [htk] at HFj
    have HF6 := Lib.hid HFj.out.swap
    clear htk HFj hjN1
    go_wp2_with fail
    go_loopw [11] (fun i wr => ∃ (j : Nat) (vy : Value), j ≤ N2 ∧ i = .int .i64 (j : Int) ∧ Hid (Four w wr pb mb j (opsS (m.take j)) qy vy j (opsS (m.take j)) pa ma N1 (opsS l) qx vx N1 (opsS l))) (fun i _ => N2 - (intOf i).toNat)
    case atStart => exact ⟨0, _, Nat.zero_le _, rfl, HF6⟩
    case round =>
      obtain ⟨j, vy, hj, rfl, HFj⟩ := hrel
      clear HF6
      by_cases hjN : j < N2
      · obtain ⟨c, hc⟩ : ∃ c, m[j]? = some c := ⟨_, List.getElem?_eq_getElem (by rw [HN2.out]; exact hjN)⟩
        obtain ⟨g, off, hA, -, -, -⟩ := H2.out j c hc
        subst hA
        have e1 : decide ((j : Int) < (N2 : Int)) = true := decide_eq_true (by omega)
        have hst := opsS_take hc
        obtain ⟨dr, d⟩ := c
        obtain ⟨R, hR⟩ : ∃ R, opsS (m.take j) = R := ⟨_, rfl⟩
        rw [hR] at HFj hst
        have HC := Lib.hid hc
        have HST := Lib.hid hst
        have HKN := Lib.hid hjN
        clear hc hst hR
        obtain ⟨CD, hCD⟩ : ∃ x, clA d = x := ⟨_, rfl⟩
        have HCD := Lib.hid hCD
        clear hCD
        cases dr with
        | true =>
          go_upto_region 14 with fail
          refine wp_region_at (N := 49) (by kernel_rfl) (by kernel_rfl) (fun _ d _ _ _ h => by cases d <;> exact h) rfl #[false, false, false, false, false, false, false, false, false, false, false, false, false, false, false, false, false, false, false, false, false, false, false, false, false, false, false, false, false, false, false, false, false, false, false, false, false, false, false, false, false, false, false, false, false, false, false, false, false] (by kernel_rfl) ?_
          refine at_free [0, 1, 2, 3] #[true, true, true, true, false, false, false, false, false, false, false, false, false, false, false, false, false, false, false, false, false, false, false, false, false, false, false, false, false, false, false, false, false, false, false, false, false, false, false, false, false, false, false, false, false, false, false, false, false] 45 rfl (by kernel_rfl) ?_
          simp only [pick, List.drop_succ_cons, List.drop_zero, List.head?_cons, Option.toList_some, List.cons_append, List.nil_append, List.append_nil]
          iterate 4 ((first | (refine wpHeld_step ?_ rfl ?_ ?_; rotate_left; · (intro W hW; go_simp; with_reducible rfl)) | (refine wpHeld_want ?_ (by kernel_rfl) ?_ ?_; rotate_left; · (intro W hW; go_simp; with_reducible rfl))); simp only [Act.put, List.setIfInBounds_toArray, List.set_cons_succ, List.set_cons_zero])
          refine wpHeld_nil ?_
          have HFa := Lib.hid HFj.out.drew
          clear HFj
          generalize wr.drew = w6 at *
          obtain ⟨q0, -, -⟩ := (H2.out.below HFa.out.bel).at_ HC.out rfl
          refine at_run [4, 5] #[true, true, true, true, true, true, false, false, false, false, false, false, false, false, false, false, false, false, false, false, false, false, false, false, false, false, false, false, false, false, false, false, false, false, false, false, false, false, false, false, false, false, false, false, false, false, false, false, false] 43 rfl (by kernel_rfl) ?_
          simp only [pick, List.drop_succ_cons, List.drop_zero, List.head?_cons, Option.toList_some, List.cons_append, List.nil_append, List.append_nil]
          go_wp2_with fail
          refine at_free [6, 7, 8, 9, 10, 11, 14, 15, 16, 17, 18, 19] #[true, true, true, true, true, true, true, true, true, true, true, true, false, false, true, true, true, true, true, true, false, false, false, false, false, false, false, false, false, false, false, false, false, false, false, false, false, false, false, false, false, false, false, false, false, false, false, false, false] 31 rfl (by kernel_rfl) ?_
          simp only [pick, List.drop_succ_cons, List.drop_zero, List.head?_cons, Option.toList_some, List.cons_append, List.nil_append, List.append_nil]
          iterate 12 ((first | (refine wpHeld_step ?_ rfl ?_ ?_; rotate_left; · (intro W hW; go_simp; with_reducible rfl)) | (refine wpHeld_want ?_ (by kernel_rfl) ?_ ?_; rotate_left; · (intro W hW; go_simp; with_reducible rfl))); simp only [Act.put, List.setIfInBounds_toArray, List.set_cons_succ, List.set_cons_zero])
          refine wpHeld_nil ?_
          refine at_hold (fun W => Below w.heap.size w W) [12, 20] [13] [[13, 21, 22, 23, 24, 25, 26, 27, 28, 29, 30, 31, 32, 33, 34, 35, 36, 37, 38, 39, 40, 41, 42, 43, 44, 45, 46, 47, 48], [21, 22, 23, 24, 25, 26, 27, 28, 29, 30, 31, 32, 33, 34, 35, 36, 37, 38, 39, 40, 41, 42, 43, 44, 45, 46, 47, 48]] #[true, true, true, true, true, true, true, true, true, true, true, true, true, false, true, true, true, true, true, true, true, false, false, false, false, false, false, false, false, false, false, false, false, false, false, false, false, false, false, false, false, false, false, false, false, false, false, false, false] #[true, true, true, true, true, true, true, true, true, true, true, true, true, true, true, true, true, true, true, true, true, false, false, false, false, false, false, false, false, false, false, false, false, false, false, false, false, false, false, false, false, false, false, false, false, false, false, false, false] 28 rfl (by kernel_rfl) (by kernel_rfl) (by kernel_rfl) rfl (by kernel_rfl) HFa.out.bel ?_
          simp only [wpEarly, pick, List.drop_succ_cons, List.drop_zero, List.head?_cons, Option.toList_some, List.cons_append, List.nil_append, List.append_nil]
          iterate 2 ((refine wpHeld_want ?_ (by kernel_rfl) ?_ ?_; rotate_left; · (intro W hW; obtain ⟨-, q1, q2⟩ := (H2.out.below hW).at_ HC.out rfl; go_simp; with_reducible rfl)); simp only [Act.put, List.setIfInBounds_toArray, List.set_cons_succ, List.set_cons_zero])
          refine wpHeld_nil ?_
          go_wp2_with fail
          refine (HFa.out.dropA d.id).mono ?_
          rintro e w7 ⟨rfl, f7⟩
          have HFb := Lib.hid f7
          clear f7 HFa q0
          go_wp2_with fail
          refine ⟨HFb.out.bel, ?_⟩
          refine at_run [21, 22, 23, 24] #[true, true, true, true, true, true, true, true, true, true, true, true, true, true, true, true, true, true, true, true, true, true, true, true, true, false, false, false, false, false, false, false, false, false, false, false, false, false, false, false, false, false, false, false, false, false, false, false, false] 24 rfl (by kernel_rfl) ?_
          simp only [pick, List.drop_succ_cons, List.drop_zero, List.head?_cons, Option.toList_some, List.cons_append, List.nil_append, List.append_nil]
          go_wp2_with fail
          refine (HFb.out.dropX (by omega) d.id).mono ?_
          rintro e w8 ⟨rfl, f8⟩
          have HFc := Lib.hid f8
          clear f8 HFb
          obtain ⟨E, hE⟩ : ∃ E, (dropS R d.id).2 = E := ⟨_, rfl⟩
          rw [hE]
          clear hE
          have hne := ne_self E
          go_wp2_with fail
          refine at_free [25, 26, 27, 28] #[true, true, true, true, true, true, true, true, true, true, true, true, true, true, true, true, true, true, true, true, true, true, true, true, true, true, true, true, true, false, false, false, false, false, false, false, false, false, false, false, false, false, false, false, false, false, false, false, false] 20 rfl (by kernel_rfl) ?_
          simp only [pick, List.drop_succ_cons, List.drop_zero, List.head?_cons, Option.toList_some, List.cons_append, List.nil_append, List.append_nil]
          iterate 4 ((first | (refine wpHeld_step ?_ rfl ?_ ?_; rotate_left; · (intro W hW; go_simp; with_reducible rfl)) | (refine wpHeld_want ?_ (by kernel_rfl) ?_ ?_; rotate_left; · (intro W hW; go_simp; with_reducible rfl))); simp only [Act.put, List.setIfInBounds_toArray, List.set_cons_succ, List.set_cons_zero])
          refine wpHeld_nil ?_
          obtain ⟨q0, -, -⟩ := (H2.out.below HFc.out.bel).at_ HC.out rfl
          refine at_run [29, 30, 31] #[true, true, true, true, true, true, true, true, true, true, true, true, true, true, true, true, true, true, true, true, true, true, true, true, true, true, true, true, true, true, true, true, false, false, false, false, false, false, false, false, false, false, false, false, false, false, false, false, false] 17 rfl (by kernel_rfl) ?_
          simp only [pick, List.drop_succ_cons, List.drop_zero, List.head?_cons, Option.toList_some, List.cons_append, List.nil_append, List.append_nil]
          go_wp2_with fail
          refine at_free [32, 33, 34, 35, 36, 39, 40, 41, 42, 43] #[true, true, true, true, true, true, true, true, true, true, true, true, true, true, true, true, true, true, true, true, true, true, true, true, true, true, true, true, true, true, true, true, true, true, true, true, true, false, false, true, true, true, true, true, false, false, false, false, false] 7 rfl (by kernel_rfl) ?_
          simp only [pick, List.drop_succ_cons, List.drop_zero, List.head?_cons, Option.toList_some, List.cons_append, List.nil_append, List.append_nil]
          iterate 10 (refine wpHeld_skip (by kernel_rfl) ?_; simp only [Act.put, List.setIfInBounds_toArray, List.set_cons_succ, List.set_cons_zero])
          refine wpHeld_nil ?_
          refine at_hold (fun W => Below w.heap.size w W) [37, 44] [38] [[38, 45, 46, 47, 48], [45, 46, 47, 48]] #[true, true, true, true, true, true, true, true, true, true, true, true, true, true, true, true, true, true, true, true, true, true, true, true, true, true, true, true, true, true, true, true, true, true, true, true, true, true, false, true, true, true, true, true, true, false, false, false, false] #[true, true, true, true, true, true, true, true, true, true, true, true, true, true, true, true, true, true, true, true, true, true, true, true, true, true, true, true, true, true, true, true, true, true, true, true, true, true, true, true, true, true, true, true, true, false, false, false, false] 4 rfl (by kernel_rfl) (by kernel_rfl) (by kernel_rfl) rfl (by kernel_rfl) HFc.out.bel ?_
          simp only [wpEarly, pick, List.drop_succ_cons, List.drop_zero, List.head?_cons, Option.toList_some, List.cons_append, List.nil_append, List.append_nil]
          iterate 2 (refine wpHeld_skip (by kernel_rfl) ?_; simp only [Act.put, List.setIfInBounds_toArray, List.set_cons_succ, List.set_cons_zero])
          refine wpHeld_nil ?_
          go_wp2_with fail
          refine ⟨HFc.out.bel, ?_⟩
          refine at_run [45, 46, 47, 48] #[true, true, true, true, true, true, true, true, true, true, true, true, true, true, true, true, true, true, true, true, true, true, true, true, true, true, true, true, true, true, true, true, true, true, true, true, true, true, true, true, true, true, true, true, true, true, true, true, true] 0 rfl (by kernel_rfl) ?_
          simp only [pick, List.drop_succ_cons, List.drop_zero, List.head?_cons, Option.toList_some, List.cons_append, List.nil_append, List.append_nil]
          go_wp2_with fail
          refine at_end (by kernel_rfl) ?_
          go_wp2_with fail
          have HFd := Lib.hid (show Four w w8 pb mb (j + 1) (opsS (m.take (j + 1))) qy vy (j + 1) (opsS (m.take (j + 1))) pa ma N1 (opsS l) qx vx N1 (opsS l) from by
            rw [HST.out]
            exact ⟨HFc.out.a.mono (by omega), HFc.out.x.mono (by omega), HFc.out.b, HFc.out.y, HFc.out.bel, HFc.out.lox, HFc.out.loy, HFc.out.n1, HFc.out.n2, HFc.out.n3, HFc.out.n4⟩)
          first
            | (go_roundw
               case rel => exact ⟨j + 1, _, HKN.out, by go_num, HFd⟩
               case measure =>
                 have := HKN.out
                 simp [intOf]
                 omega)
            | (refine ⟨⟨j + 1, _, HKN.out, by go_num, HFd⟩, ?_⟩
               have := HKN.out
               simp [intOf]
               omega)
        | false =>
          go_upto_region 14 with fail
          refine wp_region_at (N := 49) (by kernel_rfl) (by kernel_rfl) (fun _ d _ _ _ h => by cases d <;> exact h) rfl #[false, false, false, false, false, false, false, false, false, false, false, false, false, false, false, false, false, false, false, false, false, false, false, false, false, false, false, false, false, false, false, false, false, false, false, false, false, false, false, false, false, false, false, false, false, false, false, false, false] (by kernel_rfl) ?_
          refine at_free [0, 1, 2, 3] #[true, true, true, true, false, false, false, false, false, false, false, false, false, false, false, false, false, false, false, false, false, false, false, false, false, false, false, false, false, false, false, false, false, false, false, false, false, false, false, false, false, false, false, false, false, false, false, false, false] 45 rfl (by kernel_rfl) ?_
          simp only [pick, List.drop_succ_cons, List.drop_zero, List.head?_cons, Option.toList_some, List.cons_append, List.nil_append, List.append_nil]
          iterate 4 ((first | (refine wpHeld_step ?_ rfl ?_ ?_; rotate_left; · (intro W hW; go_simp; with_reducible rfl)) | (refine wpHeld_want ?_ (by kernel_rfl) ?_ ?_; rotate_left; · (intro W hW; go_simp; with_reducible rfl))); simp only [Act.put, List.setIfInBounds_toArray, List.set_cons_succ, List.set_cons_zero])
          refine wpHeld_nil ?_
          have HFa := Lib.hid HFj.out.drew
          clear HFj
          generalize wr.drew = w6 at *
          obtain ⟨q0, -, -⟩ := (H2.out.below HFa.out.bel).at_ HC.out rfl
          refine at_run [4, 5] #[true, true, true, true, true, true, false, false, false, false, false, false, false, false, false, false, false, false, false, false, false, false, false, false, false, false, false, false, false, false, false, false, false, false, false, false, false, false, false, false, false, false, false, false, false, false, false, false, false] 43 rfl (by kernel_rfl) ?_
          simp only [pick, List.drop_succ_cons, List.drop_zero, List.head?_cons, Option.toList_some, List.cons_append, List.nil_append, List.append_nil]
          go_wp2_with fail
          refine at_free [6, 7, 8, 9, 10, 11, 14, 15, 16, 17, 18, 19] #[true, true, true, true, true, true, true, true, true, true, true, true, false, false, true, true, true, true, true, true, false, false, false, false, false, false, false, false, false, false, false, false, false, false, false, false, false, false, false, false, false, false, false, false, false, false, false, false, false] 31 rfl (by kernel_rfl) ?_
          simp only [pick, List.drop_succ_cons, List.drop_zero, List.head?_cons, Option.toList_some, List.cons_append, List.nil_append, List.append_nil]
          iterate 12 (refine wpHeld_skip (by kernel_rfl) ?_; simp only [Act.put, List.setIfInBounds_toArray, List.set_cons_succ, List.set_cons_zero])
          refine wpHeld_nil ?_
          refine at_hold (fun W => Below w.heap.size w W) [12, 20] [13] [[13, 21, 22, 23, 24, 25, 26, 27, 28, 29, 30, 31, 32, 33, 34, 35, 36, 37, 38, 39, 40, 41, 42, 43, 44, 45, 46, 47, 48], [21, 22, 23, 24, 25, 26, 27, 28, 29, 30, 31, 32, 33, 34, 35, 36, 37, 38, 39, 40, 41, 42, 43, 44, 45, 46, 47, 48]] #[true, true, true, true, true, true, true, true, true, true, true, true, true, false, true, true, true, true, true, true, true, false, false, false, false, false, false, false, false, false, false, false, false, false, false, false, false, false, false, false, false, false, false, false, false, false, false, false, false] #[true, true, true, true, true, true, true, true, true, true, true, true, true, true, true, true, true, true, true, true, true, false, false, false, false, false, false, false, false, false, false, false, false, false, false, false, false, false, false, false, false, false, false, false, false, false, false, false, false] 28 rfl (by kernel_rfl) (by kernel_rfl) (by kernel_rfl) rfl (by kernel_rfl) HFa.out.bel ?_
          simp only [wpEarly, pick, List.drop_succ_cons, List.drop_zero, List.head?_cons, Option.toList_some, List.cons_append, List.nil_append, List.append_nil]
          iterate 2 (refine wpHeld_skip (by kernel_rfl) ?_; simp only [Act.put, List.setIfInBounds_toArray, List.set_cons_succ, List.set_cons_zero])
          refine wpHeld_nil ?_
          go_wp2_with fail
          refine ⟨HFa.out.bel, ?_⟩
          refine at_run [21, 22, 23, 24] #[true, true, true, true, true, true, true, true, true, true, true, true, true, true, true, true, true, true, true, true, true, true, true, true, true, false, false, false, false, false, false, false, false, false, false, false, false, false, false, false, false, false, false, false, false, false, false, false, false] 24 rfl (by kernel_rfl) ?_
          simp only [pick, List.drop_succ_cons, List.drop_zero, List.head?_cons, Option.toList_some, List.cons_append, List.nil_append, List.append_nil]
          go_wp2_with fail
          refine at_free [25, 26, 27, 28] #[true, true, true, true, true, true, true, true, true, true, true, true, true, true, true, true, true, true, true, true, true, true, true, true, true, true, true, true, true, false, false, false, false, false, false, false, false, false, false, false, false, false, false, false, false, false, false, false, false] 20 rfl (by kernel_rfl) ?_
          simp only [pick, List.drop_succ_cons, List.drop_zero, List.head?_cons, Option.toList_some, List.cons_append, List.nil_append, List.append_nil]
          iterate 4 ((first | (refine wpHeld_step ?_ rfl ?_ ?_; rotate_left; · (intro W hW; go_simp; with_reducible rfl)) | (refine wpHeld_want ?_ (by kernel_rfl) ?_ ?_; rotate_left; · (intro W hW; go_simp; with_reducible rfl))); simp only [Act.put, List.setIfInBounds_toArray, List.set_cons_succ, List.set_cons_zero])
          refine wpHeld_nil ?_
          refine at_run [29, 30, 31] #[true, true, true, true, true, true, true, true, true, true, true, true, true, true, true, true, true, true, true, true, true, true, true, true, true, true, true, true, true, true, true, true, false, false, false, false, false, false, false, false, false, false, false, false, false, false, false, false, false] 17 rfl (by kernel_rfl) ?_
          simp only [pick, List.drop_succ_cons, List.drop_zero, List.head?_cons, Option.toList_some, List.cons_append, List.nil_append, List.append_nil]
          go_wp2_with fail
          refine at_free [32, 33, 34, 35, 36, 39, 40, 41, 42, 43] #[true, true, true, true, true, true, true, true, true, true, true, true, true, true, true, true, true, true, true, true, true, true, true, true, true, true, true, true, true, true, true, true, true, true, true, true, true, false, false, true, true, true, true, true, false, false, false, false, false] 7 rfl (by kernel_rfl) ?_
          simp only [pick, List.drop_succ_cons, List.drop_zero, List.head?_cons, Option.toList_some, List.cons_append, List.nil_append, List.append_nil]
          iterate 10 ((first | (refine wpHeld_step ?_ rfl ?_ ?_; rotate_left; · (intro W hW; go_simp; with_reducible rfl)) | (refine wpHeld_want ?_ (by kernel_rfl) ?_ ?_; rotate_left; · (intro W hW; go_simp; with_reducible rfl))); simp only [Act.put, List.setIfInBounds_toArray, List.set_cons_succ, List.set_cons_zero])
          refine wpHeld_nil ?_
          refine at_hold (fun W => Below w.heap.size w W) [37, 44] [38] [[38, 45, 46, 47, 48], [45, 46, 47, 48]] #[true, true, true, true, true, true, true, true, true, true, true, true, true, true, true, true, true, true, true, true, true, true, true, true, true, true, true, true, true, true, true, true, true, true, true, true, true, true, false, true, true, true, true, true, true, false, false, false, false] #[true, true, true, true, true, true, true, true, true, true, true, true, true, true, true, true, true, true, true, true, true, true, true, true, true, true, true, true, true, true, true, true, true, true, true, true, true, true, true, true, true, true, true, true, true, false, false, false, false] 4 rfl (by kernel_rfl) (by kernel_rfl) (by kernel_rfl) rfl (by kernel_rfl) HFa.out.bel ?_
          simp only [wpEarly, pick, List.drop_succ_cons, List.drop_zero, List.head?_cons, Option.toList_some, List.cons_append, List.nil_append, List.append_nil]
          refine wpHeld_want (.agg CD) (by kernel_rfl) ?_ ?_
          · intro W hW; rw [← HCD.out]; refine exec_load_op (x := .tmp 123) (c := (false, d)) ?_ ?_ (H2.out.below hW) rfl HC.out <;> rfl
          simp only [Act.put, List.setIfInBounds_toArray, List.set_cons_succ, List.set_cons_zero]
          refine wpHeld_want (.agg CD) (by kernel_rfl) ?_ ?_
          · intro W hW; rw [← HCD.out]; refine exec_load_op (x := .tmp 130) (c := (false, d)) ?_ ?_ (H2.out.below hW) rfl HC.out <;> rfl
          simp only [Act.put, List.setIfInBounds_toArray, List.set_cons_succ, List.set_cons_zero]
          refine wpHeld_nil ?_
          have PA := Lib.hid (HFa.out.putA (by omega) d)
          rw [HCD.out] at PA
          go_wp2_with fail
          refine PA.out.mono ?_
          rintro e w7 ⟨rfl, f7⟩
          have HFb := Lib.hid f7
          clear f7 HFa q0 PA
          go_wp2_with fail
          refine ⟨HFb.out.bel, ?_⟩
          have PX := Lib.hid (HFb.out.putX (by omega) d)
          rw [HCD.out] at PX
          refine at_run [45, 46, 47, 48] #[true, true, true, true, true, true, true, true, true, true, true, true, true, true, true, true, true, true, true, true, true, true, true, true, true, true, true, true, true, true, true, true, true, true, true, true, true, true, true, true, true, true, true, true, true, true, true, true, true] 0 rfl (by kernel_rfl) ?_
          simp only [pick, List.drop_succ_cons, List.drop_zero, List.head?_cons, Option.toList_some, List.cons_append, List.nil_append, List.append_nil]
          go_wp2_with fail
          refine PX.out.mono ?_
          rintro e w8 ⟨rfl, v8, f8⟩
          have HFc := Lib.hid f8
          clear f8 HFb PX
          obtain ⟨E, hE⟩ : ∃ E, (putS R d).2 = E := ⟨_, rfl⟩
          rw [hE]
          clear hE
          have hne := ne_self E
          go_wp2_with fail
          refine at_end (by kernel_rfl) ?_
          go_wp2_with fail
          have HFd := Lib.hid (show Four w w8 pb mb (j + 1) (opsS (m.take (j + 1))) qy v8 (j + 1) (opsS (m.take (j + 1))) pa ma N1 (opsS l) qx vx N1 (opsS l) from by
            rw [HST.out]
            exact ⟨HFc.out.a.mono (by omega), HFc.out.x.mono (by omega), HFc.out.b, HFc.out.y, HFc.out.bel, HFc.out.lox, HFc.out.loy, HFc.out.n1, HFc.out.n2, HFc.out.n3, HFc.out.n4⟩)
          first
            | (go_roundw
               case rel => exact ⟨j + 1, _, HKN.out, by go_num, HFd⟩
               case measure =>
                 have := HKN.out
                 simp [intOf]
                 omega)
            | (refine ⟨⟨j + 1, _, HKN.out, by go_num, HFd⟩, ?_⟩
               have := HKN.out
               simp [intOf]
               omega)
      have hjN2 : j = N2 := by omega
      subst hjN2
      have htk : m.take j = m := List.take_of_length_le (by rw [HN2.out]; exact Nat.le_refl _)
      rw [htk] at HFj
      have F0 := Lib.hid HFj.out.swap
      clear htk hjN HFj
      obtain ⟨R, hR⟩ : ∃ R, opsS l = R := ⟨_, rfl⟩
      obtain ⟨S, hS⟩ : ∃ S, opsS m = S := ⟨_, rfl⟩
      rw [hR, hS] at F0
      clear hR hS
      have h1 := F0.out.a.len
      clear h1
      go_wp2_with fail
      refine (pp_list _ F0.out.a (by omega)).mono ?_
      rintro e w20 ⟨v20, rfl, o20, b20⟩
      have HO20 := Lib.hid o20
      have F0a := Lib.hid (F0.out.same b20)
      clear F0 o20 b20
      obtain ⟨V20, c20, rfl⟩ := HO20.out.len
      go_wp2_with fail
      refine (rList_any _ F0a.out.x (by omega)).mono ?_
      rintro e w21 ⟨v21, rfl, o21, b21⟩
      have HP20 := Lib.hid o21
      have HQ20 := Lib.hid (HO20.out.below b21)
      have F0b := Lib.hid (F0a.out.same b21)
      clear F0a HO20 o21 b21
      obtain ⟨V21, c21, rfl⟩ := HP20.out.len
      have hlen : (walkS R).length ≤ 1000000 := by rw [walk_len F0b.out.a.pg]; have := F0b.out.a.len; omega
      have SM := Lib.hid (own_same _ HQ20.out HP20.out hlen hlen)
      rw [decide_eq_true rfl] at SM
      clear hlen HQ20 HP20
      go_wp2_with fail
      refine SM.out.mono ?_
      rintro e w22 ⟨rfl, q22, rfl⟩
      have F0n := Lib.hid (F0b.out.same (w' := w21.drewN q22) ⟨rfl, rfl, rfl, Nat.le_refl _, fun _ _ => rfl⟩)
      clear SM F0b
      generalize w21.drewN q22 = w22 at *
      go_wp2_with fail
      refine (pp_list _ F0n.out.b (by omega)).mono ?_
      rintro e w30 ⟨v30, rfl, o30, b30⟩
      have HO30 := Lib.hid o30
      have F0na := Lib.hid (F0n.out.same b30)
      clear F0n o30 b30
      obtain ⟨V30, c30, rfl⟩ := HO30.out.len
      go_wp2_with fail
      refine (rList_any _ F0na.out.y (by omega)).mono ?_
      rintro e w31 ⟨v31, rfl, o31, b31⟩
      have HP30 := Lib.hid o31
      have HQ30 := Lib.hid (HO30.out.below b31)
      have F0nb := Lib.hid (F0na.out.same b31)
      clear F0na HO30 o31 b31
      obtain ⟨V31, c31, rfl⟩ := HP30.out.len
      have hlen : (walkS S).length ≤ 1000000 := by rw [walk_len F0nb.out.b.pg]; have := F0nb.out.b.len; omega
      have SM := Lib.hid (own_same _ HQ30.out HP30.out hlen hlen)
      rw [decide_eq_true rfl] at SM
      clear hlen HQ30 HP30
      go_wp2_with fail
      refine SM.out.mono ?_
      rintro e w32 ⟨rfl, q32, rfl⟩
      have F0nn := Lib.hid (F0nb.out.same (w' := w31.drewN q32) ⟨rfl, rfl, rfl, Nat.le_refl _, fun _ _ => rfl⟩)
      clear SM F0nb
      generalize w31.drewN q32 = w32 at *
      go_wp2_with fail
      refine (F0nn.out.joinA (by omega) (by omega)).mono ?_
      rintro e w40 ⟨rfl, ma4, f40⟩
      have F1 := Lib.hid f40
      clear F0nn f40
      go_wp2_with fail
      refine (F1.out.joinX (by omega) (by omega)).mono ?_
      rintro e w41 ⟨rfl, vx4, f41⟩
      have F2 := Lib.hid f41
      clear F1 f41
      obtain ⟨E, hE⟩ : ∃ E, (joinS R S).2 = E := ⟨_, rfl⟩
      obtain ⟨J, hJ⟩ : ∃ J, (joinS R S).1 = J := ⟨_, rfl⟩
      rw [hE]
      rw [hJ] at F2
      clear hE hJ
      have hne := ne_self E
      go_wp2_with fail
      refine (pp_list _ F2.out.a (by omega)).mono ?_
      rintro e w50 ⟨v50, rfl, o50, b50⟩
      have HO50 := Lib.hid o50
      have F2a := Lib.hid (F2.out.same b50)
      clear F2 o50 b50
      obtain ⟨V50, c50, rfl⟩ := HO50.out.len
      go_wp2_with fail
      refine (rList_any _ F2a.out.x (by omega)).mono ?_
      rintro e w51 ⟨v51, rfl, o51, b51⟩
      have HP50 := Lib.hid o51
      have HQ50 := Lib.hid (HO50.out.below b51)
      have F2b := Lib.hid (F2a.out.same b51)
      clear F2a HO50 o51 b51
      obtain ⟨V51, c51, rfl⟩ := HP50.out.len
      have hlen : (walkS J).length ≤ 1000000 := by rw [walk_len F2b.out.a.pg]; have := F2b.out.a.len; omega
      have SM := Lib.hid (own_same _ HQ50.out HP50.out hlen hlen)
      rw [decide_eq_true rfl] at SM
      clear hlen HQ50 HP50
      go_wp2_with fail
      refine SM.out.mono ?_
      rintro e w52 ⟨rfl, q52, rfl⟩
      have F2n := Lib.hid (F2b.out.same (w' := w51.drewN q52) ⟨rfl, rfl, rfl, Nat.le_refl _, fun _ _ => rfl⟩)
      clear SM F2b
      generalize w51.drewN q52 = w52 at *
      go_wp2_with fail
      refine (pp_patches _ F2n.out.a (by omega)).mono ?_
      rintro e w60 ⟨v60, rfl, o60, b60⟩
      have HO60 := Lib.hid o60
      have F3 := Lib.hid (F2n.out.same b60)
      clear F2n o60 b60
      obtain ⟨V60, c60, hv60, -⟩ := HO60.out.form
      subst hv60
      go_wp2_with fail
      refine (rPats_any _ F3.out.x (by omega)).mono ?_
      rintro e w61 ⟨v61, rfl, o61, b61⟩
      have HP61 := Lib.hid o61
      have HO61 := Lib.hid (show OwnPts w61 w52.heap.size (.slice V60 (live (walkS J)).length c60) (live (walkS J)) from (Only.of_below b61 (fun _ => False)).owns HO60.out (fun _ _ h => h))
      have F4 := Lib.hid (F3.out.same b61)
      clear F3 HO60 o61 b61
      obtain ⟨V61, c61, hv61, -⟩ := HP61.out.form
      subst hv61
      have hlen : (live (walkS J)).length ≤ 1000000 := by
        unfold live
        rw [List.length_map]
        refine Nat.le_trans (List.length_filter_le _ _) ?_
        rw [walk_len F4.out.a.pg]
        have := F4.out.a.len
        omega
      have SM := Lib.hid (own_patches _ HO61.out HP61.out hlen hlen)
      rw [decide_eq_true rfl] at SM
      clear hlen HO61 HP61
      go_wp2_with fail
      refine SM.out.mono ?_
      rintro e w62 ⟨rfl, q62, rfl⟩
      go_wp2
      go_ret
      exact ⟨rfl, below_drewN F4.out.bel q62⟩
end Go.Proofs.Ytbihklfcdpgcgaa
