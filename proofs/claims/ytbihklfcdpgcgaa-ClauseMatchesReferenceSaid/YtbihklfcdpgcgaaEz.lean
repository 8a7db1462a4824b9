/- The law's head: the fixed examples. -/
import Derived.Test.YtbihklfcdpgcgaaEy
namespace Go.Proofs.Ytbihklfcdpgcgaa
open Go.RowKit

/-- An operation that makes no memory, its value given. -/
theorem wpList_val {P : Program} {ops : Array Oper} {rest : List Oper} {o : Oper} {a : Act} {W : World} {Q : Exit → Act → World → Prop} (hgd : o.guard = none) {op : Op} (_ho : o.op = op) (v : Value) (h : (execOp a.eval o).run P W = .ok (.value v) W)
    (k : wpList P ops Q rest (a.put o.dst v) W) : wpList P ops Q (o :: rest) a W := by
  refine wpList_plain hgd fun _ hK => ?_
  unfold Oper.wp
  rw [h]
  exact hK _ _ k
theorem wpList_valg {P : Program} {ops : Array Oper} {rest : List Oper} {o : Oper} {a : Act} {W : World} {Q : Exit → Act → World → Prop} (hw : Region.wanted o (yielded ops a.tmps) = true) {op : Op} (_ho : o.op = op) (v : Value) (W' : World) (h : (execOp a.eval o).run P W = .ok (.value v) W')
    (k : wpList P ops Q rest (a.put o.dst v) W') : wpList P ops Q (o :: rest) a W := by
  unfold wpList
  rw [if_pos hw]
  refine .inl ?_
  unfold Oper.wp
  rw [h]
  exact k
theorem wpList_new {P : Program} {ops : Array Oper} {rest : List Oper} {o : Oper} {a : Act} {W : World} {Q : Exit → Act → World → Prop} (hgd : o.guard = none) {op : Op} (_ho : o.op = op) (v : Value) (W' : World) (h : (execOp a.eval o).run P W = .ok (.value v) W')
    (k : wpList P ops Q rest (a.put o.dst v) W') : wpList P ops Q (o :: rest) a W := by
  refine wpList_plain hgd fun _ hK => ?_
  unfold Oper.wp
  rw [h]
  exact hK _ _ k
theorem ClsAt.of_blk {w : World} {g B : Nat} {l : List Cl} {t : TypeId} (h : Blk w g t (cls l).toArray) (hB : g < B) : ClsAt w B (some ⟨g, 0, none⟩) l := fun i c hi => ⟨g, 0, rfl, hB, fun k v hv => by
  have hk : k < 20 := by
    have := (List.getElem?_eq_some_iff.1 hv).1
    rwa [encC_len] at this
  rw [Nat.zero_add, h.cell, List.getElem?_toArray]
  exact (flat_at encC_len hi hk).trans hv⟩

def ex1 : Cl := ⟨(1, 1), z2, zpt, false⟩
def ex2 : Cl := ⟨(2, 2), (1, 1), (5, ⟨#[112, 49]⟩, zpt.2.2), false⟩
def ex3 : Cl := ⟨(2, 2), z2, zpt, false⟩
def ex4 : Cl := ⟨(1, 2), (1, 1), zpt, false⟩
def ex5 : Cl := ⟨(3, 3), z2, zpt, false⟩
def ex6 : Cl := ⟨(5, 5), (4, 4), zpt, false⟩

def lA : List Cl := pageS [ex1, ex3]
def lB : List Cl := pageS [ex1, ex2, ex4]
def lC : List Cl := pageS [ex1, ex2, ex5]
def lC1 : List Cl := (putS lC ex3).1
def lC2 : List Cl := (putS lC1 ex6).1
def lC3 : List Cl := (dropS lC2 (1, 1)).1
def lB1 : List Cl := (joinS lB lC3).1
set_option maxRecDepth 100000 in
theorem ex_all : ((walkS lA).map (fun c => c.id) = [(2, 2), (1, 1)] ∧ (walkS lB).map (fun c => c.id) = [(1, 1), (2, 2), (1, 2)] ∧ (walkS lC).map (fun c => c.id) = [(3, 3), (1, 1), (2, 2)]) ∧
    ((putS lC ex3).2 = 9 ∧ (putS lC1 ex6).2 = 11 ∧ (dropS lC2 (1, 1)).2 = 0) ∧ (walkS lC3).length = 3 ∧ (live (walkS lC3)).length = 2 ∧ (joinS lA lC3).2 = 9 ∧ (joinS lB lC3).2 = 0 ∧ (walkS lB1).length = 4 := by
  refine ⟨⟨?_, ?_, ?_⟩, ⟨?_, ?_, ?_⟩, ?_, ?_, ?_, ?_, ?_⟩ <;> kernel_rfl
theorem order_yes (w : World) {base p b n : Nat} {L : List Cl} (h : PP w base p b n L) (hn : n ≤ 100000) (g : Nat) (ids : List St2) (hg : Blk w g 29 (sts ids)) (hi : ids.length ≤ 1000) (he : (walkS L).map (fun c => c.id) = ids) :
    Calls Try.prog 31 #[.pointer (some ⟨p, 0, none⟩), .slice (some ⟨g, 0, none⟩) ids.length ids.length] w fun e w' => e = .returned (.bool true) ∧ Below w.heap.size w w' := by
  have := order_any w h hn g ids hg hi
  rwa [decide_eq_true he] at this
/-- What the head has while it makes its pages. -/
structure Hd (w0 w : World) (g1 g2 : Nat) : Prop where
  k1 : Blk w g1 35 (clA ex1)
  k2 : Blk w g2 35 (clA ex2)
  bel : Below w0.heap.size w0 w
theorem Hd.same {w0 w w' : World} {g1 g2 : Nat} (h : Hd w0 w g1 g2) (k : Below w.heap.size w w') : Hd w0 w' g1 g2 := ⟨h.k1.below k h.k1.lt, h.k2.below k h.k2.lt, h.bel.trans (k.mono h.bel.size)⟩
theorem Hd.drew {w0 w : World} {g1 g2 : Nat} (h : Hd w0 w g1 g2) : Hd w0 w.drew g1 g2 := h.same ⟨rfl, rfl, rfl, Nat.le_refl _, fun _ _ => rfl⟩
theorem Hd.alloc {w0 w : World} {g1 g2 : Nat} (h : Hd w0 w g1 g2) (o : Obj) : Hd w0 (w.alloc o) g1 g2 := h.same ((Below.refl _ _).alloc (Nat.le_refl _) o)
theorem below_self_alloc (w : World) (o : Obj) : Below w.heap.size w (w.alloc o) := (Below.refl _ _).alloc (Nat.le_refl _) o
theorem ex_page (w : World) (base : Nat) (l : List Cl) (hl : l.length ≤ 160) (n : Nat) (hn : l.length = n) (hb : base ≤ w.heap.size) :
    Calls Try.prog 25 #[.slice (some ⟨w.heap.size, 0, none⟩) n n] (w.alloc (.cells (cls l).toArray 35)) fun e w' => ∃ p b : Nat, e = .returned (.pointer (some ⟨p, 0, none⟩)) ∧ PP w' base p b 160 (pageS l) ∧ w.heap.size ≤ p ∧ w.heap.size ≤ b ∧ Below w.heap.size w w' := by
  subst hn
  have k := Blk.new w 35 (cls l).toArray
  have hsz : (w.alloc (.cells (cls l).toArray 35)).heap.size = w.heap.size + 1 := by simp
  have hc : ClsAt (w.alloc (.cells (cls l).toArray 35)) (w.heap.size + 1) (some ⟨w.heap.size, 0, none⟩) l := ClsAt.of_blk k (Nat.lt_succ_self _)
  refine (pp_page _ base _ _ l.length l hc (by omega) hl (by omega)).mono ?_
  rintro e w' ⟨p, b, h1, h2, h3, h4, h5⟩
  exact ⟨p, b, h1, h2, by omega, by omega, (below_self_alloc w _).trans (h5.mono (by omega))⟩
theorem stamp_at2 (W : World) (x y : Int) : Calls Try.prog 30 #[.int .i64 x, .int .i64 y] W fun e w' => e = .returned (.agg #[.int .i64 x, .int .i64 y]) ∧ Below W.heap.size W w' := stamp_any W (x, y)
theorem PP.drew {w : World} {base p b n : Nat} {L : List Cl} (h : PP w base p b n L) : PP w.drew base p b n L := h.below ⟨rfl, rfl, rfl, Nat.le_refl _, fun _ _ => rfl⟩
/-- The three pages. -/
structure Tri (w0 w : World) (pa ma na : Nat) (A : List Cl) (pb mb nb : Nat) (B : List Cl) (pc mc nc : Nat) (C : List Cl) : Prop where
  a : PP w w0.heap.size pa ma na A
  b : PP w w0.heap.size pb mb nb B
  c : PP w w0.heap.size pc mc nc C
  bel : Below w0.heap.size w0 w
  n1 : pa ≠ pb
  n2 : pa ≠ pc
  n3 : pb ≠ pc
  m2 : ma ≠ mc
  m3 : mb ≠ mc
section
variable {w0 w w' : World} {pa ma na pb mb nb pc mc nc : Nat} {A B C : List Cl}
theorem Tri.same (h : Tri w0 w pa ma na A pb mb nb B pc mc nc C) (k : Below w.heap.size w w') : Tri w0 w' pa ma na A pb mb nb B pc mc nc C :=
  ⟨h.a.below k, h.b.below k, h.c.below k, h.bel.trans (k.mono h.bel.size), h.n1, h.n2, h.n3, h.m2, h.m3⟩
theorem Tri.put (h : Tri w0 w pa ma na A pb mb nb B pc mc nc C) (hn : nc ≤ 100000) (x : Cl) :
    Calls Try.prog 14 #[.pointer (some ⟨pc, 0, none⟩), .agg (clA x)] w fun e w' => e = .returned (.int .i64 (putS C x).2) ∧ Tri w0 w' pa ma na A pb mb nb B pc mc (nc + 1) (putS C x).1 :=
  (pp_put w h.c hn x).mono fun _ _ ⟨h1, h2, h3⟩ => ⟨h1, h.a.far h.c h.m2 h3, h.b.far h.c h.m3 h3, h2, h.bel.trans (h3.below h.bel.size fun i hi => by rw [hi]; exact h.c.lob), h.n1, h.n2, h.n3, h.m2, h.m3⟩
theorem Tri.drop (h : Tri w0 w pa ma na A pb mb nb B pc mc nc C) (t : St2) :
    Calls Try.prog 12 #[.pointer (some ⟨pc, 0, none⟩), .agg (stA t)] w fun e w' => e = .returned (.int .i64 (dropS C t).2) ∧ Tri w0 w' pa ma na A pb mb nb B pc mc nc (dropS C t).1 :=
  (pp_drop w h.c t).mono fun _ _ ⟨h1, h2, h3⟩ => ⟨h1, h.a.far h.c h.m2 h3, h.b.far h.c h.m3 h3, h2, h.bel.trans (h3.below h.bel.size fun i hi => by rw [hi]; exact h.c.lob), h.n1, h.n2, h.n3, h.m2, h.m3⟩
theorem Tri.joina (h : Tri w0 w pa ma na A pb mb nb B pc mc nc C) (h1 : na ≤ 100000) (h2 : nc ≤ 100000) :
    Calls Try.prog 19 #[.pointer (some ⟨pa, 0, none⟩), .pointer (some ⟨pc, 0, none⟩)] w fun e w' => e = .returned (.int .i64 (joinS A C).2) ∧ ∃ ma', Tri w0 w' pa ma' (na + nc) (joinS A C).1 pb mb nb B pc mc nc C :=
  (pp_join w h.a h.c h1 h2).mono fun _ _ ⟨e1, ⟨b', k1, k2⟩, k3⟩ => ⟨e1, b', k1, h.b.farp h.a h.n1.symm k3, h.c.farp h.a h.n2.symm k3, h.bel.trans (k3.below h.bel.size fun i hi => by rw [hi]; exact h.a.lo), h.n1, h.n2, h.n3, by
    rcases k2 with rfl | k2
    · exact h.m2
    · have := h.c.at_.ltb; omega, h.m3⟩
theorem Tri.joinb (h : Tri w0 w pa ma na A pb mb nb B pc mc nc C) (h1 : nb ≤ 100000) (h2 : nc ≤ 100000) :
    Calls Try.prog 19 #[.pointer (some ⟨pb, 0, none⟩), .pointer (some ⟨pc, 0, none⟩)] w fun e w' => e = .returned (.int .i64 (joinS B C).2) ∧ ∃ mb', Tri w0 w' pa ma na A pb mb' (nb + nc) (joinS B C).1 pc mc nc C :=
  (pp_join w h.b h.c h1 h2).mono fun _ _ ⟨e1, ⟨b', k1, k2⟩, k3⟩ => ⟨e1, b', h.a.farp h.b h.n1 k3, k1, h.c.farp h.b h.n3.symm k3, h.bel.trans (k3.below h.bel.size fun i hi => by rw [hi]; exact h.b.lo), h.n1, h.n2, h.n3, h.m2, by
    rcases k2 with rfl | k2
    · exact h.m3
    · have := h.c.at_.ltb; omega⟩
end
theorem ex_order (w : World) {base p b n : Nat} {L : List Cl} (h : PP w base p b n L) (hn : n ≤ 100000) (ids : List St2) (hi : ids.length ≤ 1000) (m : Nat) (hm : ids.length = m) (he : (walkS L).map (fun c => c.id) = ids) :
    Calls Try.prog 31 #[.pointer (some ⟨p, 0, none⟩), .slice (some ⟨w.heap.size, 0, none⟩) m m] (w.alloc (.cells (sts ids) 29)) fun e w' => e = .returned (.bool true) ∧ Below w.heap.size w w' := by
  subst hm
  refine (order_yes _ (h.below (below_self_alloc w _)) hn w.heap.size ids (Blk.new w _ _) hi he).mono ?_
  rintro e w' ⟨h1, h2⟩
  exact ⟨h1, (below_self_alloc w _).trans (h2.mono (by simp))⟩
theorem agg_len {w : World} {base : Nat} {v : Value} {l : List Cl} (h : OwnCls w base v l) {n : Nat} (hn : l.length = n) : ∃ A cap, v = .slice A n cap := by
  subst hn
  exact h.len
theorem pts_len2 {w : World} {base : Nat} {v : Value} {l : List Pt} (h : OwnPts w base v l) {n : Nat} (hn : l.length = n) : ∃ A cap, v = .slice A n cap := by
  subst hn
  obtain ⟨A, cap, h1, _⟩ := h.form
  exact ⟨A, cap, h1⟩
set_option maxRecDepth 100000 in
set_option maxHeartbeats 8000000 in
theorem head_any (w : World) : Calls Try.prog 9 #[] w fun e w' => e = .returned (.bool true) ∧ Below w.heap.size w w' := by
  have hst := Lib.hid stamp_at2
  obtain ⟨C1, h1⟩ : ∃ x, clA ex1 = x := ⟨_, rfl⟩
  obtain ⟨C2, h2⟩ : ∃ x, clA ex2 = x := ⟨_, rfl⟩
  have H1 := Lib.hid h1
  have H2 := Lib.hid h2
  have z1 : C1.size = 20 := by rw [← h1]; rfl
  have z2 : C2.size = 20 := by rw [← h2]; rfl
  clear h1 h2
  go_enter Try.func9, Try.ntmps9
  go_wp2_with fail
  refine (hst.out _ _ _).mono ?_
  rintro e w1 ⟨rfl, b1⟩
  have p1 := put_cl w1 ex1
  have k1 := Blk.new w1 35 (clA ex1)
  have B1 := Lib.hid (b1.alloc b1.size (.cells (clA ex1) 35))
  rw [H1.out] at p1 k1 B1
  have K1 := Lib.hid k1
  clear b1 k1
  go_wp2_with (refine wpList_val rfl (op := .build 35 #[(0, .tmp 9)]) rfl (.agg C1) (by rw [← H1.out]; kernel_rfl) ?_)
  clear p1
  generalize hg1 : w1.heap.size = g1 at *
  clear hg1
  generalize w1.alloc (.cells C1 35) = w2 at *
  refine (hst.out _ _ _).mono ?_
  rintro e w3 ⟨rfl, b3⟩
  have K1b := Lib.hid (K1.out.below b3 K1.out.lt)
  have B3 := Lib.hid (B1.out.trans (b3.mono B1.out.size))
  clear b3 K1 B1
  go_wp2_with fail
  refine (hst.out _ _ _).mono ?_
  rintro e w4 ⟨rfl, b4⟩
  have K1c := K1b.out.below b4 K1b.out.lt
  have b5 := B3.out.trans (b4.mono B3.out.size)
  have p2 := put_cl w4 ex2
  have k2 := Blk.new w4 35 (clA ex2)
  have B5 := b5.alloc b5.size (.cells (clA ex2) 35)
  have k1 := K1c.alloc (.cells (clA ex2) 35)
  have HD := Lib.hid (show Hd w _ g1 w4.heap.size from ⟨by rw [H1.out]; exact k1, k2, B5⟩)
  rw [H2.out] at p2 HD
  clear b5 k1 k2 b4 K1b B3 K1c B5
  go_upto_region 3 with (refine wpList_val rfl (op := .build 35 #[(0, .tmp 11), (1, .tmp 12), (2, .tmp 13)]) rfl (.agg C2) (by rw [← H2.out]; kernel_rfl) ?_)
  clear p2
  generalize hg2 : w4.heap.size = g2 at *
  clear hg2
  generalize w4.alloc (.cells C2 35) = w5 at *
  refine wp_region_hold (fun W => Hd w W g1 g2) [0] [1, 2] [3, 4, 5] (by kernel_rfl) (by kernel_rfl) (fun _ d _ _ _ h => by cases d <;> exact h) HD.out.drew ?_
  simp only [pick, List.drop_succ_cons, List.drop_zero, List.head?_cons, Option.toList_some, List.cons_append, List.nil_append, List.append_nil]
  refine wpHeld_step (.agg C1) rfl ?_ ?_
  · intro W hW; rw [← H1.out]; refine exec_load_cl (x := .tmp 1) ?_ ?_ hW.k1 <;> rfl
  refine wpHeld_nil ?_
  simp only [wpEarly]
  have HD1 := Lib.hid HD.out.drew
  clear HD
  generalize w5.drew = w6 at *
  go_wp2_with fail
  refine (hst.out _ _ _).mono ?_
  rintro e w7 ⟨rfl, b7⟩
  have HD2 := Lib.hid (HD1.out.same b7)
  clear HD1
  have HD1 := HD2
  clear HD2
  clear b7
  go_wp2_with fail
  refine ⟨HD1.out, ?_⟩
  obtain ⟨CX, hx⟩ : ∃ x, clA ex3 = x := ⟨_, rfl⟩
  have HX := Lib.hid hx
  clear hx
  go_wp2_with (refine wpList_val rfl (op := .build 35 #[(0, .tmp 16)]) rfl (.agg CX) (by rw [← HX.out]; kernel_rfl) ?_)
  refine ⟨HD1.out, ?_⟩
  go_wp2_with (refine wpList_new rfl (op := .buildSlice 42 2 #[(0, .tmp 15), (1, .tmp 17)]) rfl (.slice (some ⟨w7.heap.size, 0, none⟩) 2 2) (w7.alloc (.cells (cls [ex1, ex3]).toArray 35)) (by rw [← HX.out, ← H1.out]; kernel_rfl) ?_)
  refine (ex_page _ w.heap.size [ex1, ex3] (by decide) 2 rfl HD1.out.bel.size).mono ?_
  rintro e w8 ⟨pa, ma, rfl, Pa, xa, ya, b8⟩
  have HPa := Lib.hid Pa
  have HD := Lib.hid (HD1.out.same b8)
  clear Pa xa ya b8 HX HD1
  go_upto_region 4 with fail
  refine wp_region_hold (fun W => Hd w W g1 g2) [0, 1] [2, 3, 4] [5, 6, 7] (by kernel_rfl) (by kernel_rfl) (fun _ d _ _ _ h => by cases d <;> exact h) HD.out.drew ?_
  simp only [pick, List.drop_succ_cons, List.drop_zero, List.head?_cons, Option.toList_some, List.cons_append, List.nil_append, List.append_nil]
  refine wpHeld_step (.agg C1) rfl ?_ ?_
  · intro W hW; rw [← H1.out]; refine exec_load_cl (x := .tmp 1) ?_ ?_ hW.k1 <;> rfl
  refine wpHeld_step (.agg C2) rfl ?_ ?_
  · intro W hW; rw [← H2.out]; refine exec_load_cl (x := .tmp 2) ?_ ?_ hW.k2 <;> rfl
  refine wpHeld_nil ?_
  simp only [wpEarly]
  have HD1 := Lib.hid HD.out.drew
  have HQ := Lib.hid HPa.out.drew
  clear HPa
  have HPa := HQ
  clear HQ
  clear HD
  generalize w8.drew = w9 at *
  go_wp2_with fail
  refine (hst.out _ _ _).mono ?_
  rintro e w10 ⟨rfl, b10⟩
  have HD2 := Lib.hid (HD1.out.same b10)
  clear HD1
  have HD1 := HD2
  clear HD2
  have HQ := Lib.hid (HPa.out.below b10)
  clear HPa
  have HPa := HQ
  clear HQ
  clear b10
  go_wp2_with fail
  refine ⟨HD1.out, ?_⟩
  go_wp2_with fail
  refine (hst.out _ _ _).mono ?_
  rintro e w11 ⟨rfl, b11⟩
  have HD2 := Lib.hid (HD1.out.same b11)
  clear HD1
  have HD1 := HD2
  clear HD2
  have HQ := Lib.hid (HPa.out.below b11)
  clear HPa
  have HPa := HQ
  clear HQ
  clear b11
  go_wp2_with fail
  refine ⟨HD1.out, ?_⟩
  obtain ⟨CX, hx⟩ : ∃ x, clA ex4 = x := ⟨_, rfl⟩
  have HX := Lib.hid hx
  clear hx
  go_wp2_with (refine wpList_val rfl (op := .build 35 #[(0, .tmp 22), (1, .tmp 23)]) rfl (.agg CX) (by rw [← HX.out]; kernel_rfl) ?_)
  refine ⟨HD1.out, ?_⟩
  go_wp2_with (refine wpList_new rfl (op := .buildSlice 42 3 #[(0, .tmp 20), (1, .tmp 21), (2, .tmp 24)]) rfl (.slice (some ⟨w11.heap.size, 0, none⟩) 3 3) (w11.alloc (.cells (cls [ex1, ex2, ex4]).toArray 35)) (by rw [← HX.out, ← H1.out, ← H2.out]; kernel_rfl) ?_)
  refine (ex_page _ w.heap.size [ex1, ex2, ex4] (by decide) 3 rfl HD1.out.bel.size).mono ?_
  rintro e w12 ⟨pb, mb, rfl, Pb, xb, yb, b12⟩
  have npab : pa ≠ pb := by have := HPa.out.at_.blk.lt; omega
  have nmab : ma ≠ mb := by have := HPa.out.at_.ltb; omega
  have NPab := Lib.hid npab
  have NMab := Lib.hid nmab
  clear npab nmab
  have HPb := Lib.hid Pb
  have HD := Lib.hid (HD1.out.same b12)
  have HQ := Lib.hid (HPa.out.below b12)
  clear HPa
  have HPa := HQ
  clear HQ
  clear Pb xb yb b12 HX HD1
  go_upto_region 5 with fail
  refine wp_region_hold (fun W => Hd w W g1 g2) [0, 1] [2, 3] [4, 5, 6] (by kernel_rfl) (by kernel_rfl) (fun _ d _ _ _ h => by cases d <;> exact h) HD.out.drew ?_
  simp only [pick, List.drop_succ_cons, List.drop_zero, List.head?_cons, Option.toList_some, List.cons_append, List.nil_append, List.append_nil]
  refine wpHeld_step (.agg C1) rfl ?_ ?_
  · intro W hW; rw [← H1.out]; refine exec_load_cl (x := .tmp 1) ?_ ?_ hW.k1 <;> rfl
  refine wpHeld_step (.agg C2) rfl ?_ ?_
  · intro W hW; rw [← H2.out]; refine exec_load_cl (x := .tmp 2) ?_ ?_ hW.k2 <;> rfl
  refine wpHeld_nil ?_
  simp only [wpEarly]
  have HD1 := Lib.hid HD.out.drew
  have HQ := Lib.hid HPa.out.drew
  clear HPa
  have HPa := HQ
  clear HQ
  have HQ := Lib.hid HPb.out.drew
  clear HPb
  have HPb := HQ
  clear HQ
  clear HD
  generalize w12.drew = w13 at *
  go_wp2_with fail
  refine (hst.out _ _ _).mono ?_
  rintro e w14 ⟨rfl, b14⟩
  have HD2 := Lib.hid (HD1.out.same b14)
  clear HD1
  have HD1 := HD2
  clear HD2
  have HQ := Lib.hid (HPa.out.below b14)
  clear HPa
  have HPa := HQ
  clear HQ
  have HQ := Lib.hid (HPb.out.below b14)
  clear HPb
  have HPb := HQ
  clear HQ
  clear b14
  go_wp2_with fail
  refine ⟨HD1.out, ?_⟩
  obtain ⟨CX, hx⟩ : ∃ x, clA ex5 = x := ⟨_, rfl⟩
  have HX := Lib.hid hx
  clear hx
  go_wp2_with (refine wpList_val rfl (op := .build 35 #[(0, .tmp 29)]) rfl (.agg CX) (by rw [← HX.out]; kernel_rfl) ?_)
  refine ⟨HD1.out, ?_⟩
  go_wp2_with (refine wpList_new rfl (op := .buildSlice 42 3 #[(0, .tmp 27), (1, .tmp 28), (2, .tmp 30)]) rfl (.slice (some ⟨w14.heap.size, 0, none⟩) 3 3) (w14.alloc (.cells (cls [ex1, ex2, ex5]).toArray 35)) (by rw [← HX.out, ← H1.out, ← H2.out]; kernel_rfl) ?_)
  refine (ex_page _ w.heap.size [ex1, ex2, ex5] (by decide) 3 rfl HD1.out.bel.size).mono ?_
  rintro e w15 ⟨pc, mc, rfl, Pc, xc, yc, b15⟩
  have npac : pa ≠ pc := by have := HPa.out.at_.blk.lt; omega
  have nmac : ma ≠ mc := by have := HPa.out.at_.ltb; omega
  have NPac := Lib.hid npac
  have NMac := Lib.hid nmac
  clear npac nmac
  have npbc : pb ≠ pc := by have := HPb.out.at_.blk.lt; omega
  have nmbc : mb ≠ mc := by have := HPb.out.at_.ltb; omega
  have NPbc := Lib.hid npbc
  have NMbc := Lib.hid nmbc
  clear npbc nmbc
  have HPc := Lib.hid Pc
  have HD := Lib.hid (HD1.out.same b15)
  have HQ := Lib.hid (HPa.out.below b15)
  clear HPa
  have HPa := HQ
  clear HQ
  have HQ := Lib.hid (HPb.out.below b15)
  clear HPb
  have HPb := HQ
  clear HQ
  clear Pc xc yc b15 HX HD1
  have HT := Lib.hid (show Tri w w15 pa ma 160 lA pb mb 160 lB pc mc 160 lC from ⟨HPa.out, HPb.out, HPc.out, HD.out.bel, NPab.out, NPac.out, NPbc.out, NMac.out, NMbc.out⟩)
  clear HPa HPb HPc HD NPab NPac NPbc NMab NMac NMbc H1 H2 z1 z2
  go_wp2_with fail
  refine (hst.out _ _ _).mono ?_
  rintro e w16 ⟨rfl, b16⟩
  have HQ := Lib.hid (HT.out.same b16)
  clear HT b16
  have HT := HQ
  clear HQ
  go_wp2_with fail
  refine (hst.out _ _ _).mono ?_
  rintro e w17 ⟨rfl, b17⟩
  have HQ := Lib.hid (HT.out.same b17)
  clear HT b17
  have HT := HQ
  clear HQ
  go_wp2_with (refine wpList_valg rfl (op := .buildSlice 80 2 #[(0, .tmp 34), (1, .tmp 35)]) rfl (.slice (some ⟨w17.heap.size, 0, none⟩) 2 2) (w17.alloc (.cells (sts [(2, 2), (1, 1)]) 29)) (by kernel_rfl) ?_)
  refine (ex_order w17 HT.out.a (by decide) [(2, 2), (1, 1)] (by decide) 2 rfl ex_all.1.1).mono ?_
  rintro e w18 ⟨rfl, b18⟩
  have HQ := Lib.hid (HT.out.same b18)
  clear HT b18
  have HT := HQ
  clear HQ
  go_wp2_with fail
  refine (hst.out _ _ _).mono ?_
  rintro e w19 ⟨rfl, b19⟩
  have HQ := Lib.hid (HT.out.same b19)
  clear HT b19
  have HT := HQ
  clear HQ
  go_wp2_with fail
  refine (hst.out _ _ _).mono ?_
  rintro e w20 ⟨rfl, b20⟩
  have HQ := Lib.hid (HT.out.same b20)
  clear HT b20
  have HT := HQ
  clear HQ
  go_wp2_with fail
  refine (hst.out _ _ _).mono ?_
  rintro e w21 ⟨rfl, b21⟩
  have HQ := Lib.hid (HT.out.same b21)
  clear HT b21
  have HT := HQ
  clear HQ
  go_wp2_with (refine wpList_valg rfl (op := .buildSlice 80 3 #[(0, .tmp 41), (1, .tmp 42), (2, .tmp 43)]) rfl (.slice (some ⟨w21.heap.size, 0, none⟩) 3 3) (w21.alloc (.cells (sts [(1, 1), (2, 2), (1, 2)]) 29)) (by kernel_rfl) ?_)
  refine (ex_order w21 HT.out.b (by decide) [(1, 1), (2, 2), (1, 2)] (by decide) 3 rfl ex_all.1.2.1).mono ?_
  rintro e w22 ⟨rfl, b22⟩
  have HQ := Lib.hid (HT.out.same b22)
  clear HT b22
  have HT := HQ
  clear HQ
  go_wp2_with fail
  refine (hst.out _ _ _).mono ?_
  rintro e w23 ⟨rfl, b23⟩
  have HQ := Lib.hid (HT.out.same b23)
  clear HT b23
  have HT := HQ
  clear HQ
  go_wp2_with fail
  refine (hst.out _ _ _).mono ?_
  rintro e w24 ⟨rfl, b24⟩
  have HQ := Lib.hid (HT.out.same b24)
  clear HT b24
  have HT := HQ
  clear HQ
  go_wp2_with fail
  refine (hst.out _ _ _).mono ?_
  rintro e w25 ⟨rfl, b25⟩
  have HQ := Lib.hid (HT.out.same b25)
  clear HT b25
  have HT := HQ
  clear HQ
  go_wp2_with (refine wpList_valg rfl (op := .buildSlice 80 3 #[(0, .tmp 50), (1, .tmp 51), (2, .tmp 52)]) rfl (.slice (some ⟨w25.heap.size, 0, none⟩) 3 3) (w25.alloc (.cells (sts [(3, 3), (1, 1), (2, 2)]) 29)) (by kernel_rfl) ?_)
  refine (ex_order w25 HT.out.c (by decide) [(3, 3), (1, 1), (2, 2)] (by decide) 3 rfl ex_all.1.2.2).mono ?_
  rintro e w26 ⟨rfl, b26⟩
  have HQ := Lib.hid (HT.out.same b26)
  clear HT b26
  have HT := HQ
  clear HQ
  go_wp2_with fail
  refine (hst.out _ _ _).mono ?_
  rintro e w27 ⟨rfl, b27⟩
  have HQ := Lib.hid (HT.out.same b27)
  clear HT b27
  have HT := HQ
  clear HQ
  obtain ⟨CX, hx⟩ : ∃ x, clA ex3 = x := ⟨_, rfl⟩
  have HX := Lib.hid hx
  clear hx
  have HPU := Lib.hid (HT.out.put (by decide) ex3)
  rw [HX.out] at HPU
  go_wp2_with (refine wpList_val rfl (op := .build 35 #[(0, .tmp 58)]) rfl (.agg CX) (by rw [← HX.out]; kernel_rfl) ?_)
  refine HPU.out.mono ?_
  rintro e w28 ⟨he, t28⟩
  obtain rfl : e = .returned (.int .i64 9) := he.trans (by rw [show (putS lC ex3).2 = 9 from ex_all.2.1.1])
  clear he HT HPU HX
  have HT := Lib.hid (show Tri w w28 pa ma 160 lA pb mb 160 lB pc mc 161 lC1 from t28)
  clear t28
  go_wp2_with fail
  refine (hst.out _ _ _).mono ?_
  rintro e w29 ⟨rfl, b29⟩
  have HQ := Lib.hid (HT.out.same b29)
  clear HT b29
  have HT := HQ
  clear HQ
  go_wp2_with fail
  refine (hst.out _ _ _).mono ?_
  rintro e w30 ⟨rfl, b30⟩
  have HQ := Lib.hid (HT.out.same b30)
  clear HT b30
  have HT := HQ
  clear HQ
  obtain ⟨CX, hx⟩ : ∃ x, clA ex6 = x := ⟨_, rfl⟩
  have HX := Lib.hid hx
  clear hx
  have HPU := Lib.hid (HT.out.put (by decide) ex6)
  rw [HX.out] at HPU
  go_wp2_with (refine wpList_val rfl (op := .build 35 #[(0, .tmp 62), (1, .tmp 63)]) rfl (.agg CX) (by rw [← HX.out]; kernel_rfl) ?_)
  refine HPU.out.mono ?_
  rintro e w31 ⟨he, t31⟩
  obtain rfl : e = .returned (.int .i64 11) := he.trans (by rw [show (putS lC1 ex6).2 = 11 from ex_all.2.1.2.1])
  clear he HT HPU HX
  have HT := Lib.hid (show Tri w w31 pa ma 160 lA pb mb 160 lB pc mc 162 lC2 from t31)
  clear t31
  go_wp2_with fail
  refine (hst.out _ _ _).mono ?_
  rintro e w32 ⟨rfl, b32⟩
  have HQ := Lib.hid (HT.out.same b32)
  clear HT b32
  have HT := HQ
  clear HQ
  go_wp2_with fail
  refine (HT.out.drop (1, 1)).mono ?_
  rintro e w33 ⟨he, t33⟩
  obtain rfl : e = .returned (.int .i64 0) := he.trans (by rw [show (dropS lC2 (1, 1)).2 = 0 from ex_all.2.1.2.2])
  clear he HT
  have HT := Lib.hid (show Tri w w33 pa ma 160 lA pb mb 160 lB pc mc 162 lC3 from t33)
  clear t33
  go_wp2_with fail
  refine (pp_list _ HT.out.c (by decide)).mono ?_
  rintro e w34 ⟨v1, rfl, o1, b34⟩
  have HQ := Lib.hid (HT.out.same b34)
  clear HT b34
  have HT := HQ
  clear HQ
  obtain ⟨A1, c1, rfl⟩ := agg_len o1 ex_all.2.2.1
  clear o1
  go_wp2_with fail
  refine (pp_patches _ HT.out.c (by decide)).mono ?_
  rintro e w35 ⟨v1, rfl, o1, b35⟩
  have HQ := Lib.hid (HT.out.same b35)
  clear HT b35
  have HT := HQ
  clear HQ
  obtain ⟨A2, c2, rfl⟩ := pts_len2 o1 ex_all.2.2.2.1
  clear o1
  go_wp2_with fail
  refine (HT.out.joina (by decide) (by decide)).mono ?_
  rintro e w36 ⟨he, ma2, t36⟩
  obtain rfl : e = .returned (.int .i64 9) := he.trans (by rw [ex_all.2.2.2.2.1])
  clear he HT
  have HT := Lib.hid t36
  clear t36
  go_wp2_with fail
  refine (HT.out.joinb (by decide) (by decide)).mono ?_
  rintro e w37 ⟨he, mb2, t37⟩
  obtain rfl : e = .returned (.int .i64 0) := he.trans (by rw [ex_all.2.2.2.2.2.1])
  clear he HT
  have HT := Lib.hid t37
  clear t37
  go_wp2_with fail
  refine (pp_list _ HT.out.b (by decide)).mono ?_
  rintro e w38 ⟨v1, rfl, o1, b38⟩
  have HQ := Lib.hid (HT.out.same b38)
  clear HT b38
  have HT := HQ
  clear HQ
  obtain ⟨A3, c3, rfl⟩ := agg_len o1 (show (walkS lB1).length = 4 from ex_all.2.2.2.2.2.2)
  clear o1
  have hbel := HT.out.bel
  clear HT hst
  go_wp2
  go_ret
  exact ⟨rfl, hbel⟩
end Go.Proofs.Ytbihklfcdpgcgaa
