/- Part 9 of what the laws of this seat stand on: Hv, Ia, Ib, Ic, Ie, Ig. -/
import Derived.Test.YtaicbllfkehhjaaY8

/- New. -/
namespace Go.Proofs.Ytaicbllfkehhjaa
open Go.RowKit

theorem cnew_bad (w : World) (s : Int) (h : s < 1 ∨ 60 < s) :
    Calls Try.prog 10 #[.int .i64 s] w fun e w' => e = .returned (.tuple #[.pointer none, .int .i64 1]) ∧ w' = w := by
  by_cases h1 : s < 1
  · go_enter Try.func10, Try.ntmps10
    go_wp2_with fail
    exact bodyPost_ret (v := .tuple #[.pointer none, .int .i64 1]) (by simp [results, Try.results10]) rfl ⟨rfl, rfl⟩
  · have h2 : 60 < s := by omega
    go_enter Try.func10, Try.ntmps10
    go_wp2_with fail
    exact bodyPost_ret (v := .tuple #[.pointer none, .int .i64 1]) (by simp [results, Try.results10]) rfl ⟨rfl, rfl⟩
theorem info_seat : (Try.prog.info? 72).map (fun i => (i.zero, i.size, i.bytes)) = some (some (.agg #[.pointer none, .int .i64 0]), 2, 16) := by kernel_rfl
def Dn (n i k : Nat) : Nat → Nat → Prop := fun a b => b < n ∧ a ≠ b ∧ (a < i ∨ (a = i ∧ b < k))

set_option maxRecDepth 100000 in
set_option maxHeartbeats 4000000 in
theorem cnew_ok (w : World) (n : Nat) (h1 : 1 ≤ n) (h2 : n ≤ 60) :
    Calls Try.prog 10 #[.int .i64 (n : Int)] w fun e w' => ∃ y V, e = .returned (.tuple #[.pointer (some ⟨y.p, 0, none⟩), .int .i64 0]) ∧ ChAt w' y V n (newS n) ∧ Below w.heap.size w w' ∧ ∀ g, Fo y V n g → w.heap.size ≤ g := by
  have hn1 : ¬ (n : Int) < 1 := by omega
  have hn2 : ¬ (60 : Int) < (n : Int) := by omega
  have hmm := @run_makeMap Try.prog
  obtain ⟨q, hq⟩ : ∃ q, w.heap.size = q := ⟨_, rfl⟩
  have hb0 : Below q w ((w.alloc (.map #[] 0)).alloc (.cells #[.slice none 0 0, .map (some q)] 68)) := by
    subst hq
    exact ((Below.refl _ w).alloc (Nat.le_refl _) _).alloc (by simp) _
  have hB : Bd q ((w.alloc (.map #[] 0)).alloc (.cells #[.slice none 0 0, .map (some q)] 68)) (q + 1) q 0 (.slice none 0 0) (fun _ => 0) (fun _ => 0) (fun _ _ => 0) [] (Dn n 0 0) := by
    subst hq
    exact {
      blk := Blk.new1 w _ _ _
      sts := World.ownsRow_nil _ _ _ _
      map := (MapV.made w).alloc _
      key := fun x hx => by cases hx
      mem := fun a b hd => by unfold Dn at hd; omega
      new := fun x hx => by cases hx
      pgs := fun a ha => by omega
      ques := fun a b hd => by unfold Dn at hd; omega
      lo := ⟨Nat.le_refl _, fun a ha => by omega, fun a b hd => by unfold Dn at hd; omega⟩
      lop := by omega
      injM := fun a b ha => by omega
      nemb := fun a ha => by omega
      injQ := fun a b c d hd => by unfold Dn at hd; omega }
  rw [hq]
  have HQ := Lib.hid hq
  have HB0 := Lib.hid hb0
  have HB := Lib.hid hB
  clear hb0 hB
  go_enter Try.func10, Try.ntmps10
  go_wp2_with fail
  generalize (w.alloc (.map #[] 0)).alloc (.cells #[.slice none 0 0, .map (some q)] 68) = W0 at *
  clear hmm
  go_loopw [17] (fun v wr => ∃ i : Nat, i ≤ n ∧ v = .int .i64 (i : Int) ∧ ∃ sv P M Q L, Hid (Bd q wr (q + 1) q i sv P M Q L (Dn n i 0)) ∧ Hid (Below q w wr)) (fun v _ => n - (intOf v).toNat)
  case atStart => exact ⟨0, Nat.zero_le _, rfl, _, _, _, _, _, HB, HB0⟩
  case round =>
    obtain ⟨i, hi, rfl, sv, P, M, Q, L, HD, HW⟩ := hrel
    clear HB HB0
    have HQW := Lib.hid (show q ≤ wr.heap.size from by rw [← hq]; exact HW.out.size)
    by_cases hlt : i < n
    · have hi0 : (0 : Int) ≤ (i : Int) := by omega
      have hi1 : (i : Int) < (n : Int) := by omega
      go_upto_region 7 with fail
      refine wp_region_hold (fun W => Blk W (q + 1) 68 #[sv, .map (some q)]) [0, 1, 2, 3, 4, 6] [5, 7, 8, 9] [10, 11, 12] (by kernel_rfl) (by kernel_rfl) (fun _ d _ _ _ h => by cases d <;> exact h) (HD.out.blk.drewN 1) ?_
      simp only [pick, List.drop_succ_cons, List.drop_zero, List.head?_cons, Option.toList_some, List.cons_append, List.nil_append, List.append_nil]
      try simp only [Act.put]
      repeat ((refine wpHeld_step ?_ rfl ?_ ?_; rotate_left; · (intro W hW; have c0 : W.cell? ⟨q + 1, 0, none⟩ = some sv := hW.cell 0; (go_simp; try with_reducible rfl))); simp only [Act.put, List.setIfInBounds_toArray, List.set_cons_succ, List.set_cons_zero])
      refine wpHeld_nil ?_
      simp only [wpEarly]
      go_wp2_with fail
      refine (new_any wr.drew).mono ?_
      rintro e w2 ⟨Pn, Mn, rfl, hp, lP, lM, b2⟩
      replace b2 : Below wr.heap.size wr w2 := ⟨b2.os, b2.tape, b2.output, b2.size, b2.block⟩
      have hD2 := HD.out.below b2
      have HP := Lib.hid hp
      have B2 := Lib.hid b2
      have HD2 := Lib.hid hD2
      clear hp b2 hD2
      go_wp2_with fail
      refine ⟨HD2.out.blk, ?_⟩
      go_wp2_with fail
      refine ⟨HD2.out.blk, ?_⟩
      go_wp2_with fail
      refine ⟨HD2.out.blk.alloc _, ?_⟩
      have h3 := HD2.out.below (below_self_alloc w2 (.cells #[.pointer (some ⟨Pn, 0, none⟩), .int .i64 (i : Int)] 72))
      have kN := Blk.new w2 72 #[.pointer (some ⟨Pn, 0, none⟩), .int .i64 (i : Int)]
      obtain ⟨i0, hi', hz0, hz1, hz2⟩ := info_parts info_seat
      have hbase : q ≤ (w2.alloc (.cells #[.pointer (some ⟨Pn, 0, none⟩), .int .i64 (i : Int)] 72)).heap.size := by
        have := HW.out.size
        have := B2.out.size
        simp
        omega
      have hnews : ∀ (j : Nat) (u : Value), (rowP (fun _ => Pn) i)[j]? = some u → (w2.alloc (.cells #[.pointer (some ⟨Pn, 0, none⟩), .int .i64 (i : Int)] 72)).cell? ((⟨w2.heap.size, 0, none⟩ : Addr).add j) = some u := fun j u hu => by
        rw [addr_add1, Nat.zero_add]
        rw [kN.cell j]
        simpa [rowP] using hu
      have h3s := h3.sts
      have hmx : i + 1 ≤ maxLen := Nat.le_trans (show i + 1 ≤ 100 by omega) (by decide)
      have hby : (i + 1) * 16 ≤ 140737488355328 := by omega
      have hone : ∀ u ∈ rowP (fun _ => Pn) i, u.oneCell' = true := fun u hu => by
        simp only [rowP, List.mem_cons, List.not_mem_nil, or_false] at hu
        rcases hu with rfl | rfl <;> rfl
      have HMX := Lib.hid hmx
      have HBY := Lib.hid hby
      have HONE := Lib.hid hone
      have H3 := Lib.hid h3
      have HNEWS := Lib.hid hnews
      have HBASE := Lib.hid hbase
      have HSTS := Lib.hid h3s
      clear h3 kN hnews hbase h3s hmx hby hone
      at_builtin
      refine wpList_append_own _ rfl _ _ 66 rfl q 72 i0 _ 2 16 Try.underlying66 hi' hz0 hz1 hz2 rfl (by decide) _ _ _ rfl HSTS.out ⟨w2.heap.size, 0, none⟩ 1 1 (rowP (fun _ => Pn) i) rfl rfl HNEWS.out HONE.out HMX.out HBY.out HBASE.out ?_
      intro v' w4 hown' hg' _
      obtain ⟨g', cap', hv'⟩ := ownsRow_succ hown'
      subst hv'
      have k4 := (Only.of_grown hg').blk H3.out.blk (row_ne HSTS.out H3.out.blk (by decide))
      have HBD := Lib.hid (HD.out.seat HQW.out (B2.out.trans ((below_self_alloc w2 _).mono B2.out.size)) (HP.out.below (below_self_alloc w2 (.cells #[.pointer (some ⟨Pn, 0, none⟩), .int .i64 (i : Int)] 72))) lM hown' hg')
      have HB5 := Lib.hid ((((HW.out.trans (B2.out.mono HQW.out)).alloc (Nat.le_trans HQW.out B2.out.size) (.cells #[.pointer (some ⟨Pn, 0, none⟩), .int .i64 (i : Int)] 72)).grown hg' HBASE.out (fun k e => (World.ownsRow.lt HSTS.out k e).1)).setCell (p := ⟨q + 1, 0, none⟩) (Nat.le_succ q) (.slice (some ⟨g', 0, none⟩) (i + 1) cap'))
      have k4a := k4.all
      obtain ⟨d0, df, dl⟩ := k4a
      have K4 := Lib.hid k4
      clear k4 hown' hg' HW HD H3 HNEWS HBASE HSTS HD2 HP B2
      go_wp2_with fail
      refine ⟨K4.out, ?_⟩
      go_wp2_with fail
      clear d0 df dl K4
      generalize w4.setCell ⟨q + 1, 0, none⟩ (.slice (some ⟨g', 0, none⟩) (i + 1) cap') = w5 at *
      obtain ⟨we, rfl⟩ : ∃ x, x = wr := ⟨wr, rfl⟩
      go_loopw [33] (fun v wq => ∃ k : Nat, k ≤ n ∧ v = .int .i64 (k : Int) ∧ ∃ sv P M Q L, Hid (Bd q wq (q + 1) q (i + 1) sv P M Q L (Dn n i k)) ∧ Hid (Below q w wq)) (fun v _ => n - (intOf v).toNat)
      case atStart => exact ⟨0, Nat.zero_le _, rfl, _, _, _, _, _, HBD, HB5⟩
      case round =>
        obtain ⟨k, hk, rfl, sv', P', M', Q', L', HD', HW'⟩ := hrel
        clear HBD HB5
        have HQW' := Lib.hid (show q ≤ wr.heap.size from by rw [← hq]; exact HW'.out.size)
        by_cases hlk : k < n
        · have hk0 : (0 : Int) ≤ (k : Int) := by omega
          have hk1 : (k : Int) < (n : Int) := by omega
          by_cases hki : k = i
          · subst hki
            have HN := Lib.hid (HD'.out.cast (D' := Dn n k (k + 1)) fun a b => by unfold Dn; omega)
            go_wp2_with fail
            exact ⟨⟨k + 1, by omega, by go_num, _, _, _, _, _, HN, HW'⟩, by simp [intOf]; omega⟩
          · have hne : ((k : Int) != (i : Int)) = true := by
              have : (k : Int) ≠ (i : Int) := by omega
              simpa using this
            have c1 : wr.cell? ⟨q + 1, 1, none⟩ = some (.map (some q)) := HD'.out.blk.cell 1
            have hnot : ∀ x ∈ L', x.1 ≠ .agg #[.int .i64 (i : Int), .int .i64 (k : Int)] := fun x hx e => by
              obtain ⟨a, b, h1, h2⟩ := HD'.out.new x hx
              rw [h2] at e
              unfold kyA at e
              simp only [Value.agg.injEq, Array.mk.injEq, List.cons.injEq, Value.int.injEq, true_and, and_true] at e
              unfold Dn at h1
              omega
            obtain ⟨w7, hu, hm, hg⟩ := (HD'.out.map.alloc (.cells #[.slice none 0 0] qT)).upd_none kys2 Try.underlying65 HD'.out.key (x := .agg #[.int .i64 (i : Int), .int .i64 (k : Int)]) ⟨_, _, rfl⟩ hnot (.pointer (some ⟨wr.heap.size, 0, none⟩))
            have HN := Lib.hid ((HD'.out.line HQW'.out (fun e => by unfold Dn at e; omega) hm hg).cast (D' := Dn n i (k + 1)) fun a b => by unfold Dn; omega)
            have HNB := Lib.hid ((HW'.out.alloc HQW'.out (.cells #[.slice none 0 0] qT)).grown hg (by simp; have := HQW'.out; omega) (fun k e => by injection e with e; omega))
            clear hnot hm hg
            go_wp2_with fail
            exact ⟨⟨k + 1, by omega, by go_num, _, _, _, _, _, HN, HNB⟩, by simp [intOf]; omega⟩
        · obtain rfl : k = n := by omega
          have HN := Lib.hid (HD'.out.cast (D' := Dn k (i + 1) 0) fun a b => by unfold Dn; omega)
          go_wp2_with fail
          exact ⟨⟨i + 1, by omega, by go_num, _, _, _, _, _, HN, HW'⟩, by simp [intOf]; omega⟩
    · obtain rfl : i = n := by omega
      obtain ⟨y, V, hyp, hy, hf⟩ := (HD.out.cast (D' := fun a b => a < i ∧ b < i ∧ a ≠ b) fun a b => by unfold Dn; omega).done (by omega) (by omega)
      have HY := Lib.hid hy
      have HF := Lib.hid hf
      have HYP := Lib.hid hyp
      clear hy hf hyp
      go_wp2_with fail
      refine bodyPost_ret (v := .tuple #[.pointer (some ⟨q + 1, 0, none⟩), .int .i64 0]) (by simp [results, Try.results10]) rfl ⟨y, V, by rw [HYP.out], HY.out, HW.out, HF.out⟩
end Go.Proofs.Ytaicbllfkehhjaa

/- The laws' operations as arguments; few, number, within. -/
namespace Go.Proofs.Ytaicbllfkehhjaa
open Go.RowKit

/-- An operation. -/
structure OpC where
  kind : Int
  seat : Int
  to_ : Int
  st : St2
  pick : Int
  pt : Pt
  lost : Bool
def encO (o : OpC) : List Value := [.int .i64 o.kind, .int .i64 o.seat, .int .i64 o.to_, .int .i64 o.st.1, .int .i64 o.st.2, .int .u8 o.pick] ++ (encP o.pt ++ [.bool o.lost])
def opA (o : OpC) : Array Value := #[.int .i64 o.kind, .int .i64 o.seat, .int .i64 o.to_, .int .i64 o.st.1, .int .i64 o.st.2, .int .u8 o.pick, .int .i64 o.pt.1, .string o.pt.2.1, .string o.pt.2.2.1, .string o.pt.2.2.2.1, .string o.pt.2.2.2.2.1, .int .i64 o.pt.2.2.2.2.2.1.1, .string o.pt.2.2.2.2.2.1.2.1, .string o.pt.2.2.2.2.2.1.2.2.1, .string o.pt.2.2.2.2.2.1.2.2.2.1, .string o.pt.2.2.2.2.2.1.2.2.2.2.1, .string o.pt.2.2.2.2.2.1.2.2.2.2.2.1, .bool o.pt.2.2.2.2.2.1.2.2.2.2.2.2, .int .i64 o.pt.2.2.2.2.2.2.1, .string o.pt.2.2.2.2.2.2.2.1, .string o.pt.2.2.2.2.2.2.2.2, .bool o.lost]
theorem encO_opA (o : OpC) : (encO o).toArray = opA o := rfl
theorem encO_len (o : OpC) : (encO o).length = 22 := rfl
theorem opA_size (o : OpC) : (opA o).size = 22 := rfl
theorem opA_one (o : OpC) : (opA o).all (·.oneCell') = true := by simp [opA, Value.oneCell']
/-- What an operation's pick may be. -/
def OpOk (o : OpC) : Prop := 0 ≤ o.pick ∧ o.pick ≤ 255
def OpsAt (w : World) (B : Nat) (A : Option Addr) (l : List OpC) : Prop :=
  ∀ (i : Nat) (c : OpC), l[i]? = some c → ∃ g off, A = some ⟨g, off, none⟩ ∧ g < B ∧ ∀ (k : Nat) (v : Value), (encO c)[k]? = some v → w.cell? ⟨g, off + i * 22 + k, none⟩ = some v
theorem OpsAt.below {w w' : World} {B : Nat} {A : Option Addr} {l : List OpC} (h : OpsAt w B A l) (hb : Below B w w') : OpsAt w' B A l := fun i c hi => by
  obtain ⟨g, off, h1, h2, h3⟩ := h i c hi
  exact ⟨g, off, h1, h2, fun k v hv => (hb.cell (p := ⟨g, off + i * 22 + k, none⟩) h2).trans (h3 k v hv)⟩
theorem OpsAt.wide {w : World} {B B' : Nat} {A : Option Addr} {l : List OpC} (h : OpsAt w B A l) (hB : B ≤ B') : OpsAt w B' A l := fun i c hi => by
  obtain ⟨g, off, h1, h2, h3⟩ := h i c hi
  exact ⟨g, off, h1, by omega, h3⟩
section
open Go.ChangeShapes Go.WideShapes Go.Deep
variable {H : Type} {enc : TypeId × Value → H} {w : World} {base : Nat} {spare : Nat → Bool} {held : Bool}
theorem wf_u8 {n : Int} (h : (Lit.int .u8 n).wf = true) : 0 ≤ n ∧ n ≤ 255 := by
  have h2 : IntKind.u8.min ≤ n ∧ n ≤ IntKind.u8.max := by simpa [Lit.wf] using h
  exact h2
theorem twentytwo {cs : List Value} (h : cs.length = 22) : ∃ c0 c1 c2 c3 c4 c5 p0 p1 p2 p3 p4 p5 p6 p7 p8 p9 pa pb pc pd pe g, cs = [c0, c1, c2, c3, c4, c5, p0, p1, p2, p3, p4, p5, p6, p7, p8, p9, pa, pb, pc, pd, pe, g] := by
  match cs, h with
  | [c0, c1, c2, c3, c4, c5, p0, p1, p2, p3, p4, p5, p6, p7, p8, p9, pa, pb, pc, pd, pe, g], _ => exact ⟨c0, c1, c2, c3, c4, c5, p0, p1, p2, p3, p4, p5, p6, p7, p8, p9, pa, pb, pc, pd, pe, g, rfl⟩
set_option maxRecDepth 100000 in
theorem op_of_trod {fuel : Nat} {cs : List Value} (hcl : cs.length = 22) {x : DataW H × List MemPlace} (hf : DataW.trod enc Try.prog w base spare held fuel 39 cs = some x) : ∃ c : OpC, cs = encO c ∧ OpOk c := by
  obtain ⟨c0, c1, c2, c3, c4, c5, p0, p1, p2, p3, p4, p5, p6, p7, p8, p9, pa, pb, pc, pd, pe, gv, rfl⟩ := twentytwo hcl
  obtain ⟨xs, n, _, _, _, hlen, hfl⟩ := DataW.trod_struct Try.underlying39 hf
  have g : ∀ i, i < xs.length → ∃ y, xs[i]? = some y := fun i hi => ⟨_, List.getElem?_eq_getElem hi⟩
  have hl : xs.length = 7 := hlen
  obtain ⟨y0, e0⟩ := g 0 (by omega)
  obtain ⟨y1, e1⟩ := g 1 (by omega)
  obtain ⟨y2, e2⟩ := g 2 (by omega)
  obtain ⟨y3, e3⟩ := g 3 (by omega)
  obtain ⟨y4, e4⟩ := g 4 (by omega)
  obtain ⟨y5, e5⟩ := g 5 (by omega)
  obtain ⟨y6, e6⟩ := g 6 (by omega)
  obtain ⟨k0, h0, _, _⟩ := DataW.trod_int Try.underlying3 ((hfl 0 _ rfl).trans e0)
  obtain ⟨k1, h1, _, _⟩ := DataW.trod_int Try.underlying3 ((hfl 1 _ rfl).trans e1)
  obtain ⟨k2, h2, _, _⟩ := DataW.trod_int Try.underlying3 ((hfl 2 _ rfl).trans e2)
  obtain ⟨s, i0, i1⟩ := st_of_trod (show DataW.trod enc Try.prog w base spare held n 33 [c3, c4] = some y3 from (hfl 3 _ rfl).trans e3)
  obtain ⟨k4, h4, _, hwf⟩ := DataW.trod_int Try.underlying5 ((hfl 4 _ rfl).trans e4)
  obtain ⟨p, hp⟩ := pt_of_trod (show DataW.trod enc Try.prog w base spare held n 37 [p0, p1, p2, p3, p4, p5, p6, p7, p8, p9, pa, pb, pc, pd, pe] = some y5 from (hfl 5 _ rfl).trans e5)
  obtain ⟨k, h6, _⟩ := DataW.trod_bool Try.underlying4 ((hfl 6 _ rfl).trans e6)
  have q0 : c0 = .int .i64 k0 := by injection h0
  have q1 : c1 = .int .i64 k1 := by injection h1
  have q2 : c2 = .int .i64 k2 := by injection h2
  have q5 : c5 = .int .u8 k4 := by injection h4
  have q6 : gv = .bool k := by injection h6
  subst q0 q1 q2 q5 q6 i0 i1
  refine ⟨⟨k0, k1, k2, s, k4, p, k⟩, ?_, wf_u8 hwf⟩
  show [_, _, _, _, _, _] ++ ([p0, p1, p2, p3, p4, p5, p6, p7, p8, p9, pa, pb, pc, pd, pe] ++ [_]) = _
  rw [hp]
  rfl
set_option maxRecDepth 100000 in
theorem ops_at {len cap : Nat} {A : Option Addr} {d : DataW H} {p : List MemPlace} (h : DataW.Trod enc Try.prog w base spare held 22 (.slice A len cap) d p) :
    ∃ l : List OpC, l.length = len ∧ OpsAt w w.heap.size A l ∧ (∀ o ∈ l, OpOk o) ∧ len ≤ 9223372036854775807 := by
  obtain ⟨fuel, hf0⟩ := h
  have hf : DataW.trod enc Try.prog w base spare held fuel 22 [.slice A len cap] = some _ := hf0
  have hlen := slice_len Try.underlying22 hf
  have hs := slice_elems (k := 22) Try.underlying22 (by kernel_rfl) (by decide) hf
  obtain ⟨S, hl, hp⟩ := list_of (p := fun i (c : OpC) => OpOk c ∧ ∃ g off, A = some ⟨g, off, none⟩ ∧ g < w.heap.size ∧ ∀ (k : Nat) (v : Value), (encO c)[k]? = some v → w.cell? ⟨g, off + i * 22 + k, none⟩ = some v) len (fun i hi => by
    obtain ⟨g, off, n, vs, y, h1, h2, h3, h4, h5⟩ := hs i hi
    obtain ⟨c, rfl, hok⟩ := op_of_trod h3 h5
    exact ⟨c, hok, g, off, h1, h2, h4⟩)
  refine ⟨S, hl, fun i c hc => (hp i c hc).2, fun o ho => ?_, hlen⟩
  obtain ⟨i, hi⟩ := List.getElem?_of_mem ho
  exact (hp i o hi).1
end
theorem ops_cells {W : World} {B : Nat} {A : Option Addr} {l : List OpC} (h : OpsAt W B A l) {i : Nat} {c : OpC} (hi : l[i]? = some c) {g off : Nat} (hA : A = some ⟨g, off, none⟩) : ∀ (k : Nat) (v : Value), (encO c)[k]? = some v → W.cell? ⟨g, off + i * 22 + k, none⟩ = some v := by
  obtain ⟨g', off', h1, _, h3⟩ := h i c hi
  rw [hA] at h1
  obtain ⟨rfl, rfl⟩ : g = g' ∧ off = off' := by
    have h4 := Option.some.inj h1
    exact ⟨congrArg Addr.block h4, congrArg Addr.off h4⟩
  exact h3
theorem exec_load_ops {ev : Operand → Value} {o : Oper} {W : World} {x : Operand} (ho : o.op = .load 39 x) {B g off i : Nat} {A : Option Addr} {l : List OpC} (hx : ev x = .pointer (some ⟨g, off + i * 22, none⟩))
    (hr : OpsAt W B A l) (hA : A = some ⟨g, off, none⟩) {c : OpC} (hi : l[i]? = some c) : (execOp ev o).run Try.prog W = .ok (.value (.agg (opA c))) W := by
  have h3 := ops_cells hr hi hA
  have hl : (loadCells ⟨g, off + i * 22, none⟩ (opA c).toList.length).run Try.prog W = .ok (opA c).toList.toArray W :=
    run_loadCells_list (P := Try.prog) W ⟨g, off + i * 22, none⟩ (opA c).toList (fun j v hv => by
      have hadd : (⟨g, off + i * 22, none⟩ : Addr).add j = ⟨g, off + i * 22 + j, none⟩ := by unfold Addr.add; split <;> simp_all
      rw [hadd]
      exact h3 j v hv)
  rw [Array.length_toList, Array.toArray_toList, opA_size] at hl
  have hv : (loadVar 39 ⟨g, off + i * 22, none⟩).run Try.prog W = .ok (.agg (opA c)) W := by
    have hagg : (isAgg 39).run Try.prog W = .ok true W := by
      unfold isAgg
      rw [Sem.run_bind, run_underlying Try.underlying39 W]
      rfl
    have hsz := Try.sizeOf39 W
    unfold loadVar
    rw [Sem.run_bind, hagg]
    simp only [Result.andThen_ok, if_true]
    rw [Sem.run_bind, hsz]
    simp only [Result.andThen_ok]
    rw [Sem.run_bind, hl]
    rfl
  unfold execOp
  simp only [ho, hx, Instr.loadAt, Instr.sureAddr, Sem.run_bind, Sem.run_pure, Result.andThen_ok, hv]
theorem exec_load_opb {ev : Operand → Value} {o : Oper} {W : World} {x : Operand} (ho : o.op = .load 39 x) {g : Nat} (hx : ev x = .pointer (some ⟨g, 0, none⟩)) {cs : Array Value} (hs : cs.size = 22) (hb : Blk W g 39 cs) :
    (execOp ev o).run Try.prog W = .ok (.value (.agg cs)) W := by
  have := run_loadVar_row (P := Try.prog) W g 39 39 cs (0, 0) _ hb Try.underlying39 rfl (by rw [hs]; kernel_rfl)
  unfold execOp
  simp only [ho, hx, Instr.loadAt, Instr.sureAddr, Sem.run_bind, Sem.run_pure, Result.andThen_ok, this]

def numS (raw : Int) : Int := 1 + raw % 5
theorem numS_in (raw : Int) : 1 ≤ numS raw ∧ numS raw ≤ 5 := by
  unfold numS
  omega
set_option maxRecDepth 100000 in
theorem number_any (w : World) (raw : Int) (h : 0 ≤ raw ∧ raw ≤ 255) :
    Calls Try.prog 23 #[.int .u8 raw] w fun e w' => e = .returned (.int .i64 (numS raw)) ∧ w' = w := by
  obtain ⟨h1, h2⟩ := h
  have h3 := numS_in raw
  unfold numS at h3 ⊢
  obtain ⟨h4, h5⟩ := h3
  go_enter Try.func23, Try.ntmps23
  go_wp2
  go_ret
  exact ⟨rfl, rfl⟩

theorem tmod_gt (a : Int) {n : Int} (h0 : 0 < n) : -n < a.tmod n := by
  have := Int.tmod_lt_of_pos (-a) h0
  rw [Int.neg_tmod] at this
  omega
/-- An operation about seats that there are. -/
def modS (a : Int) (n : Nat) : Int := a.tmod n % n
theorem modS_in (a : Int) {n : Nat} (hn : 0 < n) : 0 ≤ modS a n ∧ modS a n < (n : Int) := by
  unfold modS
  exact ⟨Int.emod_nonneg _ (by omega), Int.emod_lt_of_pos _ (by omega)⟩
def withinS (o : OpC) (n : Nat) : OpC := { o with seat := modS o.seat n, to_ := modS o.to_ n }

set_option maxRecDepth 100000 in
set_option maxHeartbeats 4000000 in
theorem within_any (w : World) (o : OpC) (n : Nat) (hn : 0 < n) (hn5 : n ≤ 5) :
    Calls Try.prog 24 #[.agg (opA o), .int .i64 (n : Int)] w fun e w' => e = .returned (.agg (opA (withinS o n))) ∧ Below w.heap.size w w' := by
  have h0 : (0 : Int) < (n : Int) := by omega
  have hnz : (n : Int) ≠ 0 := by omega
  obtain ⟨x, hx⟩ : ∃ x, o.seat.tmod (n : Int) = x := ⟨_, rfl⟩
  obtain ⟨z, hz⟩ : ∃ z, o.to_.tmod (n : Int) = z := ⟨_, rfl⟩
  have x1 := Int.tmod_lt_of_pos o.seat h0
  have x2 := tmod_gt o.seat h0
  have z1 := Int.tmod_lt_of_pos o.to_ h0
  have z2 := tmod_gt o.to_ h0
  obtain ⟨q, hq⟩ : ∃ q, w.heap.size = q := ⟨_, rfl⟩
  have hb0 : Below q w ((w.alloc (.cells (opA o) 39)).alloc (.cells #[.int .i64 0, .int .i64 0, .int .i64 0, .int .i64 0, .int .i64 0, .int .u8 0, .int .i64 0, .string ⟨#[]⟩, .string ⟨#[]⟩, .string ⟨#[]⟩, .string ⟨#[]⟩, .int .i64 0, .string ⟨#[]⟩, .string ⟨#[]⟩, .string ⟨#[]⟩, .string ⟨#[]⟩, .string ⟨#[]⟩, .bool false, .int .i64 0, .string ⟨#[]⟩, .string ⟨#[]⟩, .bool false] 39)) := by
    subst hq
    exact ((Below.refl _ w).alloc (Nat.le_refl _) _).alloc (by simp) _
  have kb : Blk ((w.alloc (.cells (opA o) 39)).alloc (.cells #[.int .i64 0, .int .i64 0, .int .i64 0, .int .i64 0, .int .i64 0, .int .u8 0, .int .i64 0, .string ⟨#[]⟩, .string ⟨#[]⟩, .string ⟨#[]⟩, .string ⟨#[]⟩, .int .i64 0, .string ⟨#[]⟩, .string ⟨#[]⟩, .string ⟨#[]⟩, .string ⟨#[]⟩, .string ⟨#[]⟩, .bool false, .int .i64 0, .string ⟨#[]⟩, .string ⟨#[]⟩, .bool false] 39)) q 39 (opA o) := by
    subst hq
    exact (Blk.new w _ _).alloc _
  have kz : Blk ((w.alloc (.cells (opA o) 39)).alloc (.cells #[.int .i64 0, .int .i64 0, .int .i64 0, .int .i64 0, .int .i64 0, .int .u8 0, .int .i64 0, .string ⟨#[]⟩, .string ⟨#[]⟩, .string ⟨#[]⟩, .string ⟨#[]⟩, .int .i64 0, .string ⟨#[]⟩, .string ⟨#[]⟩, .string ⟨#[]⟩, .string ⟨#[]⟩, .string ⟨#[]⟩, .bool false, .int .i64 0, .string ⟨#[]⟩, .string ⟨#[]⟩, .bool false] 39)) (q + 1) 39 #[.int .i64 0, .int .i64 0, .int .i64 0, .int .i64 0, .int .i64 0, .int .u8 0, .int .i64 0, .string ⟨#[]⟩, .string ⟨#[]⟩, .string ⟨#[]⟩, .string ⟨#[]⟩, .int .i64 0, .string ⟨#[]⟩, .string ⟨#[]⟩, .string ⟨#[]⟩, .string ⟨#[]⟩, .string ⟨#[]⟩, .bool false, .int .i64 0, .string ⟨#[]⟩, .string ⟨#[]⟩, .bool false] := by
    subst hq
    exact Blk.new1 w _ _ _
  rw [hq]
  go_enter Try.func24, Try.ntmps24
  go_upto_region 1 with fail
  generalize (w.alloc (.cells (opA o) 39)).alloc (.cells #[.int .i64 0, .int .i64 0, .int .i64 0, .int .i64 0, .int .i64 0, .int .u8 0, .int .i64 0, .string ⟨#[]⟩, .string ⟨#[]⟩, .string ⟨#[]⟩, .string ⟨#[]⟩, .int .i64 0, .string ⟨#[]⟩, .string ⟨#[]⟩, .string ⟨#[]⟩, .string ⟨#[]⟩, .string ⟨#[]⟩, .bool false, .int .i64 0, .string ⟨#[]⟩, .string ⟨#[]⟩, .bool false] 39) = W at *
  have s0 : W.cell? ⟨q, 1, none⟩ = some (.int .i64 o.seat) := kb.cell 1
  have f0 := kb.frozen 1
  go_upto_region 2 with fail
  have kb1 : Blk (W.setCell ⟨q, 1, none⟩ (.int .i64 (x % n))) q 39 ((opA o).setIfInBounds 1 (.int .i64 (x % n))) := kb.set_ 1 (.int .i64 (x % n))
  have kz1 := kz.far (p := ⟨q, 1, none⟩) (show q + 1 ≠ q by omega) (.int .i64 (x % n))
  have hb1 := hb0.setCell (p := ⟨q, 1, none⟩) (Nat.le_refl q) (.int .i64 (x % n))
  clear kb kz hb0 s0 f0
  generalize W.setCell ⟨q, 1, none⟩ (.int .i64 (x % n)) = W1 at *
  have s0 : W1.cell? ⟨q, 2, none⟩ = some (.int .i64 o.to_) := (kb1.cell 2).trans rfl
  have f0 := kb1.frozen 2
  go_upto_region 3 with fail
  have kb2 : Blk (W1.setCell ⟨q, 2, none⟩ (.int .i64 (z % n))) q 39 (((opA o).setIfInBounds 1 (.int .i64 (x % n))).setIfInBounds 2 (.int .i64 (z % n))) := kb1.set_ 2 (.int .i64 (z % n))
  have kz2 := kz1.far (p := ⟨q, 2, none⟩) (show q + 1 ≠ q by omega) (.int .i64 (z % n))
  have hb2 := hb1.setCell (p := ⟨q, 2, none⟩) (Nat.le_refl q) (.int .i64 (z % n))
  clear kb1 kz1 hb1 s0 f0
  generalize W1.setCell ⟨q, 2, none⟩ (.int .i64 (z % n)) = W2 at *
  have he : ((opA o).setIfInBounds 1 (.int .i64 (x % n))).setIfInBounds 2 (.int .i64 (z % n)) = opA (withinS o n) := by
    rw [← hx, ← hz]
    rfl
  rw [he] at kb2
  have hcz := opA_size (withinS o n)
  have hc1 := opA_one (withinS o n)
  obtain ⟨CX, hCX⟩ : ∃ X, opA (withinS o n) = X := ⟨_, rfl⟩
  rw [hCX] at kb2 hcz hc1
  have HCX := Lib.hid hCX
  clear he hCX
  go_wp2_with (first | (refine wpList_val rfl rfl (.agg CX) (exec_load_opb (x := .tmp 2) rfl rfl hcz kb2) ?_) | (refine wpList_store_row rfl 39 (.tmp 4) (.tmp 23) rfl (q + 1) CX rfl rfl _ _ kz2 (by rw [hcz]; kernel_rfl) (by rw [hcz]; rfl) hc1 ?_))
  have kf := blk_setRow (C := CX) kz2
  have hf := below_setRow (g := q + 1) CX hb2 (by omega)
  have hlv := run_loadVar_row (P := Try.prog) _ _ 39 39 _ (0, 0) _ kf Try.underlying39 rfl (by rw [hcz]; kernel_rfl)
  exact bodyPost_ret (v := .agg CX) (by simp [results, Try.results24, asAddr, hlv, Act.put]) rfl ⟨by rw [HCX.out], hf⟩
end Go.Proofs.Ytaicbllfkehhjaa

/- few, stamp. -/
namespace Go.Proofs.Ytaicbllfkehhjaa
open Go.RowKit

theorem put_pt (W : World) (p : Pt) : (storeCells ⟨W.heap.size, 0, none⟩ (ptA p).toList).run Try.prog (W.alloc (.cells #[.int .i64 0, .string ⟨#[]⟩, .string ⟨#[]⟩, .string ⟨#[]⟩, .string ⟨#[]⟩, .int .i64 0, .string ⟨#[]⟩, .string ⟨#[]⟩, .string ⟨#[]⟩, .string ⟨#[]⟩, .string ⟨#[]⟩, .bool false, .int .i64 0, .string ⟨#[]⟩, .string ⟨#[]⟩] 37)) = .ok () (W.alloc (.cells (ptA p) 37)) :=
  run_storeCells_new W _ _ (ptA p) (by kernel_rfl) rfl (by simp [ptA, Value.oneCell'])
theorem exec_load_opt {ev : Operand → Value} {o : Oper} {W : World} {x : Operand} (ho : o.op = .load 37 x) {B g off i : Nat} {A : Option Addr} {l : List OpC} (hx : ev x = .pointer (some ⟨g, off + i * 22 + 6, none⟩))
    (hr : OpsAt W B A l) (hA : A = some ⟨g, off, none⟩) {c : OpC} (hi : l[i]? = some c) : (execOp ev o).run Try.prog W = .ok (.value (.agg (ptA c.pt))) W := by
  have h3 := ops_cells hr hi hA
  have hl : (loadCells ⟨g, off + i * 22 + 6, none⟩ (ptA c.pt).toList.length).run Try.prog W = .ok (ptA c.pt).toList.toArray W :=
    run_loadCells_list (P := Try.prog) W ⟨g, off + i * 22 + 6, none⟩ (ptA c.pt).toList (fun j v hv => by
      have hadd : (⟨g, off + i * 22 + 6, none⟩ : Addr).add j = ⟨g, off + i * 22 + (6 + j), none⟩ := by unfold Addr.add; split <;> simp_all <;> omega
      rw [hadd]
      refine h3 (6 + j) v ?_
      have hj : j < 15 := (List.getElem?_eq_some_iff.1 hv).1
      unfold encO
      rw [List.getElem?_append_right (by simp)]
      simp only [List.length_cons, List.length_nil, Nat.zero_add, Nat.reduceAdd, Nat.add_sub_cancel_left]
      rw [List.getElem?_append_left (by exact hj)]
      exact hv)
  rw [Array.length_toList, Array.toArray_toList, show (ptA c.pt).size = 15 from rfl] at hl
  have hv : (loadVar 37 ⟨g, off + i * 22 + 6, none⟩).run Try.prog W = .ok (.agg (ptA c.pt)) W := by
    have hagg : (isAgg 37).run Try.prog W = .ok true W := by
      unfold isAgg
      rw [Sem.run_bind, run_underlying Try.underlying37 W]
      rfl
    have hsz := Try.sizeOf37 W
    unfold loadVar
    rw [Sem.run_bind, hagg]
    simp only [Result.andThen_ok, if_true]
    rw [Sem.run_bind, hsz]
    simp only [Result.andThen_ok]
    rw [Sem.run_bind, hl]
    rfl
  unfold execOp
  simp only [ho, hx, Instr.loadAt, Instr.sureAddr, Sem.run_bind, Sem.run_pure, Result.andThen_ok, hv]

/-- The sum of an operation's texts, as the law reckons it. -/
def sumO (o : OpC) : Int := wrap64 (wrap64 (wrap64 (wrap64 (wrap64 (wrap64 (wrap64 (wrap64 (wrap64 (wrap64 (((o.pt.2.1.size : Nat) : Int) + ((o.pt.2.2.1.size : Nat) : Int)) + ((o.pt.2.2.2.1.size : Nat) : Int)) + ((o.pt.2.2.2.2.1.size : Nat) : Int)) + ((o.pt.2.2.2.2.2.2.2.1.size : Nat) : Int)) + ((o.pt.2.2.2.2.2.2.2.2.size : Nat) : Int)) + ((o.pt.2.2.2.2.2.1.2.1.size : Nat) : Int)) + ((o.pt.2.2.2.2.2.1.2.2.1.size : Nat) : Int)) + ((o.pt.2.2.2.2.2.1.2.2.2.1.size : Nat) : Int)) + ((o.pt.2.2.2.2.2.1.2.2.2.2.1.size : Nat) : Int)) + ((o.pt.2.2.2.2.2.1.2.2.2.2.2.1.size : Nat) : Int))
def fewB (l : List OpC) : Bool := (l.all fun o => !decide (500 < sumO o)) && decide (l.length ≤ 60)
theorem fewB_len {l : List OpC} (h : fewB l = true) : l.length ≤ 60 := by
  unfold fewB at h
  rw [Bool.and_eq_true] at h
  exact of_decide_eq_true h.2

set_option maxRecDepth 100000 in
set_option maxHeartbeats 4000000 in
theorem few_any (w : World) (A : Option Addr) (cap : Nat) (l : List OpC) (h : OpsAt w w.heap.size A l) (hl : l.length ≤ 9223372036854775807) :
    Calls Try.prog 9 #[.slice A l.length cap] w fun e w' => e = .returned (.bool (fewB l)) ∧ Below w.heap.size w w' := by
  have HH := Lib.hid h
  obtain ⟨R, hR⟩ : ∃ R, fewB l = R := ⟨_, rfl⟩
  rw [hR]
  have HR := Lib.hid hR
  obtain ⟨N, hN⟩ : ∃ N, l.length = N := ⟨_, rfl⟩
  rw [hN] at hl ⊢
  have HN := Lib.hid hN
  clear h hN hR
  go_enter Try.func9, Try.ntmps9
  go_wp2_with fail
  go_loopw [3] (fun i wr => ∃ k : Nat, k ≤ N ∧ i = .int .i64 (k : Int) ∧ Hid (Below w.heap.size w wr) ∧ Hid (∀ j d, j < k → l[j]? = some d → ¬ 500 < sumO d)) (fun i _ => N - (intOf i).toNat)
  case atStart => exact ⟨0, Nat.zero_le _, rfl, Lib.hid (Below.refl _ _), Lib.hid fun j d hj => by omega⟩
  case round =>
    obtain ⟨k, hk, rfl, HB, HK⟩ := hrel
    have HBS := Lib.hid HB.out.size
    by_cases hkN : k < N
    · obtain ⟨c, hc⟩ : ∃ c, l[k]? = some c := ⟨_, List.getElem?_eq_getElem (by rw [HN.out]; exact hkN)⟩
      obtain ⟨g, off, rfl, -, -⟩ := HH.out k c hc
      have e1 : decide ((k : Int) < (N : Int)) = true := decide_eq_true (by omega)
      have hk0 : (0 : Int) ≤ (k : Int) := by omega
      have hk1 : (k : Int) < (N : Int) := by omega
      have HC := Lib.hid hc
      have HL := Lib.hid (HH.out.below HB.out)
      have hpc := put_pt wr c.pt
      have hcz : (ptA c.pt).size = 15 := rfl
      have kp := Blk.new wr 37 (ptA c.pt)
      have hb := below_self_alloc wr (.cells (ptA c.pt) 37)
      clear hc
      go_upto_region 5 with (refine wpList_val rfl rfl (.agg (ptA c.pt)) (exec_load_opt (x := .tmp 14) rfl rfl HL.out rfl HC.out) ?_)
      clear hpc hcz
      generalize wr.alloc (.cells (ptA c.pt) 37) = w4 at *
      generalize wr.heap.size = q at *
      have x1 : w4.cell? ⟨q, 1, none⟩ = some (.string c.pt.2.1) := kp.cell 1
      have x2 : w4.cell? ⟨q, 2, none⟩ = some (.string c.pt.2.2.1) := kp.cell 2
      have x3 : w4.cell? ⟨q, 3, none⟩ = some (.string c.pt.2.2.2.1) := kp.cell 3
      have x4 : w4.cell? ⟨q, 4, none⟩ = some (.string c.pt.2.2.2.2.1) := kp.cell 4
      have x6 : w4.cell? ⟨q, 6, none⟩ = some (.string c.pt.2.2.2.2.2.1.2.1) := kp.cell 6
      have x7 : w4.cell? ⟨q, 7, none⟩ = some (.string c.pt.2.2.2.2.2.1.2.2.1) := kp.cell 7
      have x8 : w4.cell? ⟨q, 8, none⟩ = some (.string c.pt.2.2.2.2.2.1.2.2.2.1) := kp.cell 8
      have x9 : w4.cell? ⟨q, 9, none⟩ = some (.string c.pt.2.2.2.2.2.1.2.2.2.2.1) := kp.cell 9
      have x10 : w4.cell? ⟨q, 10, none⟩ = some (.string c.pt.2.2.2.2.2.1.2.2.2.2.2.1) := kp.cell 10
      have x13 : w4.cell? ⟨q, 13, none⟩ = some (.string c.pt.2.2.2.2.2.2.2.1) := kp.cell 13
      have x14 : w4.cell? ⟨q, 14, none⟩ = some (.string c.pt.2.2.2.2.2.2.2.2) := kp.cell 14
      clear kp
      obtain ⟨s1, hs1⟩ : ∃ s, c.pt.2.1 = s := ⟨_, rfl⟩
      rw [hs1] at x1
      have HS1 := Lib.hid hs1
      clear hs1
      obtain ⟨s2, hs2⟩ : ∃ s, c.pt.2.2.1 = s := ⟨_, rfl⟩
      rw [hs2] at x2
      have HS2 := Lib.hid hs2
      clear hs2
      obtain ⟨s3, hs3⟩ : ∃ s, c.pt.2.2.2.1 = s := ⟨_, rfl⟩
      rw [hs3] at x3
      have HS3 := Lib.hid hs3
      clear hs3
      obtain ⟨s4, hs4⟩ : ∃ s, c.pt.2.2.2.2.1 = s := ⟨_, rfl⟩
      rw [hs4] at x4
      have HS4 := Lib.hid hs4
      clear hs4
      obtain ⟨s6, hs6⟩ : ∃ s, c.pt.2.2.2.2.2.1.2.1 = s := ⟨_, rfl⟩
      rw [hs6] at x6
      have HS6 := Lib.hid hs6
      clear hs6
      obtain ⟨s7, hs7⟩ : ∃ s, c.pt.2.2.2.2.2.1.2.2.1 = s := ⟨_, rfl⟩
      rw [hs7] at x7
      have HS7 := Lib.hid hs7
      clear hs7
      obtain ⟨s8, hs8⟩ : ∃ s, c.pt.2.2.2.2.2.1.2.2.2.1 = s := ⟨_, rfl⟩
      rw [hs8] at x8
      have HS8 := Lib.hid hs8
      clear hs8
      obtain ⟨s9, hs9⟩ : ∃ s, c.pt.2.2.2.2.2.1.2.2.2.2.1 = s := ⟨_, rfl⟩
      rw [hs9] at x9
      have HS9 := Lib.hid hs9
      clear hs9
      obtain ⟨s10, hs10⟩ : ∃ s, c.pt.2.2.2.2.2.1.2.2.2.2.2.1 = s := ⟨_, rfl⟩
      rw [hs10] at x10
      have HS10 := Lib.hid hs10
      clear hs10
      obtain ⟨s13, hs13⟩ : ∃ s, c.pt.2.2.2.2.2.2.2.1 = s := ⟨_, rfl⟩
      rw [hs13] at x13
      have HS13 := Lib.hid hs13
      clear hs13
      obtain ⟨s14, hs14⟩ : ∃ s, c.pt.2.2.2.2.2.2.2.2 = s := ⟨_, rfl⟩
      rw [hs14] at x14
      have HS14 := Lib.hid hs14
      clear hs14
      have HB4 := Lib.hid (HB.out.trans (hb.mono HBS.out))
      go_wp2
      · have h5 : 500 < sumO c := by
          unfold sumO
          rw [HS1.out, HS2.out, HS3.out, HS4.out, HS13.out, HS14.out, HS6.out, HS7.out, HS8.out, HS9.out, HS10.out]
          assumption
        obtain rfl : R = false := by
          rw [← HR.out]
          unfold fewB
          rw [Bool.and_eq_false_iff]
          refine .inl (List.all_eq_false.2 ⟨c, List.mem_of_getElem? HC.out, ?_⟩)
          rw [decide_eq_true h5]
          decide
        go_ret
        exact ⟨rfl, HB4.out⟩
      · have h5 : ¬ 500 < sumO c := by
          unfold sumO
          rw [HS1.out, HS2.out, HS3.out, HS4.out, HS13.out, HS14.out, HS6.out, HS7.out, HS8.out, HS9.out, HS10.out]
          exact Int.not_lt.2 (by assumption)
        refine ⟨⟨k + 1, by omega, by go_num, HB4, Lib.hid fun j d hj hd => ?_⟩, by simp [intOf]; omega⟩
        rcases Nat.lt_or_ge j k with h1 | h1
        · exact HK.out j d h1 hd
        · obtain rfl : j = k := by omega
          rw [HC.out] at hd
          injection hd with hd
          exact hd ▸ h5
    · obtain rfl : k = N := by omega
      have hall : (l.all fun o => !decide (500 < sumO o)) = true := by
        rw [List.all_eq_true]
        intro o ho
        obtain ⟨j, hj⟩ := List.getElem?_of_mem ho
        have hjl := (List.getElem?_eq_some_iff.1 hj).1
        rw [decide_eq_false (HK.out j o (by rw [← HN.out]; exact hjl) hj)]
        rfl
      have hr : R = decide (k ≤ 60) := by
        rw [← HR.out]
        unfold fewB
        rw [hall, HN.out, Bool.true_and]
      by_cases h60 : k ≤ 60
      · have e2 : decide ((k : Int) ≤ 60) = true := decide_eq_true (by omega)
        obtain rfl : R = true := by rw [hr, decide_eq_true h60]
        clear hall hr HR h60 HK
        go_wp2
        go_ret
        exact ⟨rfl, HB.out⟩
      · have e2 : decide ((k : Int) ≤ 60) = false := decide_eq_false (by omega)
        obtain rfl : R = false := by rw [hr, decide_eq_false h60]
        clear hall hr HR h60 HK
        go_wp2
        go_ret
        exact ⟨rfl, HB.out⟩

def stampS (o : OpC) (l : List Cl) : St2 := if 0 < o.pick ∧ 0 < l.length then ((l[(o.pick - 1).toNat % l.length]?).map (·.id)).getD o.st else o.st

set_option maxRecDepth 100000 in
set_option maxHeartbeats 4000000 in
theorem stamp_any (w : World) (o : OpC) (hok : OpOk o) (A : Option Addr) (cap B : Nat) (l : List Cl) (h : ClsAt w B A l) (hB : B ≤ w.heap.size) (hl : l.length ≤ 1000000) :
    Calls Try.prog 12 #[.agg (opA o), .slice A l.length cap] w fun e w' => e = .returned (.agg (stA (stampS o l))) ∧ Below w.heap.size w w' := by
  obtain ⟨hp0, hp1⟩ := hok
  obtain ⟨q, hq⟩ : ∃ q, w.heap.size = q := ⟨_, rfl⟩
  have hb0 : Below q w ((w.alloc (.cells (opA o) 39)).alloc (.cells #[.int .i64 0, .int .i64 0] 33)) := by
    subst hq
    exact ((Below.refl _ w).alloc (Nat.le_refl _) _).alloc (by simp) _
  have kb : Blk ((w.alloc (.cells (opA o) 39)).alloc (.cells #[.int .i64 0, .int .i64 0] 33)) q 39 (opA o) := by
    subst hq
    exact (Blk.new w _ _).alloc _
  have kz : Blk ((w.alloc (.cells (opA o) 39)).alloc (.cells #[.int .i64 0, .int .i64 0] 33)) (q + 1) 33 #[.int .i64 0, .int .i64 0] := by
    subst hq
    exact Blk.new1 w _ _ _
  have hc := (h.wide (hq ▸ hB : B ≤ q)).below hb0
  rw [hq]
  obtain ⟨N, hN⟩ : ∃ N, l.length = N := ⟨_, rfl⟩
  rw [hN] at hl ⊢
  have p0 := (kb.cell 5).trans (show (opA o)[5]? = some (.int .u8 o.pick) from rfl)
  have s0 := (kb.cell 3).trans (show (opA o)[3]? = some (.int .i64 o.st.1) from rfl)
  have s1 := (kb.cell 4).trans (show (opA o)[4]? = some (.int .i64 o.st.2) from rfl)
  have kza := kz.all
  obtain ⟨z0, zf, zl⟩ := kza
  have HC := Lib.hid hc
  have HB0 := Lib.hid hb0
  have HQ := Lib.hid hq
  have HBF := Lib.hid (show ∀ S : St2, Below q w ((w.alloc (.cells (opA o) 39)).alloc (.cells #[.int .i64 S.1, .int .i64 S.2] 33)) from fun S => by
    subst hq
    exact ((Below.refl _ w).alloc (Nat.le_refl _) _).alloc (by simp) _)
  by_cases hp : 0 < o.pick
  · by_cases hn : 0 < N
    · obtain ⟨j, hj⟩ : ∃ j : Nat, j = (o.pick - 1).toNat % N := ⟨_, rfl⟩
      have hjN : j < N := by rw [hj]; exact Nat.mod_lt _ hn
      obtain ⟨c, hcl⟩ : ∃ c, l[j]? = some c := ⟨_, List.getElem?_eq_getElem (by rw [hN]; exact hjN)⟩
      have hr : stampS o l = c.id := by
        unfold stampS
        rw [hN, if_pos ⟨hp, hn⟩, ← hj, hcl]
        rfl
      have hmod : (o.pick - 1) % (N : Int) = (j : Int) := by
        obtain ⟨m, hm⟩ := Int.eq_ofNat_of_zero_le (show 0 ≤ o.pick - 1 by omega)
        rw [hj, hm, Int.toNat_natCast]
        exact (Int.natCast_emod m N).symm
      rw [hr]
      obtain ⟨g, off, rfl, -, hcell⟩ := HC.out j c hcl
      have i0 := hcell 0 (.int .i64 c.id.1) rfl
      have i1 := hcell 1 (.int .i64 c.id.2) rfl
      rw [Nat.add_zero] at i0
      obtain ⟨pk, hpk⟩ : ∃ x, o.pick = x := ⟨_, rfl⟩
      rw [hpk] at p0 hp hp0 hp1 hmod
      have e0 : decide (0 < pk) = true := decide_eq_true hp
      have hn1 : (0 : Int) < (N : Int) := by omega
      have hj0 : (0 : Int) ≤ (j : Int) := by omega
      have hj1 : (j : Int) < (N : Int) := by omega
      have hpm : 0 ≤ pk - 1 := by omega
      have hpm2 : pk - 1 ≤ 255 := by omega
      clear h hb0 kb kz hc hpk hcl hr hj hcell
      go_enter Try.func12, Try.ntmps12
      go_wp2_with fail
      have kf : Blk ((w.alloc (.cells (opA o) 39)).alloc (.cells #[.int .i64 c.id.1, .int .i64 c.id.2] 33)) (q + 1) 33 #[.int .i64 c.id.1, .int .i64 c.id.2] := by
        rw [← HQ.out]
        exact Blk.new1 w _ _ _
      have hlv := run_loadVar_row (P := Try.prog) _ _ 33 33 _ (0, 0) _ kf Try.underlying33 rfl (by kernel_rfl)
      exact bodyPost_ret (v := .agg #[.int .i64 c.id.1, .int .i64 c.id.2]) (by simp [results, Try.results12, asAddr, hlv]) rfl ⟨rfl, HBF.out c.id⟩
    · have hr : stampS o l = o.st := if_neg fun e => hn (hN ▸ e.2)
      rw [hr]
      obtain ⟨pk, hpk⟩ : ∃ x, o.pick = x := ⟨_, rfl⟩
      rw [hpk] at p0 hp hp0 hp1
      have e0 : decide (0 < pk) = true := decide_eq_true hp
      obtain rfl : N = 0 := by omega
      clear h hb0 kb kz hc hpk hp
      go_enter Try.func12, Try.ntmps12
      go_wp2_with fail
      have kf : Blk ((w.alloc (.cells (opA o) 39)).alloc (.cells #[.int .i64 o.st.1, .int .i64 o.st.2] 33)) (q + 1) 33 #[.int .i64 o.st.1, .int .i64 o.st.2] := by
        rw [← HQ.out]
        exact Blk.new1 w _ _ _
      have hlv := run_loadVar_row (P := Try.prog) _ _ 33 33 _ (0, 0) _ kf Try.underlying33 rfl (by kernel_rfl)
      exact bodyPost_ret (v := .agg #[.int .i64 o.st.1, .int .i64 o.st.2]) (by simp [results, Try.results12, asAddr, hlv]) rfl ⟨rfl, HBF.out o.st⟩
  · have hr : stampS o l = o.st := if_neg fun e => hp e.1
    rw [hr]
    obtain ⟨pk, hpk⟩ : ∃ x, o.pick = x := ⟨_, rfl⟩
    rw [hpk] at p0 hp hp0 hp1
    have e0 : decide (0 < pk) = false := decide_eq_false hp
    clear h hb0 kb kz hc hpk hp
    go_enter Try.func12, Try.ntmps12
    go_wp2_with fail
    have kf : Blk ((w.alloc (.cells (opA o) 39)).alloc (.cells #[.int .i64 o.st.1, .int .i64 o.st.2] 33)) (q + 1) 33 #[.int .i64 o.st.1, .int .i64 o.st.2] := by
      rw [← HQ.out]
      exact Blk.new1 w _ _ _
    have hlv := run_loadVar_row (P := Try.prog) _ _ 33 33 _ (0, 0) _ kf Try.underlying33 rfl (by kernel_rfl)
    exact bodyPost_ret (v := .agg #[.int .i64 o.st.1, .int .i64 o.st.2]) (by simp [results, Try.results12, asAddr, hlv]) rfl ⟨rfl, HBF.out o.st⟩
end Go.Proofs.Ytaicbllfkehhjaa

/- do. -/
namespace Go.Proofs.Ytaicbllfkehhjaa
open Go.RowKit

def doI (n : Nat) (C : Ch) (o : OpC) : Ch × St2 × Int × Bool :=
  if o.kind = 0 then ((proposeI n C o.seat (stampS o (viewS n C o.seat)) o.pt).1, (proposeI n C o.seat (stampS o (viewS n C o.seat)) o.pt).2.1, (proposeI n C o.seat (stampS o (viewS n C o.seat)) o.pt).2.2, false) else
  if o.kind = 1 then ((withdrawI n C o.seat (stampS o (viewS n C o.seat))).1, z2, (withdrawI n C o.seat (stampS o (viewS n C o.seat))).2, false) else
  if o.kind = 2 then ((deliverI n C o.seat o.to_ o.lost).1, z2, 0, (deliverI n C o.seat o.to_ o.lost).2) else
  if o.kind = 3 then ((againI n C o.seat o.to_).1, z2, (againI n C o.seat o.to_).2, false) else (C, z2, 0, false)
/-- What the operations want of a chamber. -/
structure Fit (n : Nat) (C : Ch) : Prop where
  sane : Sane n C
  lines : ∀ i k, (C.lines i k).length ≤ 900000
  msgs : ∀ i k m, m ∈ C.lines i k → m.length ≤ 100000
theorem view_len {n : Nat} {C : Ch} (hg : Sane n C) (i : Int) : (viewS n C i).length ≤ 1000000 := by
  unfold viewS
  split
  · rename_i h
    have := sane_len hg (i := i.toNat) (by omega)
    omega
  · simp
theorem OpsAt.of_blk {w : World} {g B : Nat} {o : OpC} (h : Blk w g 39 (opA o)) (hB : g < B) : OpsAt w B (some ⟨g, 0, none⟩) [o] := fun i c hi => by
  cases i with
  | zero =>
    simp only [List.getElem?_cons_zero, Option.some.injEq] at hi
    subst hi
    refine ⟨g, 0, rfl, hB, fun k v hv => ?_⟩
    simp only [Nat.zero_mul, Nat.zero_add]
    rw [h.cell k, ← encO_opA]
    simpa using hv
  | succ i => simp at hi

set_option maxRecDepth 100000 in
set_option maxHeartbeats 8000000 in
theorem do_any (w : World) (y : Lay) (V : Nat → Nat → Value) (n : Nat) (C : Ch) (h : ChAt w y V n C) (hf : Fit n C) (o : OpC) (hok : OpOk o) :
    Calls Try.prog 14 #[.pointer (some ⟨y.p, 0, none⟩), .agg (opA o)] w fun e w' =>
      e = .returned (.tuple #[.agg #[.int .i64 (doI n C o).2.1.1, .int .i64 (doI n C o).2.1.2], .int .i64 (doI n C o).2.2.1, .bool (doI n C o).2.2.2]) ∧ ∃ V', ChAt w' y V' n (doI n C o).1 ∧ Turn w w' y V V' n := by
  obtain ⟨q, hq⟩ : ∃ q, w.heap.size = q := ⟨_, rfl⟩
  have hb0 : Below w.heap.size w ((w.alloc (.cells (opA o) 39)).alloc (.cells #[.int .i64 0, .int .i64 0] 33)) := ((Below.refl _ w).alloc (Nat.le_refl _) _).alloc (by simp) _
  have kb : Blk ((w.alloc (.cells (opA o) 39)).alloc (.cells #[.int .i64 0, .int .i64 0] 33)) q 39 (opA o) := by
    subst hq
    exact (Blk.new w _ _).alloc _
  have kz : Blk ((w.alloc (.cells (opA o) 39)).alloc (.cells #[.int .i64 0, .int .i64 0] 33)) (q + 1) 33 #[.int .i64 0, .int .i64 0] := by
    subst hq
    exact Blk.new1 w _ _ _
  have h0 := h.below hb0
  obtain ⟨R, hR⟩ : ∃ R, doI n C o = R := ⟨_, rfl⟩
  rw [hR]
  unfold doI at hR
  have hvl := view_len hf.sane o.seat
  obtain ⟨Lv, hLv⟩ : ∃ L, viewS n C o.seat = L := ⟨_, rfl⟩
  obtain ⟨S, hS⟩ : ∃ S, stampS o (viewS n C o.seat) = S := ⟨_, rfl⟩
  rw [hS] at hR
  have hcz := opA_size o
  have HR := Lib.hid hR
  have H0 := Lib.hid h0
  have KO := Lib.hid kb
  have KZ := Lib.hid kz
  have HB0 := Lib.hid hb0
  have HG := Lib.hid hf.sane
  have HF := Lib.hid hf
  have HOK := Lib.hid hok
  have HVL := Lib.hid hvl
  have HS := Lib.hid hS
  clear h hf hok hb0 kb kz h0 hR hvl hLv hS
  go_enter Try.func14, Try.ntmps14
  go_upto_region 1 with fail
  generalize (w.alloc (.cells (opA o) 39)).alloc (.cells #[.int .i64 0, .int .i64 0] 33) = W0 at *
  go_cut [7] from 10 to 15 (fun v7 wx => ∃ g, v7 = .pointer (some ⟨g, 0, none⟩) ∧ Blk wx g 33 #[.int .i64 S.1, .int .i64 S.2] ∧ Below W0.heap.size W0 wx)
  case first =>
    refine wp_region_ats (fun W => ChAt W y V n C ∧ Blk W q 39 (opA o)) (by kernel_rfl) (by kernel_rfl) (fun _ d _ _ _ h => by cases d <;> exact h) rfl ?_
    have B2 : Below W0.heap.size W0 W0.drew := (Below.refl _ _).drew
    generalize W0.drew = w2d at *
    refine ats_take [0, 1, 2, 3] 4 rfl (by kernel_rfl) ⟨H0.out.below B2, KO.out.below B2 KO.out.lt⟩ ?_
    simp only [pick, List.drop_succ_cons, List.drop_zero, List.head?_cons, Option.toList_some, List.cons_append, List.nil_append, List.append_nil]
    repeat ((refine wpHeld_step ?_ rfl ?_ ?_; rotate_left; · (intro W hW; have q0 : W.cell? ⟨q, 1, none⟩ = some (.int .i64 o.seat) := (hW.2.cell 1).trans rfl; first | (refine exec_load_opb (x := .tmp 3) ?_ ?_ hcz hW.2 <;> rfl) | (go_simp; try with_reducible rfl))); simp only [Act.put, List.setIfInBounds_toArray, List.set_cons_succ, List.set_cons_zero])
    refine wpHeld_nil ?_
    refine ats_two 4 6 (by kernel_rfl) ?_ ?_
    · simp only [pick, List.drop_succ_cons, List.drop_zero, List.head?_cons, Option.toList_some, List.append_nil]
      go_wp2_with fail
      refine (view_any _ y V n C (H0.out.below B2) HG.out o.seat).mono ?_
      rintro e w3 ⟨v, rfl, own, b3⟩
      obtain ⟨A, cap, rfl, hcls⟩ := own.form
      have hle := Nat.le_refl w3.heap.size
      have B3 := B2.trans (b3.mono B2.size)
      try go_wp2_with fail
      refine ⟨⟨H0.out.below B3, KO.out.below B3 KO.out.lt⟩, ?_⟩
      refine ats_two 5 6 (by kernel_rfl) ?_ ?_
      · simp only [pick, List.drop_succ_cons, List.drop_zero, List.head?_cons, Option.toList_some, List.append_nil]
        go_wp2_with fail
        refine (stamp_any _ o HOK.out A cap _ _ hcls hle HVL.out).mono ?_
        rintro e w4 ⟨rfl, b4⟩
        have B4 := B3.trans (b4.mono B3.size)
        try go_wp2_with fail
        refine ⟨⟨H0.out.below B4, KO.out.below B4 KO.out.lt⟩, ?_⟩
        refine ats_one 6 (by kernel_rfl) ?_
        simp only [pick, List.drop_succ_cons, List.drop_zero, List.head?_cons, Option.toList_some, List.append_nil]
        have z5 := Blk.new w4 33 #[.int .i64 0, .int .i64 0]
        have B5 := B4.alloc B4.size (.cells #[.int .i64 0, .int .i64 0] 33)
        have hge := B4.size
        go_wp2_with fail
        obtain ⟨g, hgg⟩ : ∃ g, w4.heap.size = g := ⟨_, rfl⟩
        rw [hgg] at z5 hge
        try simp only [hgg]
        generalize w4.alloc (.cells #[.int .i64 0, .int .i64 0] 33) = w5 at *
        clear hgg
        refine ⟨⟨H0.out.below B5, KO.out.below B5 KO.out.lt⟩, ?_⟩
        refine ats_one 7 (by kernel_rfl) ?_
        simp only [pick, List.drop_succ_cons, List.drop_zero, List.head?_cons, Option.toList_some, List.append_nil]
        have za := z5.all
        obtain ⟨z0, zf, zl⟩ := za
        have zk := (z5.set_ 0 (.int .i64 S.1)).set_ 1 (.int .i64 S.2)
        have BF := (B5.setCell (p := ⟨g, 0, none⟩) hge (.int .i64 S.1)).setCell (p := ⟨g, 1, none⟩) hge (.int .i64 S.2)
        rw [HS.out, show stA S = #[.int .i64 S.1, .int .i64 S.2] from rfl]
        go_wp2_with fail
        refine ⟨⟨H0.out.below BF, KO.out.below BF KO.out.lt⟩, ?_⟩
        refine ats_end (by kernel_rfl) ?_
        go_wp2_with fail
        go_meet
        exact ⟨g, rfl, zk, BF⟩
      · simp only [pick, List.drop_succ_cons, List.drop_zero, List.head?_cons, Option.toList_some, List.append_nil]
        have z4 := Blk.new w3 33 #[.int .i64 0, .int .i64 0]
        have B4 := B3.alloc B3.size (.cells #[.int .i64 0, .int .i64 0] 33)
        replace hcls := hcls.below (below_self_alloc _ (.cells #[.int .i64 0, .int .i64 0] 33))
        replace hle := (below_self_alloc w3 (.cells #[.int .i64 0, .int .i64 0] 33)).size
        have hge := B3.size
        go_wp2_with fail
        obtain ⟨g, hgg⟩ : ∃ g, w3.heap.size = g := ⟨_, rfl⟩
        rw [hgg] at z4 hge
        try simp only [hgg]
        generalize w3.alloc (.cells #[.int .i64 0, .int .i64 0] 33) = w4 at *
        clear hgg
        refine ⟨⟨H0.out.below B4, KO.out.below B4 KO.out.lt⟩, ?_⟩
        refine ats_one 5 (by kernel_rfl) ?_
        simp only [pick, List.drop_succ_cons, List.drop_zero, List.head?_cons, Option.toList_some, List.append_nil]
        go_wp2_with fail
        refine (stamp_any _ o HOK.out A cap _ _ hcls hle HVL.out).mono ?_
        rintro e w5 ⟨rfl, b5⟩
        have B5 := B4.trans (b5.mono B4.size)
        have z5 := z4.below b5 z4.lt
        try go_wp2_with fail
        refine ⟨⟨H0.out.below B5, KO.out.below B5 KO.out.lt⟩, ?_⟩
        refine ats_one 7 (by kernel_rfl) ?_
        simp only [pick, List.drop_succ_cons, List.drop_zero, List.head?_cons, Option.toList_some, List.append_nil]
        have za := z5.all
        obtain ⟨z0, zf, zl⟩ := za
        have zk := (z5.set_ 0 (.int .i64 S.1)).set_ 1 (.int .i64 S.2)
        have BF := (B5.setCell (p := ⟨g, 0, none⟩) hge (.int .i64 S.1)).setCell (p := ⟨g, 1, none⟩) hge (.int .i64 S.2)
        rw [HS.out, show stA S = #[.int .i64 S.1, .int .i64 S.2] from rfl]
        go_wp2_with fail
        refine ⟨⟨H0.out.below BF, KO.out.below BF KO.out.lt⟩, ?_⟩
        refine ats_end (by kernel_rfl) ?_
        go_wp2_with fail
        go_meet
        exact ⟨g, rfl, zk, BF⟩
    · simp only [pick, List.drop_succ_cons, List.drop_zero, List.head?_cons, Option.toList_some, List.append_nil]
      have z3 := Blk.new w2d 33 #[.int .i64 0, .int .i64 0]
      have B3 := B2.alloc B2.size (.cells #[.int .i64 0, .int .i64 0] 33)
      have hge := B2.size
      go_wp2_with fail
      obtain ⟨g, hgg⟩ : ∃ g, w2d.heap.size = g := ⟨_, rfl⟩
      rw [hgg] at z3 hge
      try simp only [hgg]
      generalize w2d.alloc (.cells #[.int .i64 0, .int .i64 0] 33) = w3 at *
      clear hgg
      refine ⟨⟨H0.out.below B3, KO.out.below B3 KO.out.lt⟩, ?_⟩
      refine ats_one 4 (by kernel_rfl) ?_
      simp only [pick, List.drop_succ_cons, List.drop_zero, List.head?_cons, Option.toList_some, List.append_nil]
      go_wp2_with fail
      refine (view_any _ y V n C (H0.out.below B3) HG.out o.seat).mono ?_
      rintro e w4 ⟨v, rfl, own, b4⟩
      obtain ⟨A, cap, rfl, hcls⟩ := own.form
      have hle := Nat.le_refl w4.heap.size
      have B4 := B3.trans (b4.mono B3.size)
      have z4 := z3.below b4 z3.lt
      try go_wp2_with fail
      refine ⟨⟨H0.out.below B4, KO.out.below B4 KO.out.lt⟩, ?_⟩
      refine ats_one 5 (by kernel_rfl) ?_
      simp only [pick, List.drop_succ_cons, List.drop_zero, List.head?_cons, Option.toList_some, List.append_nil]
      go_wp2_with fail
      refine (stamp_any _ o HOK.out A cap _ _ hcls hle HVL.out).mono ?_
      rintro e w5 ⟨rfl, b5⟩
      have B5 := B4.trans (b5.mono B4.size)
      have z5 := z4.below b5 z4.lt
      try go_wp2_with fail
      refine ⟨⟨H0.out.below B5, KO.out.below B5 KO.out.lt⟩, ?_⟩
      refine ats_one 7 (by kernel_rfl) ?_
      simp only [pick, List.drop_succ_cons, List.drop_zero, List.head?_cons, Option.toList_some, List.append_nil]
      have za := z5.all
      obtain ⟨z0, zf, zl⟩ := za
      have zk := (z5.set_ 0 (.int .i64 S.1)).set_ 1 (.int .i64 S.2)
      have BF := (B5.setCell (p := ⟨g, 0, none⟩) hge (.int .i64 S.1)).setCell (p := ⟨g, 1, none⟩) hge (.int .i64 S.2)
      rw [HS.out, show stA S = #[.int .i64 S.1, .int .i64 S.2] from rfl]
      go_wp2_with fail
      refine ⟨⟨H0.out.below BF, KO.out.below BF KO.out.lt⟩, ?_⟩
      refine ats_end (by kernel_rfl) ?_
      go_wp2_with fail
      go_meet
      exact ⟨g, rfl, zk, BF⟩
  case rest =>
    obtain ⟨g, rfl, zk, BF⟩ := hcut
    have H1 := Lib.hid (H0.out.below BF)
    have KO1 := Lib.hid (KO.out.below BF KO.out.lt)
    have KZ1 := Lib.hid (KZ.out.below BF KZ.out.lt)
    have T1 := Lib.hid ((Turn.of_below (y := y) (V := V) (n := n) HB0.out).trans (Turn.of_below BF))
    have k0 : wc.cell? ⟨q, 0, none⟩ = some (.int .i64 o.kind) := (KO1.out.cell 0).trans rfl
    have k1 : wc.cell? ⟨q, 1, none⟩ = some (.int .i64 o.seat) := (KO1.out.cell 1).trans rfl
    have k2 : wc.cell? ⟨q, 2, none⟩ = some (.int .i64 o.to_) := (KO1.out.cell 2).trans rfl
    have k21 : wc.cell? ⟨q, 21, none⟩ = some (.bool o.lost) := (KO1.out.cell 21).trans rfl
    have t0 : wc.cell? ⟨g, 0, none⟩ = some (.int .i64 S.1) := zk.cell 0
    have t1 : wc.cell? ⟨g, 1, none⟩ = some (.int .i64 S.2) := zk.cell 1
    have hR := HR.out
    have hwq : w.heap.size ≤ q + 1 := by omega
    clear HR BF zk hq
    by_cases e0 : o.kind = 0
    · rw [if_pos e0] at hR
      have hP := propose_any wc y V n C H1.out HF.out.sane HF.out.lines o.seat S.1 S.2 o.pt
      obtain ⟨P, hP2⟩ : ∃ P, proposeI n C o.seat S o.pt = P := ⟨_, rfl⟩
      rw [hP2] at hP hR
      rw [e0] at k0
      subst hR
      have HP := Lib.hid hP
      have HO := Lib.hid (OpsAt.of_blk KO1.out (Nat.lt_succ_self q))
      clear hP hP2 e0
      go_upto_region 5 with (first | (refine wpList_val rfl rfl (.agg (ptA o.pt)) (exec_load_opt (x := .tmp 25) (off := 0) (i := 0) rfl rfl HO.out rfl rfl) ?_) | (go_at_call 29; refine HP.out.mono ?_; rintro e w5 ⟨rfl, V', h5, t5⟩))
      have k5 := t5.blk H1.out KZ1.out (by decide) (by decide)
      have kN := Blk.new w5 33 #[.int .i64 P.2.1.1, .int .i64 P.2.1.2]
      have k6 := k5.alloc (.cells #[.int .i64 P.2.1.1, .int .i64 P.2.1.2] 33)
      have H6 := Lib.hid (h5.alloc (.cells #[.int .i64 P.2.1.1, .int .i64 P.2.1.2] 33))
      have T6 := Lib.hid ((T1.out.trans t5).trans (Turn.of_below (below_self_alloc w5 (.cells #[.int .i64 P.2.1.1, .int .i64 P.2.1.2] 33))))
      clear k5 h5 t5 HP HO k0 k1 k2 k21 t0 t1
      generalize w5.alloc (.cells #[.int .i64 P.2.1.1, .int .i64 P.2.1.2] 33) = w6 at *
      generalize w5.heap.size = gn at *
      have n0 : w6.cell? ⟨gn, 0, none⟩ = some (.int .i64 P.2.1.1) := kN.cell 0
      have n1 : w6.cell? ⟨gn, 1, none⟩ = some (.int .i64 P.2.1.2) := kN.cell 1
      have kF := (k6.set_ 0 (.int .i64 P.2.1.1)).set_ 1 (.int .i64 P.2.1.2)
      have ka := k6.all
      obtain ⟨r0, rf, rl⟩ := ka
      have K6 := Lib.hid k6
      clear k6 kN
      go_wp2_with fail
      have hlv := run_loadVar_row (P := Try.prog) _ _ 33 33 _ (0, 0) _ kF Try.underlying33 rfl (by kernel_rfl)
      exact bodyPost_ret (v := .tuple #[.agg #[.int .i64 P.2.1.1, .int .i64 P.2.1.2], .int .i64 P.2.2, .bool false]) (by simp [results, Try.results14, asAddr, hlv]) rfl ⟨rfl, V', H6.out.farSt K6.out (only_two _ _ _ _), T6.out.st hwq (only_two _ _ _ _)⟩
    · rw [if_neg e0] at hR
      by_cases e1 : o.kind = 1
      · rw [if_pos e1] at hR
        have hP := withdraw_any wc y V n C H1.out HF.out.sane HF.out.lines o.seat S.1 S.2
        obtain ⟨P, hP2⟩ : ∃ P, withdrawI n C o.seat S = P := ⟨_, rfl⟩
        rw [hP2] at hP hR
        rw [e1] at k0
        subst hR
        have HP := Lib.hid hP
        clear hP hP2 e0 e1
        go_wp2_with (go_at_call 31; refine HP.out.mono ?_; rintro e w5 ⟨rfl, V', h5, t5⟩; have k5 := t5.blk H1.out KZ1.out (by decide) (by decide); have ka := k5.all; obtain ⟨r0, rf, rl⟩ := ka; have K5 := Lib.hid k5; have H5 := Lib.hid h5; have T5 := Lib.hid (T1.out.trans t5); clear k5 h5 t5)
        have kF := (K5.out.set_ 0 (.int .i64 0)).set_ 1 (.int .i64 0)
        have hlv := run_loadVar_row (P := Try.prog) _ _ 33 33 _ (0, 0) _ kF Try.underlying33 rfl (by kernel_rfl)
        exact bodyPost_ret (v := .tuple #[.agg #[.int .i64 0, .int .i64 0], .int .i64 P.2, .bool false]) (by simp [results, Try.results14, asAddr, hlv]) rfl ⟨rfl, V', H5.out.farSt K5.out (only_two _ _ _ _), T5.out.st hwq (only_two _ _ _ _)⟩
      · rw [if_neg e1] at hR
        by_cases e2 : o.kind = 2
        · rw [if_pos e2] at hR
          have hP := deliver_any wc y V n C H1.out HF.out.sane (fun i k => Nat.le_trans (HF.out.lines i k) (by decide)) HF.out.msgs o.seat o.to_ o.lost
          obtain ⟨P, hP2⟩ : ∃ P, deliverI n C o.seat o.to_ o.lost = P := ⟨_, rfl⟩
          rw [hP2] at hP hR
          rw [e2] at k0
          subst hR
          have HP := Lib.hid hP
          clear hP hP2 e0 e1 e2
          go_wp2_with (go_at_call 28; refine HP.out.mono ?_; rintro e w5 ⟨rfl, V', h5, t5⟩; have k5 := t5.blk H1.out KZ1.out (by decide) (by decide); have ka := k5.all; obtain ⟨r0, rf, rl⟩ := ka; have K5 := Lib.hid k5; have H5 := Lib.hid h5; have T5 := Lib.hid (T1.out.trans t5); clear k5 h5 t5)
          have kF := (K5.out.set_ 0 (.int .i64 0)).set_ 1 (.int .i64 0)
          have hlv := run_loadVar_row (P := Try.prog) _ _ 33 33 _ (0, 0) _ kF Try.underlying33 rfl (by kernel_rfl)
          exact bodyPost_ret (v := .tuple #[.agg #[.int .i64 0, .int .i64 0], .int .i64 0, .bool P.2]) (by simp [results, Try.results14, asAddr, hlv]) rfl ⟨rfl, V', H5.out.farSt K5.out (only_two _ _ _ _), T5.out.st hwq (only_two _ _ _ _)⟩
        · rw [if_neg e2] at hR
          by_cases e3 : o.kind = 3
          · rw [if_pos e3] at hR
            have hP := again_any wc y V n C H1.out HF.out.sane (fun i k => Nat.le_trans (HF.out.lines i k) (by decide)) o.seat o.to_
            obtain ⟨P, hP2⟩ : ∃ P, againI n C o.seat o.to_ = P := ⟨_, rfl⟩
            rw [hP2] at hP hR
            rw [e3] at k0
            subst hR
            have HP := Lib.hid hP
            clear hP hP2 e0 e1 e2 e3
            go_wp2_with (go_at_call 27; refine HP.out.mono ?_; rintro e w5 ⟨rfl, V', h5, t5⟩; have k5 := t5.blk H1.out KZ1.out (by decide) (by decide); have ka := k5.all; obtain ⟨r0, rf, rl⟩ := ka; have K5 := Lib.hid k5; have H5 := Lib.hid h5; have T5 := Lib.hid (T1.out.trans t5); clear k5 h5 t5)
            have kF := (K5.out.set_ 0 (.int .i64 0)).set_ 1 (.int .i64 0)
            have hlv := run_loadVar_row (P := Try.prog) _ _ 33 33 _ (0, 0) _ kF Try.underlying33 rfl (by kernel_rfl)
            exact bodyPost_ret (v := .tuple #[.agg #[.int .i64 0, .int .i64 0], .int .i64 P.2, .bool false]) (by simp [results, Try.results14, asAddr, hlv]) rfl ⟨rfl, V', H5.out.farSt K5.out (only_two _ _ _ _), T5.out.st hwq (only_two _ _ _ _)⟩
          · rw [if_neg e3] at hR
            have KZa := KZ1.out.all
            obtain ⟨r0, rf, rl⟩ := KZa
            have d0 : (o.kind == 0) = false := by simpa using e0
            have d1 : (o.kind == 1) = false := by simpa using e1
            have d2 : (o.kind == 2) = false := by simpa using e2
            have d3 : (o.kind == 3) = false := by simpa using e3
            subst hR
            have kF := (KZ1.out.set_ 0 (.int .i64 0)).set_ 1 (.int .i64 0)
            clear e0 e1 e2 e3
            go_wp2_with fail
            have hlv := run_loadVar_row (P := Try.prog) _ _ 33 33 _ (0, 0) _ kF Try.underlying33 rfl (by kernel_rfl)
            exact bodyPost_ret (v := .tuple #[.agg #[.int .i64 0, .int .i64 0], .int .i64 0, .bool false]) (by simp [results, Try.results14, asAddr, hlv]) rfl ⟨rfl, V, H1.out.farSt KZ1.out (only_two _ _ _ _), T1.out.st hwq (only_two _ _ _ _)⟩
end Go.Proofs.Ytaicbllfkehhjaa

/- finish. -/
namespace Go.Proofs.Ytaicbllfkehhjaa
open Go.RowKit

theorem Gd.fit {Z : List Cl} {n K : Nat} {C : Ch} (h : Gd Z n C) (k : LB K C) (hK : K ≤ 900000) : Fit n C :=
  ⟨fun i hi => ⟨(h.pages hi).1, Nat.le_trans (h.pages hi).2 (by decide)⟩, fun i j => Nat.le_trans (k i j) hK, h.small⟩
theorem againI_nat {n a b : Nat} (ha : a < n) (hb : b < n) (C : Ch) : againI n C (a : Int) (b : Int) = againS C a b := by
  unfold againI
  rw [if_pos (by omega), Int.toNat_natCast, Int.toNat_natCast]
theorem deliverI_nat {n a b : Nat} (ha : a < n) (hb : b < n) (C : Ch) (l : Bool) : deliverI n C (a : Int) (b : Int) l = deliverS C a b l := by
  unfold deliverI
  rw [if_pos (by omega), Int.toNat_natCast, Int.toNat_natCast]

set_option maxRecDepth 100000 in
set_option maxHeartbeats 8000000 in
theorem finish_any (w : World) (y : Lay) (V : Nat → Nat → Value) (n : Nat) (hn5 : n ≤ 5) (C : Ch) (Z : List Cl) (h : ChAt w y V n C) (hg : Gd Z n C) (hk : LB 800000 C) :
    Calls Try.prog 25 #[.pointer (some ⟨y.p, 0, none⟩), .int .i64 (n : Int)] w fun e w' => (∃ r, e = .returned r) ∧ ∃ V', ChAt w' y V' n (finishS n C) ∧ Turn w w' y V V' n := by
  have HRG := Lib.hid (fun r => rnd_gd hn5 r C 800000 hg hk)
  have HN5 := Lib.hid hn5
  have H := Lib.hid h
  have hnn : n * n ≤ 25 := Nat.mul_le_mul hn5 hn5
  have HNN := Lib.hid hnn
  have hn5i : (n : Int) ≤ 5 := by omega
  clear h hg hk hn5 hnn
  go_enter Try.func25, Try.ntmps25
  go_wp2_with fail
  go_loopw [4] (fun v wr => ∃ r : Nat, r ≤ 2 ∧ v = .int .i64 (r : Int) ∧ ∃ V', Hid (ChAt wr y V' n (rndS n r C)) ∧ Hid (Turn w wr y V V' n)) (fun v _ => 2 - (intOf v).toNat)
  case atStart => exact ⟨0, by omega, rfl, V, H, Lib.hid (Turn.refl _ _ _ _)⟩
  case round =>
    obtain ⟨r, hr, rfl, V1, H1, T1⟩ := hrel
    by_cases hr2 : r < 2
    · obtain ⟨G1, L1⟩ := HRG.out r
      obtain ⟨Cr, hCr⟩ : ∃ D, rndS n r C = D := ⟨_, rfl⟩
      rw [hCr] at H1 G1 L1
      have HCR := Lib.hid hCr
      have HG1 := Lib.hid G1
      have HL1 := Lib.hid (L1.mono (show 800000 + r * 25 ≤ 800100 by omega))
      have hr0 : (0 : Int) ≤ (r : Int) := by omega
      have hr1 : (r : Int) < 2 := by omega
      clear G1 L1 hCr H
      go_wp2_with fail
      obtain ⟨wo, rfl⟩ : ∃ x, x = wr := ⟨wr, rfl⟩
      go_loopw [5] (fun v wq => ∃ a : Nat, a ≤ n ∧ v = .int .i64 (a : Int) ∧ ∃ V', Hid (ChAt wq y V' n (foldA ((allP n).take (a * n)) Cr)) ∧ Hid (Turn w wq y V V' n)) (fun v _ => n - (intOf v).toNat)
      case atStart => exact ⟨0, Nat.zero_le _, rfl, V1, Lib.hid (by rw [Nat.zero_mul]; exact H1.out), T1⟩
      case round =>
        obtain ⟨a, ha, rfl, V2, H2, T2⟩ := hrel
        clear H1 T1
        by_cases han : a < n
        · have ha1 : (a : Int) < (n : Int) := by omega
          go_wp2_with fail
          obtain ⟨wo2, rfl⟩ : ∃ x, x = wr := ⟨wr, rfl⟩
          go_loopw [6] (fun v wq => ∃ b : Nat, b ≤ n ∧ v = .int .i64 (b : Int) ∧ ∃ V', Hid (ChAt wq y V' n (foldA ((allP n).take (a * n + b)) Cr)) ∧ Hid (Turn w wq y V V' n)) (fun v _ => n - (intOf v).toNat)
          case atStart => exact ⟨0, Nat.zero_le _, rfl, V2, H2, T2⟩
          case round =>
            obtain ⟨b, hb, rfl, V3, H3, T3⟩ := hrel
            clear H2 T2
            by_cases hbn : b < n
            · have hb1 : (b : Int) < (n : Int) := by omega
              obtain ⟨g3, l3⟩ := foldA_gd ((allP n).take (a * n + b)) _ _ (fun p hp => (take_in hp).1) HG1.out HL1.out
              have hlen : ((allP n).take (a * n + b)).length ≤ 25 := by
                rw [List.length_take, allP_len]
                have := HNN.out
                omega
              have hA := again_any wr y V3 n _ H3.out (g3.fit l3 (by omega)).sane (fun i k => Nat.le_trans (l3 i k) (by omega)) (a : Int) (b : Int)
              rw [againI_nat han hbn, ← foldA_step han hbn] at hA
              have HA := Lib.hid hA
              clear hA g3 l3 hlen
              go_wp2_with (go_at_call 27; refine HA.out.mono ?_; rintro e w5 ⟨rfl, V4, h5, t5⟩)
              exact ⟨⟨b + 1, by omega, by go_num, V4, Lib.hid h5, Lib.hid (T3.out.trans t5)⟩, by simp [intOf]; omega⟩
            · obtain rfl : b = n := by omega
              go_wp2_with fail
              exact ⟨⟨a + 1, by omega, by go_num, V3, Lib.hid (by rw [Nat.succ_mul]; exact H3.out), T3⟩, by simp [intOf]; omega⟩
        · obtain rfl : a = n := by omega
          obtain ⟨GA, LA⟩ := foldA_gd ((allP a).take (a * a)) _ _ (fun p hp => (take_in hp).1) HG1.out HL1.out
          have hlen : ((allP a).take (a * a)).length ≤ 25 := by
            rw [List.length_take, allP_len]
            have := HNN.out
            omega
          have HGA := Lib.hid GA
          have HLA := Lib.hid (LA.mono (show _ ≤ 800200 by omega))
          obtain ⟨D0, hD0⟩ : ∃ D, foldA ((allP a).take (a * a)) Cr = D := ⟨_, rfl⟩
          rw [hD0] at H2 HGA HLA
          have HD0 := Lib.hid hD0
          clear GA LA hlen hD0 HG1 HL1
          go_wp2_with fail
          obtain ⟨wo3, rfl⟩ : ∃ x, x = wr := ⟨wr, rfl⟩
          go_loopw [7] (fun v wq => ∃ c : Nat, c ≤ a ∧ v = .int .i64 (c : Int) ∧ ∃ V', Hid (ChAt wq y V' a (foldD ((allP a).take (c * a)) D0)) ∧ Hid (Turn w wq y V V' a)) (fun v _ => a - (intOf v).toNat)
          case atStart => exact ⟨0, Nat.zero_le _, rfl, V2, Lib.hid (by rw [Nat.zero_mul]; exact H2.out), T2⟩
          case round =>
            obtain ⟨c, hc, rfl, V3, H3, T3⟩ := hrel
            clear H2 T2
            by_cases hcn : c < a
            · have hc1 : (c : Int) < (a : Int) := by omega
              go_wp2_with fail
              obtain ⟨wo4, rfl⟩ : ∃ x, x = wr := ⟨wr, rfl⟩
              go_loopw [8] (fun v wq => ∃ b : Nat, b ≤ a ∧ v = .int .i64 (b : Int) ∧ ∃ V', Hid (ChAt wq y V' a (foldD ((allP a).take (c * a + b)) D0)) ∧ Hid (Turn w wq y V V' a)) (fun v _ => a - (intOf v).toNat)
              case atStart => exact ⟨0, Nat.zero_le _, rfl, V3, H3, T3⟩
              case round =>
                obtain ⟨b, hb, rfl, V4, H4, T4⟩ := hrel
                clear H3 T3
                by_cases hbn : b < a
                · have hb1 : (b : Int) < (a : Int) := by omega
                  obtain ⟨g4, l4⟩ := foldD_gd ((allP a).take (c * a + b)) _ (fun p hp => take_in hp) HGA.out HLA.out
                  have HST := Lib.hid (foldD_step hcn hbn D0)
                  obtain ⟨E0, hE0⟩ : ∃ D, foldD ((allP a).take (c * a + b)) D0 = D := ⟨_, rfl⟩
                  rw [hE0] at g4 l4 H4 HST
                  obtain ⟨TG, hTG⟩ : ∃ D, drainS 200 E0 c b = D := ⟨_, rfl⟩
                  rw [hTG] at HST
                  have HTG := Lib.hid hTG
                  have G4 := Lib.hid g4
                  have L4 := Lib.hid l4
                  have HCN := Lib.hid hcn
                  have HBN := Lib.hid hbn
                  clear g4 l4 hE0 hTG
                  go_wp2_with fail
                  obtain ⟨wo5, rfl⟩ : ∃ x, x = wr := ⟨wr, rfl⟩
                  go_loopw [9] (fun v wq => ∃ k : Nat, k ≤ 200 ∧ v = .int .i64 (k : Int) ∧ ∃ V' D, Hid (ChAt wq y V' a D) ∧ Hid (Turn w wq y V V' a) ∧ Hid (Gd Z a D) ∧ Hid (LB 800200 D) ∧ Hid (drainS (200 - k) D c b = TG)) (fun v _ => 200 - (intOf v).toNat)
                  case atStart => exact ⟨0, by omega, rfl, V4, E0, H4, T4, G4, L4, HTG⟩
                  case round =>
                    obtain ⟨k, hk, rfl, V5, D, H5, T5, G5, L5, HDR⟩ := hrel
                    clear H4 T4 G4 L4
                    by_cases hk2 : k < 200
                    · have hk0 : (k : Int) < 200 := by omega
                      have hDl := deliver_any wr y V5 a D H5.out (G5.out.fit L5.out (by decide)).sane (fun i j => Nat.le_trans (L5.out i j) (by decide)) G5.out.small (c : Int) (b : Int) false
                      rw [deliverI_nat HCN.out HBN.out] at hDl
                      have hdr := HDR.out
                      rw [show 200 - k = (200 - (k + 1)) + 1 by omega] at hdr
                      unfold drainS at hdr
                      cases hd : (deliverS D c b false).2 with
                      | true =>
                        rw [if_pos hd] at hdr
                        rw [hd] at hDl
                        have HDL := Lib.hid hDl
                        have HDR2 := Lib.hid hdr
                        clear hDl hdr hd
                        go_wp2_with (go_at_call 28; refine HDL.out.mono ?_; rintro e w5 ⟨rfl, V6, h6, t6⟩)
                        exact ⟨⟨k + 1, by omega, by go_num, V6, _, Lib.hid h6, Lib.hid (T5.out.trans t6), Lib.hid (G5.out.deliver HCN.out HBN.out false), Lib.hid (L5.out.deliver false), HDR2⟩, by simp [intOf]; omega⟩
                      | false =>
                        rw [if_neg (by rw [hd]; decide)] at hdr
                        rw [hd, deliver_false hd, hdr] at hDl
                        have HDL := Lib.hid hDl
                        clear hDl hdr hd
                        go_wp2_with (go_at_call 28; refine HDL.out.mono ?_; rintro e w5 ⟨rfl, V6, h6, t6⟩)
                        exact ⟨⟨b + 1, by omega, by go_num, V6, Lib.hid (by rw [HST.out]; exact h6), Lib.hid (T5.out.trans t6)⟩, by simp [intOf]; omega⟩
                    · obtain rfl : k = 200 := by omega
                      have HDT := Lib.hid (show D = TG from HDR.out)
                      clear HDR
                      go_wp2_with fail
                      exact ⟨⟨b + 1, by omega, by go_num, V5, Lib.hid (by rw [HST.out, ← HDT.out]; exact H5.out), T5⟩, by simp [intOf]; omega⟩
                · obtain rfl : b = a := by omega
                  go_wp2_with fail
                  exact ⟨⟨c + 1, by omega, by go_num, V4, Lib.hid (by rw [Nat.succ_mul]; exact H4.out), T4⟩, by simp [intOf]; omega⟩
            · obtain rfl : c = a := by omega
              go_wp2_with fail
              exact ⟨⟨r + 1, by omega, by go_num, V3, Lib.hid (by rw [show rndS c (r + 1) C = roundS c (rndS c r C) from rfl, HCR.out, round_fold, HD0.out]; exact H3.out), T3⟩, by simp [intOf]; omega⟩
    · obtain rfl : r = 2 := by omega
      go_wp2_with fail
      exact bodyPost_end (results_none rfl _ _ _) rfl ⟨⟨_, rfl⟩, V1, by rw [finish_rnd]; exact H1.out, T1.out⟩
end Go.Proofs.Ytaicbllfkehhjaa

/- A chamber of a law's own. -/
namespace Go.Proofs.Ytaicbllfkehhjaa
open Go.RowKit

theorem Ok.fit {n j : Nat} {C : Ch} (h : Ok n j C) (hj : j ≤ 900000) : Fit n C := by
  obtain ⟨Z, h1, _, h3⟩ := h
  exact h1.fit h3 hj
theorem Ok.proposeI {n j : Nat} {C : Ch} (h : Ok n j C) (hj : j < 64) (i : Int) (t : St2) (p : Pt) : Ok n (j + 1) (proposeI n C i t p).1 := by
  unfold Go.Proofs.Ytaicbllfkehhjaa.proposeI
  split
  · exact h.propose (by omega) hj t p
  · exact h.mono (Nat.le_succ j)
theorem Ok.withdrawI {n j : Nat} {C : Ch} (h : Ok n j C) (i : Int) (t : St2) : Ok n (j + 1) (withdrawI n C i t).1 := by
  unfold Go.Proofs.Ytaicbllfkehhjaa.withdrawI
  split
  · exact h.withdraw (by omega) t
  · exact h.mono (Nat.le_succ j)
theorem Ok.deliverI {n j : Nat} {C : Ch} (h : Ok n j C) (a b : Int) (l : Bool) : Ok n j (deliverI n C a b l).1 := by
  unfold Go.Proofs.Ytaicbllfkehhjaa.deliverI
  split
  · exact h.deliver (by omega) (by omega) l
  · exact h
theorem Ok.againI {n j : Nat} {C : Ch} (h : Ok n j C) (a b : Int) : Ok n (j + 1) (againI n C a b).1 := by
  unfold Go.Proofs.Ytaicbllfkehhjaa.againI
  split
  · exact h.again (by omega)
  · exact h.mono (Nat.le_succ j)
theorem Ok.doI {n j : Nat} {C : Ch} (h : Ok n j C) (hj : j < 64) (o : OpC) : Ok n (j + 1) (doI n C o).1 := by
  unfold Go.Proofs.Ytaicbllfkehhjaa.doI
  split
  · exact h.proposeI hj _ _ _
  · split
    · exact h.withdrawI _ _
    · split
      · exact (h.deliverI _ _ _).mono (Nat.le_succ j)
      · split
        · exact h.againI _ _
        · exact h.mono (Nat.le_succ j)

/-- A chamber that a law has made since w0. -/
structure Live (w0 w : World) (y : Lay) (V : Nat → Nat → Value) (n : Nat) (C : Ch) : Prop where
  at_ : ChAt w y V n C
  fo : ∀ g, Fo y V n g → w0.heap.size ≤ g
  bel : Below w0.heap.size w0 w
section
variable {w0 w w' : World} {y : Lay} {V V' : Nat → Nat → Value} {n j : Nat} {C C' : Ch}
theorem Live.turn (h : Live w0 w y V n C) (k : ChAt w' y V' n C') (t : Turn w w' y V V' n) : Live w0 w' y V' n C' :=
  ⟨k, fun g hg => (t.2 g hg).elim (h.fo g) fun e => Nat.le_trans h.bel.size e, h.bel.trans (t.1.below h.bel.size fun i hi => h.fo i hi)⟩
theorem Live.same (h : Live w0 w y V n C) (k : Below w.heap.size w w') : Live w0 w' y V n C := ⟨h.at_.below k, h.fo, h.bel.trans (k.mono h.bel.size)⟩
theorem Live.drew (h : Live w0 w y V n C) : Live w0 w.drew y V n C := h.same ⟨rfl, rfl, rfl, Nat.le_refl _, fun _ _ => rfl⟩
theorem Live.alloc (h : Live w0 w y V n C) (o : Obj) : Live w0 (w.alloc o) y V n C := h.same (below_self_alloc w o)
theorem Live.kblk (h : Live w0 w y V n C) (t : Turn w w' y V V' n) {g : Nat} {ty : TypeId} {cs : Array Value} (k : Blk w g ty cs) (h1 : ty ≠ 75) (h2 : ty ≠ 41) : Blk w' g ty cs := t.blk h.at_ k h1 h2
theorem Live.kcls (h : Live w0 w y V n C) (t : Turn w w' y V V' n) {B : Nat} {v : Value} {l : List Cl} (k : OwnCls w B v l) : OwnCls w' B v l := k.only t.1 fun g hf => h.at_.wr g hf
theorem Live.propose (h : Live w0 w y V n C) (f : Fit n C) (i a b : Int) (p : Pt) :
    Calls Try.prog 29 #[.pointer (some ⟨y.p, 0, none⟩), .int .i64 i, .agg #[.int .i64 a, .int .i64 b], .agg (ptA p)] w fun e w' =>
      e = .returned (.tuple #[.agg #[.int .i64 (proposeI n C i (a, b) p).2.1.1, .int .i64 (proposeI n C i (a, b) p).2.1.2], .int .i64 (proposeI n C i (a, b) p).2.2]) ∧ ∃ V', Live w0 w' y V' n (proposeI n C i (a, b) p).1 ∧ Turn w w' y V V' n :=
  (propose_any w y V n C h.at_ f.sane f.lines i a b p).mono fun _ _ ⟨h1, V', h2, h3⟩ => ⟨h1, V', h.turn h2 h3, h3⟩
theorem Live.withdraw (h : Live w0 w y V n C) (f : Fit n C) (i a b : Int) :
    Calls Try.prog 31 #[.pointer (some ⟨y.p, 0, none⟩), .int .i64 i, .agg #[.int .i64 a, .int .i64 b]] w fun e w' => e = .returned (.int .i64 (withdrawI n C i (a, b)).2) ∧ ∃ V', Live w0 w' y V' n (withdrawI n C i (a, b)).1 ∧ Turn w w' y V V' n :=
  (withdraw_any w y V n C h.at_ f.sane f.lines i a b).mono fun _ _ ⟨h1, V', h2, h3⟩ => ⟨h1, V', h.turn h2 h3, h3⟩
theorem Live.deliver (h : Live w0 w y V n C) (f : Fit n C) (a b : Int) (l : Bool) :
    Calls Try.prog 28 #[.pointer (some ⟨y.p, 0, none⟩), .int .i64 a, .int .i64 b, .bool l] w fun e w' => e = .returned (.bool (deliverI n C a b l).2) ∧ ∃ V', Live w0 w' y V' n (deliverI n C a b l).1 ∧ Turn w w' y V V' n :=
  (deliver_any w y V n C h.at_ f.sane (fun i k => Nat.le_trans (f.lines i k) (by decide)) f.msgs a b l).mono fun _ _ ⟨h1, V', h2, h3⟩ => ⟨h1, V', h.turn h2 h3, h3⟩
theorem Live.again (h : Live w0 w y V n C) (f : Fit n C) (a b : Int) :
    Calls Try.prog 27 #[.pointer (some ⟨y.p, 0, none⟩), .int .i64 a, .int .i64 b] w fun e w' => e = .returned (.int .i64 (againI n C a b).2) ∧ ∃ V', Live w0 w' y V' n (againI n C a b).1 ∧ Turn w w' y V V' n :=
  (again_any w y V n C h.at_ f.sane (fun i k => Nat.le_trans (f.lines i k) (by decide)) a b).mono fun _ _ ⟨h1, V', h2, h3⟩ => ⟨h1, V', h.turn h2 h3, h3⟩
theorem Live.view (h : Live w0 w y V n C) (f : Fit n C) (i : Int) :
    Calls Try.prog 20 #[.pointer (some ⟨y.p, 0, none⟩), .int .i64 i] w fun e w' => ∃ v, e = .returned v ∧ OwnCls w' w.heap.size v (viewS n C i) ∧ Below w.heap.size w w' := view_any w y V n C h.at_ f.sane i
theorem Live.settled (h : Live w0 w y V n C) (f : Fit n C) :
    Calls Try.prog 21 #[.pointer (some ⟨y.p, 0, none⟩)] w fun e w' => e = .returned (.bool (settledS C)) ∧ Below w.heap.size w w' := settled_any w y V n C h.at_ f.sane
theorem Live.run (h : Live w0 w y V n C) (f : Fit n C) (o : OpC) (hok : OpOk o) :
    Calls Try.prog 14 #[.pointer (some ⟨y.p, 0, none⟩), .agg (opA o)] w fun e w' =>
      e = .returned (.tuple #[.agg #[.int .i64 (doI n C o).2.1.1, .int .i64 (doI n C o).2.1.2], .int .i64 (doI n C o).2.2.1, .bool (doI n C o).2.2.2]) ∧ ∃ V', Live w0 w' y V' n (doI n C o).1 ∧ Turn w w' y V V' n :=
  (do_any w y V n C h.at_ f o hok).mono fun _ _ ⟨h1, V', h2, h3⟩ => ⟨h1, V', h.turn h2 h3, h3⟩
theorem Live.finish (h : Live w0 w y V n C) (hn5 : n ≤ 5) {Z : List Cl} (hg : Gd Z n C) (hk : LB 800000 C) :
    Calls Try.prog 25 #[.pointer (some ⟨y.p, 0, none⟩), .int .i64 (n : Int)] w fun e w' => (∃ r, e = .returned r) ∧ ∃ V', Live w0 w' y V' n (finishS n C) ∧ Turn w w' y V V' n :=
  (finish_any w y V n hn5 C Z h.at_ hg hk).mono fun _ _ ⟨h1, V', h2, h3⟩ => ⟨h1, V', h.turn h2 h3, h3⟩
theorem Live.new (w0 w : World) (hb : Below w0.heap.size w0 w) (n : Nat) (h1 : 1 ≤ n) (h2 : n ≤ 60) :
    Calls Try.prog 10 #[.int .i64 (n : Int)] w fun e w' => ∃ y V, e = .returned (.tuple #[.pointer (some ⟨y.p, 0, none⟩), .int .i64 0]) ∧ Live w0 w' y V n (newS n) ∧ (∀ g, Fo y V n g → w.heap.size ≤ g) ∧ Below w.heap.size w w' :=
  (cnew_ok w n h1 h2).mono fun _ _ ⟨y, V, e, k1, k2, k3⟩ => ⟨y, V, e, ⟨k1, fun g hg => Nat.le_trans hb.size (k3 g hg), hb.trans (k2.mono hb.size)⟩, k3, k2⟩
end
end Go.Proofs.Ytaicbllfkehhjaa
