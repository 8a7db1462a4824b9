/- Part 11 of what the laws of this seat stand on: Il, Im, In, Ir, Is. -/
import Derived.Test.YtaicbllfkehhjaaY10
import Derived.Great.BuildSlice

/- ChamberStamps, walked. -/
namespace Go.Proofs.Ytaicbllfkehhjaa
open Go.RowKit

/-- A chamber beside a map of the law's own. -/
structure WMap (w0 w : World) (y : Lay) (V : Nat → Nat → Value) (n : Nat) (C : Ch) (mb : Nat) (L : List (Value × Value)) : Prop where
  live : Live w0 w y V n C
  map : MapV w mb L
  low : w0.heap.size ≤ mb
  dj : ¬ Fo y V n mb
section
variable {w0 w w' : World} {y : Lay} {V V' : Nat → Nat → Value} {n mb : Nat} {C C' : Ch} {L L' : List (Value × Value)}
theorem WMap.turn (h : WMap w0 w y V n C mb L) (k : Live w0 w' y V' n C') (t : Turn w w' y V V' n) : WMap w0 w' y V' n C' mb L :=
  ⟨k, h.map.of_block (t.1.block mb h.map.lt h.dj), h.low, fun hf => (t.2 mb hf).elim h.dj fun e => by have := h.map.lt; omega⟩
theorem WMap.same (h : WMap w0 w y V n C mb L) (k : Below w.heap.size w w') : WMap w0 w' y V n C mb L := ⟨h.live.same k, h.map.below k h.map.lt, h.low, h.dj⟩
theorem WMap.drew (h : WMap w0 w y V n C mb L) : WMap w0 w.drew y V n C mb L := h.same ⟨rfl, rfl, rfl, Nat.le_refl _, fun _ _ => rfl⟩
theorem WMap.upd (h : WMap w0 w y V n C mb L) (k : MapV w' mb L') (g : w.grownBy w' (some mb)) : WMap w0 w' y V n C mb L' := by
  obtain ⟨es, c, h1, _⟩ := h.map
  exact ⟨⟨h.live.at_.only (F := fun g => some mb = some g) (Only.of_grown g) (fun g e => by injection e with e; subst e; exact h.dj) (fun g e => by injection e with e; subst e; exact .inl ⟨_, h1, rfl⟩), h.live.fo, h.live.bel.grown g h.live.bel.size fun k e => by injection e with e; subst e; exact h.low⟩, k, h.low, h.dj⟩
theorem WMap.new (h : Live w0 w y V n C) : WMap w0 (w.alloc (.map #[] 0)) y V n C w.heap.size [] :=
  ⟨h.alloc _, MapV.made w, h.bel.size, fun hf => by have := h.at_.lt hf; omega⟩
end
theorem put_op (W : World) (o : OpC) : (storeCells ⟨W.heap.size, 0, none⟩ (opA o).toList).run Try.prog (W.alloc (.cells #[.int .i64 0, .int .i64 0, .int .i64 0, .int .i64 0, .int .i64 0, .int .u8 0, .int .i64 0, .string ⟨#[]⟩, .string ⟨#[]⟩, .string ⟨#[]⟩, .string ⟨#[]⟩, .int .i64 0, .string ⟨#[]⟩, .string ⟨#[]⟩, .string ⟨#[]⟩, .string ⟨#[]⟩, .string ⟨#[]⟩, .bool false, .int .i64 0, .string ⟨#[]⟩, .string ⟨#[]⟩, .bool false] 39)) = .ok () (W.alloc (.cells (opA o) 39)) :=
  run_storeCells_new W _ _ (opA o) (by kernel_rfl) rfl (opA_one o)
theorem zeroB (w : World) : (zeroValue 4).run Try.prog w = .ok (.bool false) w := Try.zeroValue4 w
/-- The ids that were given are keys. -/
def Keys (L : List (Value × Value)) (Z : List Cl) : Prop := ∀ p ∈ L, ∃ c ∈ Z, p = (.agg (stA c.id), .bool true)
theorem Keys.out {L : List (Value × Value)} {Z : List Cl} (h : Keys L Z) {t : St2} (ht : getC Z t = none) : ∀ p ∈ L, p.1 ≠ .agg (stA t) := fun p hp e => by
  obtain ⟨c, hc, rfl⟩ := h p hp
  exact getC_none.1 ht c hc (stA_inj e)
theorem Keys.st {L : List (Value × Value)} {Z : List Cl} (h : Keys L Z) : ∀ p ∈ L, StV p.1 := fun p hp => by
  obtain ⟨c, _, rfl⟩ := h p hp
  exact ⟨c.id, rfl⟩
theorem Keys.mono {L : List (Value × Value)} {Z Z' : List Cl} (h : Keys L Z) (hz : ∀ c ∈ Z, ∃ d ∈ Z', d.id = c.id) : Keys L Z' := fun p hp => by
  obtain ⟨c, hc, rfl⟩ := h p hp
  obtain ⟨d, hd, e⟩ := hz c hc
  exact ⟨d, hd, by rw [e]⟩
theorem Keys.snoc {L : List (Value × Value)} {Z : List Cl} (h : Keys L Z) (c : Cl) : Keys (L ++ [(.agg (stA c.id), .bool true)]) (Z ++ [c]) := fun p hp => by
  rcases List.mem_append.1 hp with hp | hp
  · obtain ⟨d, hd, e⟩ := h p hp
    exact ⟨d, List.mem_append_left _ hd, e⟩
  · simp only [List.mem_singleton] at hp
    exact ⟨c, List.mem_append_right _ (List.mem_singleton.2 rfl), hp⟩

set_option maxRecDepth 100000 in
set_option maxHeartbeats 8000000 in
theorem cstamps_walk (w : World) (raw : Int) (hr : (Lit.int .u8 raw).wf = true) (A1 : Option Addr) (cap1 : Nat) (l : List OpC) (h1 : OpsIn w w.heap.size A1 l) :
    Calls Try.prog 6 #[.int .u8 raw, .slice A1 l.length cap1] w fun e w' => e = .returned (.bool true) ∧ Below w.heap.size w w' := by
  obtain ⟨n, hn, hn1, hn5⟩ := num_nat raw
  have hraw := wf_u8 hr
  have HFL := Lib.hid (fun W (hW : Below w.heap.size w W) => few_any W A1 cap1 l ((h1.1.below hW).wide hW.size) h1.2.2)
  have HH1 := Lib.hid h1
  have hl1 := h1.2.2
  obtain ⟨N1, hN1⟩ : ∃ N, l.length = N := ⟨_, rfl⟩
  have HN1 := Lib.hid hN1
  rw [hN1] at HFL hl1 ⊢
  have g1 : fewB l = true → N1 ≤ 60 := fun e => hN1 ▸ fewB_len e
  have HG1 := Lib.hid g1
  have HNUM := Lib.hid (show ∀ W, Calls Try.prog 23 #[.int .u8 raw] W fun e w' => e = .returned (.int .i64 (n : Int)) ∧ w' = W from fun W => by
    rw [← hn]
    exact number_any W raw hraw)
  clear h1 hN1 hr hn hraw g1
  obtain ⟨F1, hF1⟩ : ∃ b, fewB l = b := ⟨_, rfl⟩
  rw [hF1] at HFL HG1
  clear hF1
  have hmm := @run_makeMap Try.prog
  go_enter Try.func6, Try.ntmps6
  go_upto_region 2 with (go_at_call 8; refine (head_any w).mono ?_; rintro e w1 ⟨rfl, b1⟩)
  have B1 := Lib.hid b1
  clear b1
  cases F1 with
  | false =>
    go_wp2_with (go_at_call 9; refine (HFL.out _ B1.out).mono ?_; rintro e w2 ⟨rfl, b2⟩)
    go_ret
    exact ⟨rfl, B1.out.trans (b2.mono B1.out.size)⟩
  | true =>
    have m1 := HG1.out rfl
    clear HG1 hl1
    go_upto_region 8 with (first | (go_at_call 9; refine (HFL.out _ B1.out).mono ?_; clear HFL; rintro e w2 ⟨rfl, b2⟩; have B2 := Lib.hid (B1.out.trans (b2.mono B1.out.size)); clear b2) | (go_at_call 23; refine (HNUM.out _).mono ?_; rintro e w3 ⟨rfl, rfl⟩) | (go_at_call 10; refine (Live.new w _ B2.out n hn1 (by omega)).mono ?_; rintro e w5 ⟨y, V1, rfl, k1, -, c1⟩; have L1 := Lib.hid k1; clear k1 c1))
    have WM := Lib.hid (WMap.new L1.out)
    have hn5i : (n : Int) ≤ 5 := by omega
    have hm1 : (N1 : Int) ≤ 60 := by omega
    have HSZ := Lib.hid L1.out.bel.size
    clear L1 B2 B1
    go_wp2_with fail
    generalize w5.alloc (.map #[] 0) = w6 at *
    generalize w5.heap.size = mb at *
    clear hmm
    go_loopw [10] (fun v wr => ∃ k : Nat, k ≤ N1 ∧ v = .int .i64 (k : Int) ∧ ∃ V C L Z, Hid (WMap w wr y V n C mb L) ∧ Hid (Gd Z n C ∧ Z.length ≤ k ∧ LB k C) ∧ Hid (Keys L Z)) (fun v _ => N1 - (intOf v).toNat)
    case atStart => exact ⟨0, Nat.zero_le _, rfl, _, _, _, [], WM, Lib.hid ⟨Gd.new n, Nat.le_refl _, LB.new n⟩, Lib.hid fun p hp => by cases hp⟩
    case round =>
      obtain ⟨k, hk, rfl, U1, C, L, Z, M1, G1, KY⟩ := hrel
      clear WM
      by_cases hlt : k < N1
      · obtain ⟨o0, ho⟩ : ∃ o, l[k]? = some o := ⟨_, List.getElem?_eq_getElem (by rw [HN1.out]; exact hlt)⟩
        have hops := HH1.out.1.below M1.out.live.bel
        obtain ⟨g, off, rfl, -⟩ := op_kind hops ho
        have hk0 : (0 : Int) ≤ (k : Int) := by omega
        have hk1 : (k : Int) < (N1 : Int) := by omega
        have HOPS := Lib.hid hops
        have HO := Lib.hid ho
        have HOKO := Lib.hid (within_ok (HH1.out.2.1 o0 (List.mem_of_getElem? ho)) n)
        obtain ⟨i, j, hi, hj, es, et⟩ := within_seat o0 hn1
        have HWI := Lib.hid (fun W => within_any W o0 n hn1 hn5)
        obtain ⟨o, hoo⟩ : ∃ o, withinS o0 n = o := ⟨_, rfl⟩
        rw [hoo] at HOKO es et HWI
        have HI := Lib.hid hi
        have HJ := Lib.hid hj
        have HES := Lib.hid es
        have HET := Lib.hid et
        have HFIT := Lib.hid (G1.out.1.fit G1.out.2.2 (by omega))
        clear hops ho hoo hi hj es et
        go_upto_region 13 with (first | (refine wpList_val rfl rfl (.agg (opA o0)) (exec_load_ops (x := .tmp 41) rfl rfl HOPS.out rfl HO.out) ?_) | (go_at_call 24; refine (HWI.out _).mono ?_; rintro e w7 ⟨rfl, b7⟩; have M7 := Lib.hid (M1.out.same b7); have hpo := put_op w7 o; have hcz := opA_size o; clear b7))
        have HSTP := Lib.hid (fun (W : World) (A : Option Addr) (cap B : Nat) (lv : List Cl) (h : ClsAt W B A lv) (hB : B ≤ W.heap.size) (hl : lv.length ≤ 1000000) => stamp_any W o HOKO.out A cap B lv h hB hl)
        have kO := Blk.new w7 39 (opA o)
        have M8 := Lib.hid (M7.out.same (below_self_alloc w7 (.cells (opA o) 39)))
        generalize w7.alloc (.cells (opA o) 39) = w8 at *
        have KO := Lib.hid kO
        generalize w7.heap.size = gO at *
        clear kO M7 M1 hpo hcz HWI HOPS
        have s1 : w8.cell? ⟨gO, 1, none⟩ = some (.int .i64 o.seat) := (KO.out.cell 1).trans rfl
        have hvl := view_len HFIT.out.sane o.seat
        have HVW := Lib.hid (M8.out.live.view HFIT.out o.seat)
        obtain ⟨LV, hLV⟩ : ∃ L, viewS n C o.seat = L := ⟨_, rfl⟩
        have HLV := Lib.hid hLV
        rw [hLV] at HVW hvl
        obtain ⟨S, hS⟩ : ∃ S, stampS o LV = S := ⟨_, rfl⟩
        have HS := Lib.hid hS
        obtain ⟨NV, hNV⟩ : ∃ N, LV.length = N := ⟨_, rfl⟩
        have HNV := Lib.hid hNV
        rw [hNV] at hvl
        clear hLV hS hNV
        go_upto_region 14 with (go_at_call 20; refine HVW.out.mono ?_; rintro e w9 ⟨v, rfl, own, b9⟩; obtain ⟨A9, c9, rfl, hcls⟩ := own.form; rw [HNV.out])
        have M9 := Lib.hid (M8.out.same b9)
        have KO9 := Lib.hid (KO.out.below b9 KO.out.lt)
        have OW9 := Lib.hid own
        have HSB := Lib.hid (show Calls Try.prog 12 #[.agg (opA o), .slice A9 NV c9] w9 fun e w' => e = .returned (.agg #[.int .i64 S.1, .int .i64 S.2]) ∧ Below w9.heap.size w9 w' from by
          have := HSTP.out w9 A9 c9 _ LV hcls (Nat.le_refl _) (by have := HNV.out; omega)
          rw [HNV.out, HS.out] at this
          exact this)
        clear own hcls b9 HVW M8 KO s1 HSTP
        have hcz := opA_size o
        go_upto_region 15 with (first | (refine wpList_val rfl rfl (.agg (opA o)) (exec_load_opb (x := .tmp 11) rfl rfl hcz KO9.out) ?_) | (go_at_call 12; refine HSB.out.mono ?_; rintro e w10 ⟨rfl, b10⟩))
        have kT := Blk.new w10 33 #[.int .i64 S.1, .int .i64 S.2]
        have b11 := b10.alloc b10.size (.cells #[.int .i64 S.1, .int .i64 S.2] 33)
        have M11 := Lib.hid (M9.out.same b11)
        have KO11 := Lib.hid (KO9.out.below b11 KO9.out.lt)
        have OW11 := Lib.hid (OW9.out.below b11)
        clear b10 b11 M9 KO9 OW9 HSB
        generalize w10.alloc (.cells #[.int .i64 S.1, .int .i64 S.2] 33) = w11 at *
        have KT11 := Lib.hid kT
        generalize w10.heap.size = gT at *
        have hrun := M11.out.live.run HFIT.out o HOKO.out
        obtain ⟨R, hR⟩ : ∃ R, doI n C o = R := ⟨_, rfl⟩
        have HR := Lib.hid hR
        rw [hR] at hrun
        have HRUN := Lib.hid hrun
        clear kT hrun hR
        go_upto_region 16 with (first | (refine wpList_val rfl rfl (.agg (opA o)) (exec_load_opb (x := .tmp 11) rfl rfl hcz KO11.out) ?_) | (go_at_call 14; refine HRUN.out.mono ?_; rintro e w12 ⟨rfl, U2, h12, t12⟩))
        have kN := Blk.new w12 33 #[.int .i64 R.2.1.1, .int .i64 R.2.1.2]
        have M12 := M11.out.turn h12 t12
        have b13 := below_self_alloc w12 (.cells #[.int .i64 R.2.1.1, .int .i64 R.2.1.2] 33)
        have M13 := Lib.hid (M12.same b13)
        have KO13 := Lib.hid ((M11.out.live.kblk t12 KO11.out (by decide) (by decide)).alloc (.cells #[.int .i64 R.2.1.1, .int .i64 R.2.1.2] 33))
        have KT13 := Lib.hid ((M11.out.live.kblk t12 KT11.out (by decide) (by decide)).alloc (.cells #[.int .i64 R.2.1.1, .int .i64 R.2.1.2] 33))
        have OW13 := Lib.hid ((M11.out.live.kcls t12 OW11.out).below b13)
        clear h12 t12 M12 b13 HRUN M11 KO11 KT11 OW11
        generalize w12.alloc (.cells #[.int .i64 R.2.1.1, .int .i64 R.2.1.2] 33) = w13 at *
        have KN13 := Lib.hid kN
        generalize w12.heap.size = gN at *
        clear kN hcz
        have o0k : w13.cell? ⟨gO, 0, none⟩ = some (.int .i64 o.kind) := (KO13.out.cell 0).trans rfl
        have o1k : w13.cell? ⟨gO, 1, none⟩ = some (.int .i64 o.seat) := (KO13.out.cell 1).trans rfl
        have t0k : w13.cell? ⟨gT, 0, none⟩ = some (.int .i64 S.1) := KT13.out.cell 0
        have HE12 := Lib.hid (show o.kind = 1 → S.1 ≠ o.seat → R.2.2.1 = 12 from fun e1 e2 => by
          rw [← HR.out]
          refine doI_other HI.out HES.out e1 ?_
          rw [HLV.out, HS.out, ← HES.out]
          exact e2)
        go_cut [72] from 59 to 71 (fun v wx => v = .bool false ∧ wx = w13)
        case first =>
          by_cases e1 : o.kind = 1
          · rw [e1] at o0k
            by_cases e2 : S.1 = o.seat
            · rw [e2] at t0k
              go_wp2_with fail
              go_meet
              exact ⟨by simp, rfl⟩
            · have e3 := HE12.out e1 e2
              have d2 : (S.1 != o.seat) = true := by simpa using e2
              have d3 : (R.2.2.1 != 12) = false := by rw [e3]; rfl
              clear e3
              go_wp2_with fail
              go_meet
              exact ⟨by simp, rfl⟩
          · have d1 : (o.kind == 1) = false := by simpa using e1
            go_wp2_with fail
            go_meet
            exact ⟨rfl, rfl⟩
        case rest =>
          obtain ⟨rfl, rfl⟩ := hcut
          go_upto_region 18 with fail
          go_cut [79] from 73 to 78 (fun v wx => v = .bool (decide (¬ (o.kind = 0 ∧ R.2.2.1 = 0))) ∧ wx = wc)
          case first =>
            by_cases e0 : o.kind = 0
            · rw [e0] at o0k
              by_cases e3 : R.2.2.1 = 0
              · have d3 : (R.2.2.1 != 0) = false := by rw [e3]; rfl
                have x3 : decide (¬ (o.kind = 0 ∧ R.2.2.1 = 0)) = false := by simp [e0, e3]
                clear e3
                go_wp2_with fail
                go_meet
                exact ⟨by rw [x3], rfl⟩
              · have d3 : (R.2.2.1 != 0) = true := by simpa using e3
                have x3 : decide (¬ (o.kind = 0 ∧ R.2.2.1 = 0)) = true := by simp [e3]
                clear e3
                go_wp2_with fail
                go_meet
                exact ⟨by rw [x3], rfl⟩
            · have d0 : (o.kind != 0) = true := by simpa using e0
              have x3 : decide (¬ (o.kind = 0 ∧ R.2.2.1 = 0)) = true := by simp [e0]
              go_wp2_with fail
              go_meet
              exact ⟨by rw [x3], rfl⟩
          case rest =>
            obtain ⟨rfl, hwc⟩ := hcut
            obtain rfl := hwc
            by_cases hno : o.kind = 0 ∧ R.2.2.1 = 0
            · have hz : Z.length < 64 := by have := G1.out.2.1; omega
              have hnew := step_new G1.out.1 HI.out HES.out hz hno.1 (by rw [HR.out]; exact hno.2)
              rw [HLV.out, HS.out, HR.out] at hnew
              rw [decide_eq_false (fun e => e hno)]
              obtain ⟨c, hc⟩ : ∃ c, newC i (C.pg i) S o.pt = c := ⟨_, rfl⟩
              rw [hc] at hnew
              have hcid : c.id.1 = (i : Int) := by rw [← hc]; rfl
              have hcnt : ∀ d ∈ LV, d.id.2 < c.id.2 := fun d hd => by
                rw [← hc]
                refine cntS_lt ?_
                rw [← HLV.out, HES.out, viewS_nat HI.out] at hd
                exact hd
              obtain ⟨n1, n2, n3, n4⟩ := hnew
              rw [n1] at KN13
              have n1a : R.2.1.1 = c.id.1 := by rw [n1]
              have n1b : R.2.1.2 = c.id.2 := by rw [n1]
              have HG2 := Lib.hid n2
              have HN3 := Lib.hid n3
              have HN4 := Lib.hid n4
              have HLB := Lib.hid (show LB (k + 1) R.1 from by
                have := G1.out.2.2.doI (n := n) o
                rwa [HR.out] at this)
              have HFIT2 := Lib.hid (HG2.out.fit HLB.out (by omega))
              have HSEAT := Lib.hid (show (c.id.1 != o.seat) = false from by rw [hcid, HES.out]; simp)
              have HCNT := Lib.hid hcnt
              have HVW2 := Lib.hid (fun (W : World) (hW : WMap w W y U2 n R.1 mb L) => hW.live.view HFIT2.out o.seat)
              have HFND := Lib.hid (fun (W : World) (B : Nat) (v : Value) (h : OwnCls W B v (viewS n R.1 o.seat)) => own_find W h (view_len HFIT2.out.sane o.seat) c.id)
              have hpos : 0 ≤ findS (viewS n R.1 o.seat) c.id := by
                rw [HES.out, viewS_nat HI.out]
                rcases find_cases (walk_uq (HG2.out.inv.pg i HI.out).tr) c.id with ⟨h1, _⟩ | ⟨q, d, _, _, h3⟩
                · rw [getC_walk (HG2.out.inv.pg i HI.out), HN3.out] at h1
                  cases h1
                · rw [h3]
                  omega
              obtain ⟨FS, hFS⟩ : ∃ x, findS (viewS n R.1 o.seat) c.id = x := ⟨_, rfl⟩
              rw [hFS] at HFND hpos
              clear n1 n2 n3 n4 hno hcnt hcid hz hFS hc o0k o1k t0k HE12
              go_upto_region 19 with fail
              refine wp_region_hold (fun W => WMap w W y U2 n R.1 mb L ∧ Blk W gN 33 #[.int .i64 c.id.1, .int .i64 c.id.2] ∧ Blk W gO 39 (opA o)) [0, 1, 2, 3, 4, 5, 6, 7, 8, 9, 10, 11, 12, 13, 15] [14] [16, 17, 18] (by kernel_rfl) (by kernel_rfl) (fun _ d _ _ _ h => by cases d <;> exact h) (⟨M13.out.same ⟨rfl, rfl, rfl, Nat.le_refl _, fun _ _ => rfl⟩, KN13.out.drewN 1, KO13.out.drewN 1⟩) ?_
              simp only [pick, List.drop_succ_cons, List.drop_zero, List.head?_cons, Option.toList_some, List.cons_append, List.nil_append, List.append_nil]
              try simp only [Act.put]
              (refine wpHeld_step ?_ rfl ?_ ?_; rotate_left; · (intro W hW; have i0 : W.cell? ⟨gN, 0, none⟩ = some (.int .i64 c.id.1) := hW.2.1.cell 0; have i1 : W.cell? ⟨gN, 1, none⟩ = some (.int .i64 c.id.2) := hW.2.1.cell 1; have q1 : W.cell? ⟨gO, 1, none⟩ = some (.int .i64 o.seat) := (hW.2.2.cell 1).trans rfl; have lk : (Instr.lookup 60 (.map (some mb)) (.agg #[.int .i64 c.id.1, .int .i64 c.id.2]) false).run Try.prog W = .ok (.bool false) W := hW.1.map.look_none kysS Try.underlying60 KY.out.st ⟨c.id, rfl⟩ (KY.out.out HN4.out) (zeroB W) false; have db := HSEAT.out; (go_simp; try with_reducible rfl))); simp only [Act.put, List.setIfInBounds_toArray, List.set_cons_succ, List.set_cons_zero]
              (refine wpHeld_step ?_ rfl ?_ ?_; rotate_left; · (intro W hW; have i0 : W.cell? ⟨gN, 0, none⟩ = some (.int .i64 c.id.1) := hW.2.1.cell 0; have i1 : W.cell? ⟨gN, 1, none⟩ = some (.int .i64 c.id.2) := hW.2.1.cell 1; have q1 : W.cell? ⟨gO, 1, none⟩ = some (.int .i64 o.seat) := (hW.2.2.cell 1).trans rfl; have lk : (Instr.lookup 60 (.map (some mb)) (.agg #[.int .i64 c.id.1, .int .i64 c.id.2]) false).run Try.prog W = .ok (.bool false) W := hW.1.map.look_none kysS Try.underlying60 KY.out.st ⟨c.id, rfl⟩ (KY.out.out HN4.out) (zeroB W) false; have db := HSEAT.out; (go_simp; try with_reducible rfl))); simp only [Act.put, List.setIfInBounds_toArray, List.set_cons_succ, List.set_cons_zero]
              (refine wpHeld_step ?_ rfl ?_ ?_; rotate_left; · (intro W hW; have i0 : W.cell? ⟨gN, 0, none⟩ = some (.int .i64 c.id.1) := hW.2.1.cell 0; have i1 : W.cell? ⟨gN, 1, none⟩ = some (.int .i64 c.id.2) := hW.2.1.cell 1; have q1 : W.cell? ⟨gO, 1, none⟩ = some (.int .i64 o.seat) := (hW.2.2.cell 1).trans rfl; have lk : (Instr.lookup 60 (.map (some mb)) (.agg #[.int .i64 c.id.1, .int .i64 c.id.2]) false).run Try.prog W = .ok (.bool false) W := hW.1.map.look_none kysS Try.underlying60 KY.out.st ⟨c.id, rfl⟩ (KY.out.out HN4.out) (zeroB W) false; have db := HSEAT.out; (go_simp; try with_reducible rfl))); simp only [Act.put, List.setIfInBounds_toArray, List.set_cons_succ, List.set_cons_zero]
              (refine wpHeld_step ?_ rfl ?_ ?_; rotate_left; · (intro W hW; have i0 : W.cell? ⟨gN, 0, none⟩ = some (.int .i64 c.id.1) := hW.2.1.cell 0; have i1 : W.cell? ⟨gN, 1, none⟩ = some (.int .i64 c.id.2) := hW.2.1.cell 1; have q1 : W.cell? ⟨gO, 1, none⟩ = some (.int .i64 o.seat) := (hW.2.2.cell 1).trans rfl; have lk : (Instr.lookup 60 (.map (some mb)) (.agg #[.int .i64 c.id.1, .int .i64 c.id.2]) false).run Try.prog W = .ok (.bool false) W := hW.1.map.look_none kysS Try.underlying60 KY.out.st ⟨c.id, rfl⟩ (KY.out.out HN4.out) (zeroB W) false; have db := HSEAT.out; (go_simp; try with_reducible rfl))); simp only [Act.put, List.setIfInBounds_toArray, List.set_cons_succ, List.set_cons_zero]
              (refine wpHeld_want ?_ (by kernel_rfl) ?_ ?_; rotate_left; · (intro W hW; have i0 : W.cell? ⟨gN, 0, none⟩ = some (.int .i64 c.id.1) := hW.2.1.cell 0; have i1 : W.cell? ⟨gN, 1, none⟩ = some (.int .i64 c.id.2) := hW.2.1.cell 1; have q1 : W.cell? ⟨gO, 1, none⟩ = some (.int .i64 o.seat) := (hW.2.2.cell 1).trans rfl; have lk : (Instr.lookup 60 (.map (some mb)) (.agg #[.int .i64 c.id.1, .int .i64 c.id.2]) false).run Try.prog W = .ok (.bool false) W := hW.1.map.look_none kysS Try.underlying60 KY.out.st ⟨c.id, rfl⟩ (KY.out.out HN4.out) (zeroB W) false; have db := HSEAT.out; (go_simp; try with_reducible rfl))); simp only [Act.put, List.setIfInBounds_toArray, List.set_cons_succ, List.set_cons_zero]
              (refine wpHeld_want ?_ (by kernel_rfl) ?_ ?_; rotate_left; · (intro W hW; have i0 : W.cell? ⟨gN, 0, none⟩ = some (.int .i64 c.id.1) := hW.2.1.cell 0; have i1 : W.cell? ⟨gN, 1, none⟩ = some (.int .i64 c.id.2) := hW.2.1.cell 1; have q1 : W.cell? ⟨gO, 1, none⟩ = some (.int .i64 o.seat) := (hW.2.2.cell 1).trans rfl; have lk : (Instr.lookup 60 (.map (some mb)) (.agg #[.int .i64 c.id.1, .int .i64 c.id.2]) false).run Try.prog W = .ok (.bool false) W := hW.1.map.look_none kysS Try.underlying60 KY.out.st ⟨c.id, rfl⟩ (KY.out.out HN4.out) (zeroB W) false; have db := HSEAT.out; (go_simp; try with_reducible rfl))); simp only [Act.put, List.setIfInBounds_toArray, List.set_cons_succ, List.set_cons_zero]
              (refine wpHeld_want ?_ (by kernel_rfl) ?_ ?_; rotate_left; · (intro W hW; have i0 : W.cell? ⟨gN, 0, none⟩ = some (.int .i64 c.id.1) := hW.2.1.cell 0; have i1 : W.cell? ⟨gN, 1, none⟩ = some (.int .i64 c.id.2) := hW.2.1.cell 1; have q1 : W.cell? ⟨gO, 1, none⟩ = some (.int .i64 o.seat) := (hW.2.2.cell 1).trans rfl; have lk : (Instr.lookup 60 (.map (some mb)) (.agg #[.int .i64 c.id.1, .int .i64 c.id.2]) false).run Try.prog W = .ok (.bool false) W := hW.1.map.look_none kysS Try.underlying60 KY.out.st ⟨c.id, rfl⟩ (KY.out.out HN4.out) (zeroB W) false; have db := HSEAT.out; (go_simp; try with_reducible rfl))); simp only [Act.put, List.setIfInBounds_toArray, List.set_cons_succ, List.set_cons_zero]
              (refine wpHeld_want ?_ (by kernel_rfl) ?_ ?_; rotate_left; · (intro W hW; have i0 : W.cell? ⟨gN, 0, none⟩ = some (.int .i64 c.id.1) := hW.2.1.cell 0; have i1 : W.cell? ⟨gN, 1, none⟩ = some (.int .i64 c.id.2) := hW.2.1.cell 1; have q1 : W.cell? ⟨gO, 1, none⟩ = some (.int .i64 o.seat) := (hW.2.2.cell 1).trans rfl; have lk : (Instr.lookup 60 (.map (some mb)) (.agg #[.int .i64 c.id.1, .int .i64 c.id.2]) false).run Try.prog W = .ok (.bool false) W := hW.1.map.look_none kysS Try.underlying60 KY.out.st ⟨c.id, rfl⟩ (KY.out.out HN4.out) (zeroB W) false; have db := HSEAT.out; (go_simp; try with_reducible rfl))); simp only [Act.put, List.setIfInBounds_toArray, List.set_cons_succ, List.set_cons_zero]
              (refine wpHeld_want ?_ (by kernel_rfl) ?_ ?_; rotate_left; · (intro W hW; have i0 : W.cell? ⟨gN, 0, none⟩ = some (.int .i64 c.id.1) := hW.2.1.cell 0; have i1 : W.cell? ⟨gN, 1, none⟩ = some (.int .i64 c.id.2) := hW.2.1.cell 1; have q1 : W.cell? ⟨gO, 1, none⟩ = some (.int .i64 o.seat) := (hW.2.2.cell 1).trans rfl; have lk : (Instr.lookup 60 (.map (some mb)) (.agg #[.int .i64 c.id.1, .int .i64 c.id.2]) false).run Try.prog W = .ok (.bool false) W := hW.1.map.look_none kysS Try.underlying60 KY.out.st ⟨c.id, rfl⟩ (KY.out.out HN4.out) (zeroB W) false; have db := HSEAT.out; (go_simp; try with_reducible rfl))); simp only [Act.put, List.setIfInBounds_toArray, List.set_cons_succ, List.set_cons_zero]
              (refine wpHeld_step ?_ rfl ?_ ?_; rotate_left; · (intro W hW; have i0 : W.cell? ⟨gN, 0, none⟩ = some (.int .i64 c.id.1) := hW.2.1.cell 0; have i1 : W.cell? ⟨gN, 1, none⟩ = some (.int .i64 c.id.2) := hW.2.1.cell 1; have q1 : W.cell? ⟨gO, 1, none⟩ = some (.int .i64 o.seat) := (hW.2.2.cell 1).trans rfl; have lk : (Instr.lookup 60 (.map (some mb)) (.agg #[.int .i64 c.id.1, .int .i64 c.id.2]) false).run Try.prog W = .ok (.bool false) W := hW.1.map.look_none kysS Try.underlying60 KY.out.st ⟨c.id, rfl⟩ (KY.out.out HN4.out) (zeroB W) false; have db := HSEAT.out; (go_simp; try with_reducible rfl))); simp only [Act.put, List.setIfInBounds_toArray, List.set_cons_succ, List.set_cons_zero]
              (refine wpHeld_step ?_ rfl ?_ ?_; rotate_left; · (intro W hW; have i0 : W.cell? ⟨gN, 0, none⟩ = some (.int .i64 c.id.1) := hW.2.1.cell 0; have i1 : W.cell? ⟨gN, 1, none⟩ = some (.int .i64 c.id.2) := hW.2.1.cell 1; have q1 : W.cell? ⟨gO, 1, none⟩ = some (.int .i64 o.seat) := (hW.2.2.cell 1).trans rfl; have lk : (Instr.lookup 60 (.map (some mb)) (.agg #[.int .i64 c.id.1, .int .i64 c.id.2]) false).run Try.prog W = .ok (.bool false) W := hW.1.map.look_none kysS Try.underlying60 KY.out.st ⟨c.id, rfl⟩ (KY.out.out HN4.out) (zeroB W) false; have db := HSEAT.out; (go_simp; try with_reducible rfl))); simp only [Act.put, List.setIfInBounds_toArray, List.set_cons_succ, List.set_cons_zero]
              (refine wpHeld_want ?_ (by kernel_rfl) ?_ ?_; rotate_left; · (intro W hW; have i0 : W.cell? ⟨gN, 0, none⟩ = some (.int .i64 c.id.1) := hW.2.1.cell 0; have i1 : W.cell? ⟨gN, 1, none⟩ = some (.int .i64 c.id.2) := hW.2.1.cell 1; have q1 : W.cell? ⟨gO, 1, none⟩ = some (.int .i64 o.seat) := (hW.2.2.cell 1).trans rfl; have lk : (Instr.lookup 60 (.map (some mb)) (.agg #[.int .i64 c.id.1, .int .i64 c.id.2]) false).run Try.prog W = .ok (.bool false) W := hW.1.map.look_none kysS Try.underlying60 KY.out.st ⟨c.id, rfl⟩ (KY.out.out HN4.out) (zeroB W) false; have db := HSEAT.out; (go_simp; try with_reducible rfl))); simp only [Act.put, List.setIfInBounds_toArray, List.set_cons_succ, List.set_cons_zero]
              (refine wpHeld_want ?_ (by kernel_rfl) ?_ ?_; rotate_left; · (intro W hW; have i0 : W.cell? ⟨gN, 0, none⟩ = some (.int .i64 c.id.1) := hW.2.1.cell 0; have i1 : W.cell? ⟨gN, 1, none⟩ = some (.int .i64 c.id.2) := hW.2.1.cell 1; have q1 : W.cell? ⟨gO, 1, none⟩ = some (.int .i64 o.seat) := (hW.2.2.cell 1).trans rfl; have lk : (Instr.lookup 60 (.map (some mb)) (.agg #[.int .i64 c.id.1, .int .i64 c.id.2]) false).run Try.prog W = .ok (.bool false) W := hW.1.map.look_none kysS Try.underlying60 KY.out.st ⟨c.id, rfl⟩ (KY.out.out HN4.out) (zeroB W) false; have db := HSEAT.out; (go_simp; try with_reducible rfl))); simp only [Act.put, List.setIfInBounds_toArray, List.set_cons_succ, List.set_cons_zero]
              (refine wpHeld_want ?_ (by kernel_rfl) ?_ ?_; rotate_left; · (intro W hW; have i0 : W.cell? ⟨gN, 0, none⟩ = some (.int .i64 c.id.1) := hW.2.1.cell 0; have i1 : W.cell? ⟨gN, 1, none⟩ = some (.int .i64 c.id.2) := hW.2.1.cell 1; have q1 : W.cell? ⟨gO, 1, none⟩ = some (.int .i64 o.seat) := (hW.2.2.cell 1).trans rfl; have lk : (Instr.lookup 60 (.map (some mb)) (.agg #[.int .i64 c.id.1, .int .i64 c.id.2]) false).run Try.prog W = .ok (.bool false) W := hW.1.map.look_none kysS Try.underlying60 KY.out.st ⟨c.id, rfl⟩ (KY.out.out HN4.out) (zeroB W) false; have db := HSEAT.out; (go_simp; try with_reducible rfl))); simp only [Act.put, List.setIfInBounds_toArray, List.set_cons_succ, List.set_cons_zero]
              (refine wpHeld_want ?_ (by kernel_rfl) ?_ ?_; rotate_left; · (intro W hW; have i0 : W.cell? ⟨gN, 0, none⟩ = some (.int .i64 c.id.1) := hW.2.1.cell 0; have i1 : W.cell? ⟨gN, 1, none⟩ = some (.int .i64 c.id.2) := hW.2.1.cell 1; have q1 : W.cell? ⟨gO, 1, none⟩ = some (.int .i64 o.seat) := (hW.2.2.cell 1).trans rfl; have lk : (Instr.lookup 60 (.map (some mb)) (.agg #[.int .i64 c.id.1, .int .i64 c.id.2]) false).run Try.prog W = .ok (.bool false) W := hW.1.map.look_none kysS Try.underlying60 KY.out.st ⟨c.id, rfl⟩ (KY.out.out HN4.out) (zeroB W) false; have db := HSEAT.out; (go_simp; try with_reducible rfl))); simp only [Act.put, List.setIfInBounds_toArray, List.set_cons_succ, List.set_cons_zero]
              refine wpHeld_nil ?_
              simp only [wpEarly]
              have M14 := Lib.hid M13.out.drew
              go_wp2_with (go_at_call 20; refine (HVW2.out _ M14.out).mono ?_; rintro e w15 ⟨v15, rfl, own15, b15⟩)
              have M15 := Lib.hid (M14.out.same b15)
              have KN15 := Lib.hid ((KN13.out.drewN 1).below b15 KN13.out.lt)
              have KO15 := Lib.hid ((KO13.out.drewN 1).below b15 KO13.out.lt)
              have OW15 := Lib.hid (OwnCls.below (OW13.out.dN 1) b15)
              have O15 := Lib.hid own15
              clear b15 own15 M14 M13 KN13 KO13 OW13 HVW2
              go_wp2_with fail
              refine ⟨⟨M15.out, KN15.out, KO15.out⟩, ?_⟩
              go_upto_region 21 with (go_at_call 26; refine (HFND.out _ _ _ O15.out).mono ?_; clear HFND; rintro e w17 ⟨rfl, b17⟩; have M17 := Lib.hid (M15.out.same b17))
              have KN17 := Lib.hid (KN15.out.below b17 KN15.out.lt)
              have OW17 := Lib.hid (OW15.out.below b17)
              obtain ⟨w18, hu, hm, hg⟩ := M17.out.map.upd_none kysS Try.underlying60 KY.out.st (x := .agg #[.int .i64 c.id.1, .int .i64 c.id.2]) ⟨c.id, rfl⟩ (KY.out.out HN4.out) (.bool true)
              have M18 := Lib.hid (M17.out.upd hm hg)
              have ho18 := Only.of_grown hg
              have OW18 := ho18.owns OW17.out fun q hq e => by injection e with e; exact OW17.out.ne_map M17.out.map (by rw [hq, e])
              have KN18 := Lib.hid (ho18.blk KN17.out fun e => by injection e with e; exact ne_of_map M17.out.map KN17.out e)
              obtain ⟨A18, c18, e18, hc18⟩ := OwnCls.form OW18
              injection e18 with e18a _ _
              subst e18a
              have HC18 := Lib.hid hc18
              have i0 : w17.cell? ⟨gN, 0, none⟩ = some (.int .i64 c.id.1) := KN17.out.cell 0
              have i1 : w17.cell? ⟨gN, 1, none⟩ = some (.int .i64 c.id.2) := KN17.out.cell 1
              clear hm hg ho18 OW18 hc18 OW17 KN17 M17 M15 KN15 KO15 OW15 O15
              go_wp2_with fail
              have hNV := Lib.hid (show (NV : Int) ≤ 1000000 from by omega)
              go_loopw [17] (fun v wr => ∃ q nq : Nat, wr = w18.drewN nq ∧ q ≤ NV ∧ v = .int .i64 (q : Int)) (fun v _ => NV - (intOf v).toNat)
              case atStart => exact ⟨0, 0, rfl, Nat.zero_le _, rfl⟩
              case round =>
                obtain ⟨q, nq, rfl, hq, rfl⟩ := hrel
                by_cases hqN : q < NV
                · obtain ⟨d, hd⟩ : ∃ d, LV[q]? = some d := ⟨_, List.getElem?_eq_getElem (by rw [HNV.out]; exact hqN)⟩
                  obtain ⟨g1, o1, rfl, -, -⟩ := HC18.out q d hd
                  have e1 : decide ((q : Int) < (NV : Int)) = true := decide_eq_true (by omega)
                  have hgt : decide (d.id.2 ≥ c.id.2) = false := decide_eq_false (by have := HCNT.out d (List.mem_of_getElem? hd); omega)
                  have HQN := Lib.hid hqN
                  have HD := Lib.hid hd
                  have HGT := Lib.hid hgt
                  clear hd hgt
                  go_upto_region 25 with fail
                  refine wp_region_hold (fun W => ClsAt W w18.heap.size (some ⟨g1, o1, none⟩) LV ∧ Blk W gN 33 #[.int .i64 c.id.1, .int .i64 c.id.2]) [0, 1, 2, 3, 4, 5, 6, 7] [] [8] (by kernel_rfl) (by kernel_rfl) (fun _ d _ _ _ h => by cases d <;> exact h) (⟨HC18.out.drewN (nq + 1), KN18.out.drewN (nq + 1)⟩) ?_
                  simp only [pick, List.drop_succ_cons, List.drop_zero, List.head?_cons, Option.toList_some, List.cons_append, List.nil_append, List.append_nil]
                  try simp only [Act.put]
                  repeat ((refine wpHeld_step ?_ rfl ?_ ?_; rotate_left; · (intro W hW; obtain ⟨_, q1, _⟩ := hW.1.at_ HD.out rfl; have q2 : W.cell? ⟨gN, 1, none⟩ = some (.int .i64 c.id.2) := hW.2.cell 1; (go_simp; try with_reducible rfl))); simp only [Act.put, List.setIfInBounds_toArray, List.set_cons_succ, List.set_cons_zero])
                  refine wpHeld_nil ?_
                  simp only [wpEarly]
                  have hgt := HGT.out
                  go_wp2_with fail
                  exact ⟨⟨q + 1, nq + 1, rfl, HQN.out, by go_num⟩, by have := HQN.out; simp [intOf]; omega⟩
                · obtain rfl : q = NV := by omega
                  go_wp2_with fail
                  have G2 := Lib.hid (show Gd (Z ++ [c]) n R.1 ∧ (Z ++ [c]).length ≤ k + 1 ∧ LB (k + 1) R.1 from ⟨HG2.out, by have := G1.out.2.1; simp; omega, HLB.out⟩)
                  exact ⟨⟨k + 1, by omega, by go_num, _, _, _, _, Lib.hid (M18.out.same ⟨rfl, rfl, rfl, Nat.le_refl _, fun _ _ => rfl⟩), G2, Lib.hid (KY.out.snoc c)⟩, by simp [intOf]; omega⟩
            · obtain ⟨Z', z1, z2, z3, -, -⟩ := step_other G1.out.1 HI.out HJ.out HES.out HET.out (by have := G1.out.2.1; omega) (by rw [HR.out]; exact hno)
              have z4 := G1.out.2.2.doI (n := n) o
              rw [HR.out] at z1 z4
              have G2 := Lib.hid (show Gd Z' n R.1 ∧ Z'.length ≤ k + 1 ∧ LB (k + 1) R.1 from ⟨z1, by have := G1.out.2.1; omega, z4⟩)
              have KY2 := Lib.hid (KY.out.mono z3)
              rw [decide_eq_true hno]
              clear z1 z2 z3 z4 hno
              go_wp2_with fail
              exact ⟨⟨k + 1, by omega, by go_num, _, _, _, Z', M13, G2, KY2⟩, by simp [intOf]; omega⟩
      · obtain rfl : k = N1 := by omega
        go_wp2_with fail
        go_ret
        exact ⟨rfl, M1.out.live.bel⟩
end Go.Proofs.Ytaicbllfkehhjaa

/- ChamberSettles, walked. -/
namespace Go.Proofs.Ytaicbllfkehhjaa
open Go.RowKit

theorem gd_perm {Z : List Cl} {n K : Nat} {C : Ch} (hn : 0 < n) (h : Gd Z n C) (k : LB K C) (hK : K ≤ 198) : (walkS Z).Perm Z := by
  obtain ⟨h1, h2, _⟩ := finish_spec h.few h.inv k hK
  rw [← finish_walk h1 (h2 0 hn)]
  exact (walk_perm (h1.pg 0 hn).tr).trans (h2 0 hn)
theorem len_map {w : World} {b : Nat} {L : List (Value × Value)} (h : MapV w b L) (ty : TypeId) :
    (Builtin.len_ #[53] ty #[.map (some b)]).run Try.prog w = .ok (.int .i64 (L.length : Int)) w := by
  obtain ⟨es, c, h1, h2, _⟩ := h
  rw [run_len_map w _ _ _ _ _ (by kernel_rfl) h1, ← h2, List.length_map, Array.length_toList]
  rfl
theorem kvs_len (L : List Cl) : (kvs L).length = L.length := by
  unfold kvs
  rw [List.length_map]
theorem gone_cells (c : Cl) : (clA c).setIfInBounds 19 (.bool true) = clA (goneC c) := rfl

set_option maxRecDepth 100000 in
set_option maxHeartbeats 8000000 in
theorem csettles_walk (w : World) (raw : Int) (hr : (Lit.int .u8 raw).wf = true) (A1 : Option Addr) (cap1 : Nat) (l : List OpC) (h1 : OpsIn w w.heap.size A1 l) :
    Calls Try.prog 4 #[.int .u8 raw, .slice A1 l.length cap1] w fun e w' => e = .returned (.bool true) ∧ Below w.heap.size w w' := by
  obtain ⟨n, hn, hn1, hn5⟩ := num_nat raw
  have hraw := wf_u8 hr
  have HFL := Lib.hid (fun W (hW : Below w.heap.size w W) => few_any W A1 cap1 l ((h1.1.below hW).wide hW.size) h1.2.2)
  have HH1 := Lib.hid h1
  have hl1 := h1.2.2
  obtain ⟨N1, hN1⟩ : ∃ N, l.length = N := ⟨_, rfl⟩
  have HN1 := Lib.hid hN1
  rw [hN1] at HFL hl1 ⊢
  have g1 : fewB l = true → N1 ≤ 60 := fun e => hN1 ▸ fewB_len e
  have HG1 := Lib.hid g1
  have HNUM := Lib.hid (show ∀ W, Calls Try.prog 23 #[.int .u8 raw] W fun e w' => e = .returned (.int .i64 (n : Int)) ∧ w' = W from fun W => by
    rw [← hn]
    exact number_any W raw hraw)
  clear h1 hN1 hr hn hraw g1
  obtain ⟨F1, hF1⟩ : ∃ b, fewB l = b := ⟨_, rfl⟩
  rw [hF1] at HFL HG1
  clear hF1
  have hmm := @run_makeMap Try.prog
  go_enter Try.func4, Try.ntmps4
  go_upto_region 2 with (go_at_call 8; refine (head_any w).mono ?_; rintro e w1 ⟨rfl, b1⟩)
  have B1 := Lib.hid b1
  clear b1
  cases F1 with
  | false =>
    go_wp2_with (go_at_call 9; refine (HFL.out _ B1.out).mono ?_; rintro e w2 ⟨rfl, b2⟩)
    go_ret
    exact ⟨rfl, B1.out.trans (b2.mono B1.out.size)⟩
  | true =>
    have m1 := HG1.out rfl
    clear HG1 hl1
    go_upto_region 8 with (first | (go_at_call 9; refine (HFL.out _ B1.out).mono ?_; clear HFL; rintro e w2 ⟨rfl, b2⟩; have B2 := Lib.hid (B1.out.trans (b2.mono B1.out.size)); clear b2) | (go_at_call 23; refine (HNUM.out _).mono ?_; rintro e w3 ⟨rfl, rfl⟩) | (go_at_call 10; refine (Live.new w _ B2.out n hn1 (by omega)).mono ?_; rintro e w5 ⟨y, V1, rfl, k1, -, c1⟩; have L1 := Lib.hid k1; clear k1 c1))
    have WM := Lib.hid (WMap.new L1.out)
    have hn5i : (n : Int) ≤ 5 := by omega
    have hm1 : (N1 : Int) ≤ 60 := by omega
    have HSZ := Lib.hid L1.out.bel.size
    clear L1 B2 B1
    go_wp2_with fail
    generalize w5.alloc (.map #[] 0) = w6 at *
    generalize w5.heap.size = mb at *
    clear hmm
    go_loopw [10] (fun v wr => ∃ k : Nat, k ≤ N1 ∧ v = .int .i64 (k : Int) ∧ ∃ V C Z, Hid (WMap w wr y V n C mb (kvs Z)) ∧ Hid (Gd Z n C ∧ Z.length ≤ k ∧ LB k C)) (fun v _ => N1 - (intOf v).toNat)
    case atStart => exact ⟨0, Nat.zero_le _, rfl, _, _, [], WM, Lib.hid ⟨Gd.new n, Nat.le_refl _, LB.new n⟩⟩
    case round =>
      obtain ⟨k, hk, rfl, U1, C, Z, M1, G1⟩ := hrel
      clear WM
      by_cases hlt : k < N1
      · obtain ⟨o0, ho⟩ : ∃ o, l[k]? = some o := ⟨_, List.getElem?_eq_getElem (by rw [HN1.out]; exact hlt)⟩
        have hops := HH1.out.1.below M1.out.live.bel
        obtain ⟨g, off, rfl, -⟩ := op_kind hops ho
        have hk0 : (0 : Int) ≤ (k : Int) := by omega
        have hk1 : (k : Int) < (N1 : Int) := by omega
        have HOPS := Lib.hid hops
        have HO := Lib.hid ho
        have HOKO := Lib.hid (within_ok (HH1.out.2.1 o0 (List.mem_of_getElem? ho)) n)
        obtain ⟨i, j, hi, hj, es, et⟩ := within_seat o0 hn1
        have HWI := Lib.hid (fun W => within_any W o0 n hn1 hn5)
        obtain ⟨o, hoo⟩ : ∃ o, withinS o0 n = o := ⟨_, rfl⟩
        rw [hoo] at HOKO es et HWI
        have HI := Lib.hid hi
        have HJ := Lib.hid hj
        have HES := Lib.hid es
        have HET := Lib.hid et
        have HFIT := Lib.hid (G1.out.1.fit G1.out.2.2 (by omega))
        clear hops ho hoo hi hj es et
        go_upto_region 13 with (first | (refine wpList_val rfl rfl (.agg (opA o0)) (exec_load_ops (x := .tmp 42) rfl rfl HOPS.out rfl HO.out) ?_) | (go_at_call 24; refine (HWI.out _).mono ?_; rintro e w7 ⟨rfl, b7⟩; have M7 := Lib.hid (M1.out.same b7); have hpo := put_op w7 o; have hcz := opA_size o; clear b7))
        have HSTP := Lib.hid (fun (W : World) (A : Option Addr) (cap B : Nat) (lv : List Cl) (h : ClsAt W B A lv) (hB : B ≤ W.heap.size) (hl : lv.length ≤ 1000000) => stamp_any W o HOKO.out A cap B lv h hB hl)
        have kO := Blk.new w7 39 (opA o)
        have M8 := Lib.hid (M7.out.same (below_self_alloc w7 (.cells (opA o) 39)))
        generalize w7.alloc (.cells (opA o) 39) = w8 at *
        have KO := Lib.hid kO
        generalize w7.heap.size = gO at *
        clear kO M7 M1 hpo HWI HOPS
        have hvl := view_len HFIT.out.sane o.seat
        have HVW := Lib.hid (fun (W : World) (hW : WMap w W y U1 n C mb (kvs Z)) => hW.live.view HFIT.out o.seat)
        obtain ⟨LV, hLV⟩ : ∃ L, viewS n C o.seat = L := ⟨_, rfl⟩
        have HLV := Lib.hid hLV
        rw [hLV] at HVW hvl
        obtain ⟨S, hS⟩ : ∃ S, stampS o LV = S := ⟨_, rfl⟩
        have HS := Lib.hid hS
        clear hLV hS
        go_cut [12] from 46 to 51 (fun v12 wx => ∃ g, v12 = .pointer (some ⟨g, 0, none⟩) ∧ Blk wx g 33 #[.int .i64 S.1, .int .i64 S.2] ∧ Below w8.heap.size w8 wx)
        case first =>
          refine wp_region_ats (fun W => WMap w W y U1 n C mb (kvs Z) ∧ Blk W gO 39 (opA o)) (by kernel_rfl) (by kernel_rfl) (fun _ d _ _ _ h => by cases d <;> exact h) rfl ?_
          have B2 : Below w8.heap.size w8 w8.drew := (Below.refl _ _).drew
          generalize w8.drew = u2 at *
          refine ats_take [0, 1, 2, 3] 4 rfl (by kernel_rfl) ⟨M8.out.same B2, KO.out.below B2 KO.out.lt⟩ ?_
          simp only [pick, List.drop_succ_cons, List.drop_zero, List.head?_cons, Option.toList_some, List.cons_append, List.nil_append, List.append_nil]
          repeat ((refine wpHeld_step ?_ rfl ?_ ?_; rotate_left; · (intro W hW; have q0 : W.cell? ⟨gO, 1, none⟩ = some (.int .i64 o.seat) := (hW.2.cell 1).trans rfl; first | (refine exec_load_opb (x := .tmp 11) ?_ ?_ hcz hW.2 <;> rfl) | (go_simp; try with_reducible rfl))); simp only [Act.put, List.setIfInBounds_toArray, List.set_cons_succ, List.set_cons_zero])
          refine wpHeld_nil ?_
          refine ats_two 4 6 (by kernel_rfl) ?_ ?_
          · simp only [pick, List.drop_succ_cons, List.drop_zero, List.head?_cons, Option.toList_some, List.append_nil]
            go_wp2_with fail
            refine (HVW.out _ (M8.out.same B2)).mono ?_
            rintro e u3 ⟨v, rfl, own, b3⟩
            obtain ⟨A, cap, rfl, hcls⟩ := own.form
            have hle := Nat.le_refl u3.heap.size
            have B3 := B2.trans (b3.mono B2.size)
            try go_wp2_with fail
            refine ⟨⟨M8.out.same B3, KO.out.below B3 KO.out.lt⟩, ?_⟩
            refine ats_two 5 6 (by kernel_rfl) ?_ ?_
            · simp only [pick, List.drop_succ_cons, List.drop_zero, List.head?_cons, Option.toList_some, List.append_nil]
              go_wp2_with fail
              refine (HSTP.out _ A cap _ LV hcls hle hvl).mono ?_
              rintro e u4 ⟨rfl, b4⟩
              have B4 := B3.trans (b4.mono B3.size)
              try go_wp2_with fail
              refine ⟨⟨M8.out.same B4, KO.out.below B4 KO.out.lt⟩, ?_⟩
              refine ats_one 6 (by kernel_rfl) ?_
              simp only [pick, List.drop_succ_cons, List.drop_zero, List.head?_cons, Option.toList_some, List.append_nil]
              have z5 := Blk.new u4 33 #[.int .i64 0, .int .i64 0]
              have B5 := B4.alloc B4.size (.cells #[.int .i64 0, .int .i64 0] 33)
              have hge := B4.size
              go_wp2_with fail
              obtain ⟨g, hgg⟩ : ∃ g, u4.heap.size = g := ⟨_, rfl⟩
              rw [hgg] at z5 hge
              try simp only [hgg]
              generalize u4.alloc (.cells #[.int .i64 0, .int .i64 0] 33) = u5 at *
              clear hgg
              refine ⟨⟨M8.out.same B5, KO.out.below B5 KO.out.lt⟩, ?_⟩
              refine ats_one 7 (by kernel_rfl) ?_
              simp only [pick, List.drop_succ_cons, List.drop_zero, List.head?_cons, Option.toList_some, List.append_nil]
              have za := z5.all
              obtain ⟨z0, zf, zl⟩ := za
              have zk := (z5.set_ 0 (.int .i64 S.1)).set_ 1 (.int .i64 S.2)
              have BF := (B5.setCell (p := ⟨g, 0, none⟩) hge (.int .i64 S.1)).setCell (p := ⟨g, 1, none⟩) hge (.int .i64 S.2)
              rw [HS.out, show stA S = #[.int .i64 S.1, .int .i64 S.2] from rfl]
              go_wp2_with fail
              refine ⟨⟨M8.out.same BF, KO.out.below BF KO.out.lt⟩, ?_⟩
              refine ats_end (by kernel_rfl) ?_
              go_wp2_with fail
              go_meet
              exact ⟨g, rfl, zk, BF⟩
            · simp only [pick, List.drop_succ_cons, List.drop_zero, List.head?_cons, Option.toList_some, List.append_nil]
              have z4 := Blk.new u3 33 #[.int .i64 0, .int .i64 0]
              have B4 := B3.alloc B3.size (.cells #[.int .i64 0, .int .i64 0] 33)
              replace hcls := hcls.below (below_self_alloc _ (.cells #[.int .i64 0, .int .i64 0] 33))
              replace hle := (below_self_alloc u3 (.cells #[.int .i64 0, .int .i64 0] 33)).size
              have hge := B3.size
              go_wp2_with fail
              obtain ⟨g, hgg⟩ : ∃ g, u3.heap.size = g := ⟨_, rfl⟩
              rw [hgg] at z4 hge
              try simp only [hgg]
              generalize u3.alloc (.cells #[.int .i64 0, .int .i64 0] 33) = u4 at *
              clear hgg
              refine ⟨⟨M8.out.same B4, KO.out.below B4 KO.out.lt⟩, ?_⟩
              refine ats_one 5 (by kernel_rfl) ?_
              simp only [pick, List.drop_succ_cons, List.drop_zero, List.head?_cons, Option.toList_some, List.append_nil]
              go_wp2_with fail
              refine (HSTP.out _ A cap _ LV hcls hle hvl).mono ?_
              rintro e u5 ⟨rfl, b5⟩
              have B5 := B4.trans (b5.mono B4.size)
              have z5 := z4.below b5 z4.lt
              try go_wp2_with fail
              refine ⟨⟨M8.out.same B5, KO.out.below B5 KO.out.lt⟩, ?_⟩
              refine ats_one 7 (by kernel_rfl) ?_
              simp only [pick, List.drop_succ_cons, List.drop_zero, List.head?_cons, Option.toList_some, List.append_nil]
              have za := z5.all
              obtain ⟨z0, zf, zl⟩ := za
              have zk := (z5.set_ 0 (.int .i64 S.1)).set_ 1 (.int .i64 S.2)
              have BF := (B5.setCell (p := ⟨g, 0, none⟩) hge (.int .i64 S.1)).setCell (p := ⟨g, 1, none⟩) hge (.int .i64 S.2)
              rw [HS.out, show stA S = #[.int .i64 S.1, .int .i64 S.2] from rfl]
              go_wp2_with fail
              refine ⟨⟨M8.out.same BF, KO.out.below BF KO.out.lt⟩, ?_⟩
              refine ats_end (by kernel_rfl) ?_
              go_wp2_with fail
              go_meet
              exact ⟨g, rfl, zk, BF⟩
          · simp only [pick, List.drop_succ_cons, List.drop_zero, List.head?_cons, Option.toList_some, List.append_nil]
            have z3 := Blk.new u2 33 #[.int .i64 0, .int .i64 0]
            have B3 := B2.alloc B2.size (.cells #[.int .i64 0, .int .i64 0] 33)
            have hge := B2.size
            go_wp2_with fail
            obtain ⟨g, hgg⟩ : ∃ g, u2.heap.size = g := ⟨_, rfl⟩
            rw [hgg] at z3 hge
            try simp only [hgg]
            generalize u2.alloc (.cells #[.int .i64 0, .int .i64 0] 33) = u3 at *
            clear hgg
            refine ⟨⟨M8.out.same B3, KO.out.below B3 KO.out.lt⟩, ?_⟩
            refine ats_one 4 (by kernel_rfl) ?_
            simp only [pick, List.drop_succ_cons, List.drop_zero, List.head?_cons, Option.toList_some, List.append_nil]
            go_wp2_with fail
            refine (HVW.out _ (M8.out.same B3)).mono ?_
            rintro e u4 ⟨v, rfl, own, b4⟩
            obtain ⟨A, cap, rfl, hcls⟩ := own.form
            have hle := Nat.le_refl u4.heap.size
            have B4 := B3.trans (b4.mono B3.size)
            have z4 := z3.below b4 z3.lt
            try go_wp2_with fail
            refine ⟨⟨M8.out.same B4, KO.out.below B4 KO.out.lt⟩, ?_⟩
            refine ats_one 5 (by kernel_rfl) ?_
            simp only [pick, List.drop_succ_cons, List.drop_zero, List.head?_cons, Option.toList_some, List.append_nil]
            go_wp2_with fail
            refine (HSTP.out _ A cap _ LV hcls hle hvl).mono ?_
            rintro e u5 ⟨rfl, b5⟩
            have B5 := B4.trans (b5.mono B4.size)
            have z5 := z4.below b5 z4.lt
            try go_wp2_with fail
            refine ⟨⟨M8.out.same B5, KO.out.below B5 KO.out.lt⟩, ?_⟩
            refine ats_one 7 (by kernel_rfl) ?_
            simp only [pick, List.drop_succ_cons, List.drop_zero, List.head?_cons, Option.toList_some, List.append_nil]
            have za := z5.all
            obtain ⟨z0, zf, zl⟩ := za
            have zk := (z5.set_ 0 (.int .i64 S.1)).set_ 1 (.int .i64 S.2)
            have BF := (B5.setCell (p := ⟨g, 0, none⟩) hge (.int .i64 S.1)).setCell (p := ⟨g, 1, none⟩) hge (.int .i64 S.2)
            rw [HS.out, show stA S = #[.int .i64 S.1, .int .i64 S.2] from rfl]
            go_wp2_with fail
            refine ⟨⟨M8.out.same BF, KO.out.below BF KO.out.lt⟩, ?_⟩
            refine ats_end (by kernel_rfl) ?_
            go_wp2_with fail
            go_meet
            exact ⟨g, rfl, zk, BF⟩
        case rest =>
          obtain ⟨gS, rfl, kS, BF⟩ := hcut
          have M9 := Lib.hid (M8.out.same BF)
          have KO9 := Lib.hid (KO.out.below BF KO.out.lt)
          have KS9 := Lib.hid kS
          have hrun := M9.out.live.run HFIT.out o HOKO.out
          obtain ⟨R, hR⟩ : ∃ R, doI n C o = R := ⟨_, rfl⟩
          have HR := Lib.hid hR
          rw [hR] at hrun
          have HRUN := Lib.hid hrun
          clear kS hrun hR BF M8 KO HSTP HVW hvl
          go_upto_region 15 with (first | (refine wpList_val rfl rfl (.agg (opA o)) (exec_load_opb (x := .tmp 11) rfl rfl hcz KO9.out) ?_) | (go_at_call 14; refine HRUN.out.mono ?_; rintro e w12 ⟨rfl, U2, h12, t12⟩))
          have kN := Blk.new w12 33 #[.int .i64 R.2.1.1, .int .i64 R.2.1.2]
          have M12 := M9.out.turn h12 t12
          have b13 := below_self_alloc w12 (.cells #[.int .i64 R.2.1.1, .int .i64 R.2.1.2] 33)
          have M13 := Lib.hid (M12.same b13)
          have KO13 := Lib.hid ((M9.out.live.kblk t12 KO9.out (by decide) (by decide)).alloc (.cells #[.int .i64 R.2.1.1, .int .i64 R.2.1.2] 33))
          have KS13 := Lib.hid ((M9.out.live.kblk t12 KS9.out (by decide) (by decide)).alloc (.cells #[.int .i64 R.2.1.1, .int .i64 R.2.1.2] 33))
          clear h12 t12 M12 b13 HRUN M9 KO9 KS9
          generalize w12.alloc (.cells #[.int .i64 R.2.1.1, .int .i64 R.2.1.2] 33) = w13 at *
          have KN13 := Lib.hid kN
          generalize w12.heap.size = gN at *
          clear kN hcz
          have o0k : w13.cell? ⟨gO, 0, none⟩ = some (.int .i64 o.kind) := (KO13.out.cell 0).trans rfl
          go_cut [65] from 59 to 64 (fun v wx => v = .bool (decide (o.kind = 0 ∧ R.2.2.1 = 0)) ∧ wx = w13)
          case first =>
            by_cases e0 : o.kind = 0
            · rw [e0] at o0k
              by_cases e3 : R.2.2.1 = 0
              · have d3 : (R.2.2.1 == 0) = true := by rw [e3]; rfl
                have x3 : decide (o.kind = 0 ∧ R.2.2.1 = 0) = true := by simp [e0, e3]
                clear e3
                go_wp2_with fail
                go_meet
                exact ⟨by rw [x3], rfl⟩
              · have d3 : (R.2.2.1 == 0) = false := by simpa using e3
                have x3 : decide (o.kind = 0 ∧ R.2.2.1 = 0) = false := by simp [e3]
                clear e3
                go_wp2_with fail
                go_meet
                exact ⟨by rw [x3], rfl⟩
            · have d0 : (o.kind == 0) = false := by simpa using e0
              have x3 : decide (o.kind = 0 ∧ R.2.2.1 = 0) = false := by simp [e0]
              go_wp2_with fail
              go_meet
              exact ⟨by rw [x3], rfl⟩
          case rest =>
            obtain ⟨rfl, rfl⟩ := hcut
            have HZ := Lib.hid (show Z.length < 64 from by have := G1.out.2.1; omega)
            by_cases hno : o.kind = 0 ∧ R.2.2.1 = 0
            · have hnew := step_new G1.out.1 HI.out HES.out HZ.out hno.1 (by rw [HR.out]; exact hno.2)
              rw [HLV.out, HS.out, HR.out] at hnew
              rw [decide_eq_true hno]
              obtain ⟨ci, hci⟩ : ∃ t, (newC i (C.pg i) S o.pt).id = t := ⟨_, rfl⟩
              have hc : newC i (C.pg i) S o.pt = ⟨ci, S, o.pt, false⟩ := by rw [← hci]; rfl
              rw [hc] at hnew
              obtain ⟨n1, n2, -, n4⟩ := hnew
              rw [n1] at KN13
              have HG2 := Lib.hid n2
              have HN4 := Lib.hid n4
              have HLB := Lib.hid (show LB (k + 1) R.1 from by
                have := G1.out.2.2.doI (n := n) o
                rwa [HR.out] at this)
              have he0 := hno.1
              clear n1 n2 n4 hno hci hc o0k
              have i0 : wc.cell? ⟨gN, 0, none⟩ = some (.int .i64 ci.1) := KN13.out.cell 0
              have i1 : wc.cell? ⟨gN, 1, none⟩ = some (.int .i64 ci.2) := KN13.out.cell 1
              have s0 : wc.cell? ⟨gS, 0, none⟩ = some (.int .i64 S.1) := KS13.out.cell 0
              have s1 : wc.cell? ⟨gS, 1, none⟩ = some (.int .i64 S.2) := KS13.out.cell 1
              have HO1 := Lib.hid (OpsAt.of_blk KO13.out (Nat.lt_succ_self gO))
              obtain ⟨w14, hu, hm, -, hg⟩ := upd_new M13.out.map (List.Perm.refl Z) (c := ⟨ci, S, o.pt, false⟩) (t := ci) rfl HN4.out
              have M14 := Lib.hid (M13.out.upd hm hg)
              have KO14 := Lib.hid ((Only.of_grown hg).blk KO13.out fun e => by injection e with e; exact ne_of_map M13.out.map KO13.out e)
              clear hm hg
              go_upto_region 17 with (first | (refine wpList_val rfl rfl (.agg (ptA o.pt)) (exec_load_opt (x := .tmp 70) (off := 0) (i := 0) rfl rfl HO1.out rfl rfl) ?_) | (refine wpList_buildTo rfl 56 _ rfl (some 72) rfl (clA ⟨ci, S, o.pt, false⟩) (by kernel_rfl) ?_))
              have o0z := (KO14.out.cell 0).trans (show (opA o)[0]? = some (.int .i64 o.kind) from rfl)
              rw [he0] at o0z
              have G2 := Lib.hid (show Gd (Z ++ [⟨ci, S, o.pt, false⟩]) n R.1 ∧ (Z ++ [(⟨ci, S, o.pt, false⟩ : Cl)]).length ≤ k + 1 ∧ LB (k + 1) R.1 from ⟨HG2.out, by have := G1.out.2.1; simp; omega, HLB.out⟩)
              clear hu i0 i1 s0 s1 he0 HO1 KO13 KS13 KN13 M13
              go_wp2_with fail
              exact ⟨⟨k + 1, by omega, by go_num, _, _, _, M14, G2⟩, by simp [intOf]; omega⟩
            · obtain ⟨Z', z1, z2, -, z4, z5⟩ := step_other G1.out.1 HI.out HJ.out HES.out HET.out HZ.out (by rw [HR.out]; exact hno)
              have zl := G1.out.2.2.doI (n := n) o
              rw [HR.out] at z1 zl z4 z5
              rw [HLV.out, HS.out] at z5
              have G2 := Lib.hid (show Gd Z' n R.1 ∧ Z'.length ≤ k + 1 ∧ LB (k + 1) R.1 from ⟨z1, by have := G1.out.2.1; omega, zl⟩)
              have HZ4 := Lib.hid z4
              have HZ5 := Lib.hid z5
              rw [decide_eq_false hno]
              clear z1 z2 z4 z5 zl hno
              go_upto_region 17 with fail
              go_cut [79] from 73 to 78 (fun v wx => v = .bool (decide (o.kind = 1 ∧ R.2.2.1 = 0)) ∧ wx = wc)
              case first =>
                by_cases e0 : o.kind = 1
                · rw [e0] at o0k
                  by_cases e3 : R.2.2.1 = 0
                  · have d3 : (R.2.2.1 == 0) = true := by rw [e3]; rfl
                    have x3 : decide (o.kind = 1 ∧ R.2.2.1 = 0) = true := by simp [e0, e3]
                    clear e3
                    go_wp2_with fail
                    go_meet
                    exact ⟨by rw [x3], rfl⟩
                  · have d3 : (R.2.2.1 == 0) = false := by simpa using e3
                    have x3 : decide (o.kind = 1 ∧ R.2.2.1 = 0) = false := by simp [e3]
                    clear e3
                    go_wp2_with fail
                    go_meet
                    exact ⟨by rw [x3], rfl⟩
                · have d0 : (o.kind == 1) = false := by simpa using e0
                  have x3 : decide (o.kind = 1 ∧ R.2.2.1 = 0) = false := by simp [e0]
                  go_wp2_with fail
                  go_meet
                  exact ⟨by rw [x3], rfl⟩
              case rest =>
                obtain ⟨rfl, hwc⟩ := hcut
                obtain rfl := hwc
                by_cases h10 : o.kind = 1 ∧ R.2.2.1 = 0
                · obtain ⟨c, hgc, rfl⟩ := HZ5.out h10
                  rw [decide_eq_true h10]
                  have lk := M13.out.map.look_some (P := Try.prog) kysS Try.underlying53 kvs_key (getC_in G1.out.1.inv.uq (List.Perm.refl Z) hgc) false
                  have hgid : (goneC c).id = S := (getC_mem hgc).2
                  have s0 : wc.cell? ⟨gS, 0, none⟩ = some (.int .i64 S.1) := KS13.out.cell 0
                  have s1 : wc.cell? ⟨gS, 1, none⟩ = some (.int .i64 S.2) := KS13.out.cell 1
                  have hpc := put_cl wc c
                  have hcz := clA_size c
                  have HGC := Lib.hid hgc
                  have HGI := Lib.hid hgid
                  clear h10 HZ4 HZ5 o0k hgc hgid
                  unfold stA at lk
                  go_upto_region 19 with fail
                  have kX := Blk.new wc 56 (clA c)
                  have b14 := below_self_alloc wc (.cells (clA c) 56)
                  have b15 := b14.setCell (p := ⟨wc.heap.size, 19, none⟩) (Nat.le_refl _) (.bool true)
                  have M15 := Lib.hid (M13.out.same b15)
                  have KS15 := Lib.hid (KS13.out.below b15 KS13.out.lt)
                  clear hpc lk s0 s1 b14 b15
                  generalize wc.alloc (.cells (clA c) 56) = w14 at *
                  generalize wc.heap.size = gX at *
                  have za := kX.all
                  obtain ⟨z0, zf, zl⟩ := za
                  have kX2 := kX.set_ 19 (.bool true)
                  rw [gone_cells] at kX2
                  have KX2 := Lib.hid kX2
                  clear kX kX2
                  go_upto_region 20 with fail
                  generalize w14.setCell ⟨gX, 19, none⟩ (.bool true) = w15 at *
                  clear z0 zf zl hcz
                  have s0 : w15.cell? ⟨gS, 0, none⟩ = some (.int .i64 S.1) := KS15.out.cell 0
                  have s1 : w15.cell? ⟨gS, 1, none⟩ = some (.int .i64 S.2) := KS15.out.cell 1
                  obtain ⟨w16, hu, hm, -, hg⟩ := upd_old G1.out.1.inv.uq M15.out.map (List.Perm.refl Z) (c := goneC c) (t := S) HGI.out HGC.out
                  have M16 := Lib.hid (M15.out.upd hm hg)
                  clear hm hg M15 M13 KS13 KO13 KN13
                  go_wp2_with (refine wpList_val rfl rfl (.agg (clA (goneC c))) (exec_load_blk (x := .tmp 16) rfl rfl (clA_size (goneC c)) KX2.out) ?_)
                  exact ⟨⟨k + 1, by omega, by go_num, _, _, _, M16, G2⟩, by simp [intOf]; omega⟩
                · have hzz := HZ4.out h10
                  subst hzz
                  rw [decide_eq_false h10]
                  clear h10 HZ4 HZ5 o0k
                  go_wp2_with fail
                  exact ⟨⟨k + 1, by omega, by go_num, _, _, _, M13, G2⟩, by simp [intOf]; omega⟩
      · obtain rfl : k = N1 := by omega
        have LB60 := G1.out.2.2.mono (show k ≤ 60 from m1)
        have HPM := Lib.hid (gd_perm hn1 G1.out.1 LB60 (by decide))
        have hfs := finish_settled hn1 G1.out.1 LB60 (by decide)
        have hfo := finish_ok hn5 G1.out.1 LB60
        have HSA := Lib.hid (show ∀ W V, WMap w W y V n (finishS n C) mb (kvs Z) → Calls Try.prog 21 #[.pointer (some ⟨y.p, 0, none⟩)] W fun e w' => e = .returned (.bool true) ∧ Below W.heap.size W w' from fun W V h => by
          have := h.live.settled (hfo.1.fit hfo.2 (by decide))
          rwa [hfs.1] at this)
        have HVA := Lib.hid (show ∀ W V, WMap w W y V n (finishS n C) mb (kvs Z) → Calls Try.prog 20 #[.pointer (some ⟨y.p, 0, none⟩), .int .i64 0] W fun e w' => ∃ v, e = .returned v ∧ OwnCls w' W.heap.size v (walkS Z) ∧ Below W.heap.size W w' from fun W V h => by
          have := h.live.view (hfo.1.fit hfo.2 (by decide)) 0
          rwa [view_zero hn1, hfs.2] at this)
        have HGA := Lib.hid G1.out.1
        have HLA := Lib.hid LB60
        obtain ⟨LZ, hLZ⟩ : ∃ L, walkS Z = L := ⟨_, rfl⟩
        rw [hLZ] at HVA HPM
        have HNZ := Lib.hid HPM.out.length_eq
        have hz64 := G1.out.1.few
        obtain ⟨NZ, hNZ⟩ : ∃ N, Z.length = N := ⟨_, rfl⟩
        rw [hNZ] at HNZ hz64
        have HZN := Lib.hid hNZ
        clear hLZ hNZ LB60 hfs hfo
        go_upto_region 23 with (first | (go_at_call 25; refine (M1.out.live.finish hn5 HGA.out (HLA.out.mono (by decide))).mono ?_; rintro e w11 ⟨⟨r1, rfl⟩, V11, h11, t11⟩; have M11 := Lib.hid (M1.out.turn h11 t11); clear h11 t11) | (go_at_call 20; refine (HVA.out _ _ M11.out).mono ?_; rintro e w12 ⟨v, rfl, own, b12⟩; obtain ⟨A12, c12, rfl, hcls⟩ := own.form; rw [HNZ.out]; have M12 := Lib.hid (M11.out.same b12); have HC12 := Lib.hid hcls; clear own hcls b12))
        clear M1 M11 HVA
        go_wp2_with fail
        go_loopw [18] (fun v wr => ∃ q nq : Nat, wr = w12.drewN nq ∧ q ≤ NZ ∧ v = .int .i64 (q : Int)) (fun v _ => NZ - (intOf v).toNat)
        case atStart => exact ⟨0, 0, rfl, Nat.zero_le _, rfl⟩
        case round =>
          obtain ⟨q, nq, rfl, hq, rfl⟩ := hrel
          by_cases hqN : q < NZ
          · obtain ⟨d, hd⟩ : ∃ d, LZ[q]? = some d := ⟨_, List.getElem?_eq_getElem (by rw [HNZ.out]; exact hqN)⟩
            obtain ⟨g1, o1, rfl, -, -⟩ := HC12.out q d hd
            have e1 : decide ((q : Int) < (NZ : Int)) = true := decide_eq_true (by omega)
            have hgd := getC_of HGA.out.inv.uq (HPM.out.mem_iff.1 (List.mem_of_getElem? hd))
            have hez := eq_cl d d
            rw [decide_eq_true rfl] at hez
            have HQN := Lib.hid hqN
            have HD := Lib.hid hd
            have HGD := Lib.hid hgd
            have HEZ := Lib.hid hez
            clear hd hgd hez
            go_upto_region 26 with fail
            refine wp_region_hold (fun W => WMap w W y _ n (finishS n C) mb (kvs Z) ∧ ClsAt W w12.heap.size (some ⟨g1, o1, none⟩) LZ) [0, 1, 2, 3, 4, 5, 6, 7, 8, 9, 10] [] [11] (by kernel_rfl) (by kernel_rfl) (fun _ d _ _ _ h => by cases d <;> exact h) (⟨M12.out.same ⟨rfl, rfl, rfl, Nat.le_refl _, fun _ _ => rfl⟩, HC12.out.drewN (nq + 1)⟩) ?_
            simp only [pick, List.drop_succ_cons, List.drop_zero, List.head?_cons, Option.toList_some, List.cons_append, List.nil_append, List.append_nil]
            try simp only [Act.put]
            repeat ((refine wpHeld_step ?_ rfl ?_ ?_; rotate_left; · (intro W hW; obtain ⟨c0, c1, _⟩ := hW.2.at_ HD.out rfl; have lk := hW.1.map.look_some (P := Try.prog) kysS Try.underlying53 kvs_key (getC_in HGA.out.inv.uq (List.Perm.refl Z) HGD.out) false; unfold stA at lk; first | (refine exec_load_at (x := .tmp 100) ?_ ?_ hW.2 rfl HD.out <;> rfl) | (go_simp; try with_reducible rfl))); simp only [Act.put, List.setIfInBounds_toArray, List.set_cons_succ, List.set_cons_zero])
            refine wpHeld_nil ?_
            simp only [wpEarly]
            have hez := HEZ.out
            clear HEZ HGD HD
            generalize clA d = CD at *
            go_wp2_with fail
            exact ⟨⟨q + 1, nq + 1, rfl, HQN.out, by go_num⟩, by have := HQN.out; simp [intOf]; omega⟩
          · obtain rfl : q = NZ := by omega
            have M13 := Lib.hid (show WMap w (w12.drewN nq) y _ n (finishS n C) mb (kvs Z) from M12.out.same ⟨rfl, rfl, rfl, Nat.le_refl _, fun _ _ => rfl⟩)
            clear M12 HC12
            go_wp2_with (go_at_call 21; refine (HSA.out _ _ M13.out).mono ?_; rintro e w14 ⟨rfl, b14⟩; have M14 := Lib.hid (M13.out.same b14); have lm := len_map M14.out.map 3; rw [kvs_len, HZN.out] at lm)
            go_ret
            exact ⟨rfl, M14.out.live.bel⟩
end Go.Proofs.Ytaicbllfkehhjaa

/- ChamberKeeps, in plain words; a chamber beside a slice of slices of the law's own. -/
namespace Go.Proofs.Ytaicbllfkehhjaa
open Go.RowKit

theorem kept_perm {L M : List Cl} (hm : Uq M) (p : L.Perm M) : Kept L M := fun t c hc => by
  obtain ⟨h1, rfl⟩ := getC_mem hc
  exact ⟨c, getC_of hm (p.mem_iff.1 h1), rfl, rfl, id⟩
/-- What an operation keeps of a page. -/
theorem doI_kept {Z : List Cl} {n : Nat} {C : Ch} {o : OpC} {i k : Nat} (h : Gd Z n C) (hi : i < n) (hk : k < n) (e1 : o.seat = (i : Int)) (e2 : o.to_ = (k : Int)) (j : Nat) : Kept (C.pg j) ((doI n C o).1.pg j) := by
  unfold doI
  rw [e1, e2]
  have hl := h.inv.len
  split
  · rw [proposeI_nat hi]; exact propose_kept (by omega) _ _ j
  · split
    · rw [withdrawI_nat hi]; exact withdraw_kept (by omega) _ j
    · split
      · rw [deliverI_nat hi hk]; exact deliver_kept (by omega) _ j
      · split
        · rw [againI_nat hi hk]; exact again_kept j
        · exact Kept.refl _
/-- After the finish, what is sent again and delivered changes no list. -/
theorem keeps_end {Z : List Cl} {n K a b : Nat} {C : Ch} (hn5 : n ≤ 5) (ha : a < n) (hb : b < n) (h : Gd Z n C) (k : LB K C) (hK : K ≤ 198) :
    walkS ((deliverS (againS (finishS n C) b a).1 b a false).1.pg a) = walkS Z ∧ walkS ((finishS n C).pg a) = walkS Z ∧ Gd Z n (againS (finishS n C) b a).1 ∧ Gd Z n (deliverS (againS (finishS n C) b a).1 b a false).1 := by
  obtain ⟨h1, h2, _⟩ := finish_spec h.few h.inv k hK
  have g0 : Gd Z n (finishS n C) := (finish_ok hn5 h k).1
  have g1 := g0.again (b := a) hb
  have g2 := g1.deliver hb ha false
  refine ⟨?_, finish_walk h1 (h2 a ha), g1, g2⟩
  refine finish_walk g2.inv (kept_both (g2.inv.pg a ha).uq h1.uq (g2.inv.le a ha) ?_)
  exact ((kept_perm (h1.pg a ha).uq (h2 a ha).symm).trans (again_kept a)).trans (deliver_kept (by rw [g1.inv.len]; exact ha) false a)

/-- A chamber beside a slice of slices of clauses of the law's own. -/
structure WRow (w0 w : World) (y : Lay) (V : Nat → Nat → Value) (n : Nat) (C : Ch) (v : Value) (vs : List Value) (ls : List (List Cl)) : Prop where
  live : Live w0 w y V n C
  row : Row1 w 41 v vs
  len : vs.length = ls.length
  own : ∀ (j : Nat) (x : Value) (m : List Cl), vs[j]? = some x → ls[j]? = some m → OwnCls w 0 x m
  dj : ∀ g, v.ownBlock = some g → w0.heap.size ≤ g ∧ ¬ Fo y V n g
section
variable {w0 w w' : World} {y : Lay} {V V' : Nat → Nat → Value} {n : Nat} {C C' : Ch} {v : Value} {vs : List Value} {ls : List (List Cl)}
theorem WRow.turn (h : WRow w0 w y V n C v vs ls) (k : Live w0 w' y V' n C') (t : Turn w w' y V V' n) : WRow w0 w' y V' n C' v vs ls where
  live := k
  row := h.row.only t.1 fun g hg => (h.dj g hg).2
  len := h.len
  own := fun j x m hx hm => (h.own j x m hx hm).only t.1 fun g hf => h.live.at_.wr g hf
  dj := fun g hg => ⟨(h.dj g hg).1, fun hf => (t.2 g hf).elim (h.dj g hg).2 fun e => by
    have := h.row.ltb g hg
    omega⟩
theorem WRow.same (h : WRow w0 w y V n C v vs ls) (k : Below w.heap.size w w') : WRow w0 w' y V n C v vs ls :=
  ⟨h.live.same k, h.row.only (Only.of_below k fun _ => False) fun _ _ => id, h.len, fun j x m hx hm => (h.own j x m hx hm).only (Only.of_below k fun _ => False) fun _ hf => hf.elim, h.dj⟩
theorem WRow.nil (h : Live w0 w y V n C) : WRow w0 w y V n C (.slice none 0 0) [] [] := ⟨h, Row1.nil _ _, rfl, fun j x m hx => by simp at hx, fun g hg => by cases hg⟩
theorem WRow.push {v' x : Value} {m : List Cl} (h : WRow w0 w y V n C v vs ls) (hx : OwnCls w 0 x m) (hr : Row1 w' 41 v' (vs ++ [x]))
    (o : Only (fun g => v.ownBlock = some g) w w') (hv : v'.ownBlock = v.ownBlock ∨ v'.ownBlock = some w.heap.size) : WRow w0 w' y V n C v' (vs ++ [x]) (ls ++ [m]) := by
  have hw : ∀ g, v.ownBlock = some g → Wr w g := fun g hg => h.row.wr hg
  have hlt := fun g (hf : Fo y V n g) => h.live.at_.lt hf
  refine ⟨⟨h.live.at_.only o (fun g hg => (h.dj g hg).2) hw, h.live.fo, ?_⟩, hr, by simp [h.len], fun j z k hz hk => ?_, fun g hg => ?_⟩
  · have hb := h.live.bel
    exact ⟨o.os.trans hb.os, o.tape.trans hb.tape, o.output.trans hb.output, Nat.le_trans hb.size o.size, fun i hi => (o.block i (Nat.lt_of_lt_of_le hi hb.size) fun hf => Nat.not_lt.2 (h.dj i hf).1 hi).trans (hb.block i hi)⟩
  · have h2 := h.len
    by_cases hj : j < vs.length
    · rw [List.getElem?_append_left hj] at hz
      rw [List.getElem?_append_left (by omega)] at hk
      exact (h.own j z k hz hk).only o hw
    · have hj2 : j = vs.length := by
        have := (List.getElem?_eq_some_iff.1 hz).1
        simp at this
        omega
      subst hj2
      simp at hz
      rw [h2] at hk
      simp at hk
      subst hz; subst hk
      exact hx.only o hw
  · rcases hv with hv | hv
    · exact h.dj g (hv ▸ hg)
    · rw [hv] at hg
      injection hg with hg
      subst hg
      exact ⟨h.live.bel.size, fun hf => by have := hlt _ hf; omega⟩
end
theorem Row1.at_ {w : World} {e : TypeId} {b off n cap j : Nat} {l : List Value} {u : Value} (h : Row1 w e (.slice (some ⟨b, off, none⟩) n cap) l) (hj : l[j]? = some u) : w.cell? ⟨b, off + j, none⟩ = some u := by
  rcases h with ⟨h, _⟩ | ⟨b', off', cap', cs, h1, h2, h3, h4, h6⟩
  · cases h
  · injection h1 with e1 e2 e3
    have e4 := Option.some.inj e1
    obtain rfl : b = b' := congrArg Addr.block e4
    obtain rfl : off = off' := congrArg Addr.off e4
    rw [h2.cell]
    exact h6 j u hj
theorem Row1.some_ {w : World} {e : TypeId} {v : Value} {l : List Value} (h : Row1 w e v l) (hl : 0 < l.length) : ∃ b off cap, v = .slice (some ⟨b, off, none⟩) l.length cap := by
  rcases h with ⟨_, rfl⟩ | ⟨b, off, cap, cs, h1, _⟩
  · simp at hl
  · exact ⟨b, off, cap, h1⟩
theorem exec_load_ptc {ev : Operand → Value} {o : Oper} {W : World} {x : Operand} (ho : o.op = .load 37 x) {g f : Nat} {p : Pt} (hx : ev x = .pointer (some ⟨g, f, none⟩))
    (h : ∀ (j : Nat) (v : Value), (ptA p).toList[j]? = some v → W.cell? ⟨g, f + j, none⟩ = some v) : (execOp ev o).run Try.prog W = .ok (.value (.agg (ptA p))) W := by
  have hl : (loadCells ⟨g, f, none⟩ (ptA p).toList.length).run Try.prog W = .ok (ptA p).toList.toArray W :=
    run_loadCells_list (P := Try.prog) W ⟨g, f, none⟩ (ptA p).toList (fun j v hv => by
      have hadd : (⟨g, f, none⟩ : Addr).add j = ⟨g, f + j, none⟩ := by unfold Addr.add; split <;> simp_all
      rw [hadd]
      exact h j v hv)
  rw [Array.length_toList, Array.toArray_toList, show (ptA p).size = 15 from rfl] at hl
  have hv : (loadVar 37 ⟨g, f, none⟩).run Try.prog W = .ok (.agg (ptA p)) W := by
    have hagg : (isAgg 37).run Try.prog W = .ok true W := by
      unfold isAgg
      rw [Sem.run_bind, run_underlying Try.underlying37 W]
      rfl
    have hsz := Try.sizeOf37 W
    unfold loadVar
    rw [Sem.run_bind, hagg]
    simp only [Result.andThen_ok, if_true]
    rw [Sem.run_bind, hsz]
    simp only [Result.andThen_ok]
    rw [Sem.run_bind, hl]
    rfl
  unfold execOp
  simp only [ho, hx, Instr.loadAt, Instr.sureAddr, Sem.run_bind, Sem.run_pure, Result.andThen_ok, hv]
theorem enc_pt {c : Cl} {j : Nat} {v : Value} (h : (ptA c.pt).toList[j]? = some v) : (encC c)[4 + j]? = some v := by
  have hj : j < 15 := (List.getElem?_eq_some_iff.1 h).1
  have e : encC c = [.int .i64 c.id.1, .int .i64 c.id.2, .int .i64 c.after.1, .int .i64 c.after.2] ++ ((ptA c.pt).toList ++ [.bool c.gone]) := rfl
  rw [e, List.getElem?_append_right (by simp)]
  simp only [List.length_cons, List.length_nil, Nat.zero_add, Nat.reduceAdd, Nat.add_sub_cancel_left]
  rw [List.getElem?_append_left (by exact hj)]
  exact h
theorem ClsAt.pt {W : World} {B g off i : Nat} {l : List Cl} (hr : ClsAt W B (some ⟨g, off, none⟩) l) {c : Cl} (hi : l[i]? = some c) : ∀ (j : Nat) (v : Value), (ptA c.pt).toList[j]? = some v → W.cell? ⟨g, off + i * 20 + 4 + j, none⟩ = some v := fun j v hv => by
  obtain ⟨g', off', h1, _, h3⟩ := hr i c hi
  have h4 := Option.some.inj h1
  obtain rfl : g = g' := congrArg Addr.block h4
  obtain rfl : off = off' := congrArg Addr.off h4
  have := h3 (4 + j) v (enc_pt hv)
  rw [show off + i * 20 + 4 + j = off + i * 20 + (4 + j) by omega]
  exact this
theorem Blk.pt {W : World} {g : Nat} {c : Cl} (h : Blk W g 56 (clA c)) : ∀ (j : Nat) (v : Value), (ptA c.pt).toList[j]? = some v → W.cell? ⟨g, 4 + j, none⟩ = some v := fun j v hv => by
  rw [h.cell, ← Array.getElem?_toList]
  exact enc_pt hv
theorem own_clsv {w : World} {B k c : Nat} {A : Option Addr} {l : List Cl} (h : OwnCls w B (.slice A k c) l) : ClsAt w w.heap.size A l := by
  obtain ⟨A', c', e, h'⟩ := OwnCls.form h
  injection e with e1 _ _
  subst e1
  exact h'
theorem rem_nat {a : Int} {n : Nat} (h0 : 0 ≤ a) (hn : 0 < n) : ∃ q : Nat, q < n ∧ a.tmod (n : Int) = (q : Int) ∧ a % (n : Int) = (q : Int) := by
  have h1 := Int.emod_nonneg a (show (n : Int) ≠ 0 by omega)
  have h2 := Int.emod_lt_of_pos a (show (0 : Int) < (n : Int) by omega)
  exact ⟨(a % (n : Int)).toNat, by omega, by rw [Int.tmod_eq_emod_of_nonneg h0]; omega, by omega⟩
/-- What is known is known of some list behind any operation. -/
theorem Gd.doI {Z : List Cl} {n i k : Nat} {C : Ch} {o : OpC} (h : Gd Z n C) (hi : i < n) (hk : k < n) (e1 : o.seat = (i : Int)) (e2 : o.to_ = (k : Int)) (hz : Z.length < 64) : ∃ Z', Gd Z' n (doI n C o).1 ∧ Z'.length ≤ Z.length + 1 := by
  by_cases hno : o.kind = 0 ∧ (Go.Proofs.Ytaicbllfkehhjaa.doI n C o).2.2.1 = 0
  · exact ⟨_, (step_new h hi e1 hz hno.1 hno.2).2.1, by simp⟩
  · obtain ⟨Z', h1, h2, _⟩ := step_other h hi hk e1 e2 hz hno
    exact ⟨Z', h1, by omega⟩
/-- The lists of the first j seats. -/
def pgs (C : Ch) (j : Nat) : List (List Cl) := (List.range j).map fun i => walkS (C.pg i)
theorem pgs_succ (C : Ch) (j : Nat) : pgs C (j + 1) = pgs C j ++ [walkS (C.pg j)] := by
  unfold pgs
  rw [List.range_succ, List.map_append]
  rfl
theorem pgs_len (C : Ch) (j : Nat) : (pgs C j).length = j := by simp [pgs]
theorem pgs_at {C : Ch} {j q : Nat} (h : q < j) : (pgs C j)[q]? = some (walkS (C.pg q)) := by simp [pgs, h]
/-- A clause of a page's list before the operation is found behind it. -/
theorem kept_find {L M : List Cl} (hl : Pg L) (hm : Pg M) (h : Kept L M) {d : Cl} (hd : d ∈ walkS L) :
    ∃ (p : Nat) (e : Cl), findS (walkS M) d.id = (p : Int) ∧ (walkS M)[p]? = some e ∧ e.after = d.after ∧ e.pt = d.pt ∧ (d.gone = true → e.gone = true) := by
  have h1 : getC L d.id = some d := by rw [← getC_walk hl]; exact getC_of (walk_uq hl.tr) hd
  obtain ⟨e, h2, h3, h4, h5⟩ := h _ _ h1
  rcases find_cases (walk_uq hm.tr) d.id with ⟨k1, _⟩ | ⟨p, c, k1, k2, k3⟩
  · rw [getC_walk hm, h2] at k1
    cases k1
  · rw [getC_walk hm, h2] at k1
    injection k1 with k1
    subst k1
    exact ⟨p, e, k3, k2, h3, h4, h5⟩
end Go.Proofs.Ytaicbllfkehhjaa

/- The reference: View. -/
namespace Go.Proofs.Ytaicbllfkehhjaa
open Go.RowKit

theorem RAt.page {w : World} {base n : Nat} {z : RLay} {C : Ch} {ms : List Msg} (h : RAt w base z n C ms) {i : Nat} (hi : i < n) : ∃ b off cap, z.pv = .slice (some ⟨b, off, none⟩) n cap ∧ w.cell? ⟨b, off + i, none⟩ = some (.pointer (some ⟨z.q i, 0, none⟩)) := by
  have h1 := h.pgv
  rcases h.pgv.2 with ⟨e, h0⟩ | ⟨g, cap, cur, e, _⟩
  · omega
  · rw [e] at h1
    refine ⟨g, 0, cap, e, ?_⟩
    rw [Nat.zero_add, h1.cellAt i (by omega)]
    simp [hi]
set_option maxRecDepth 100000 in
theorem rview_any (w : World) {base n : Nat} {z : RLay} {C : Ch} {ms : List Msg} (h : RAt w base z n C ms) (i : Int) :
    Calls Try.prog 13 #[.pointer (some ⟨z.p, 0, none⟩), .int .i64 i] w fun e w' => ∃ v, e = .returned v ∧ OwnCls w' w.heap.size v (viewS n C i) ∧ Below w.heap.size w w' := by
  have HSE := Lib.hid (rseat_any w h i)
  by_cases h0 : 0 ≤ i ∧ i < (n : Int)
  · obtain ⟨j, rfl⟩ := Int.eq_ofNat_of_zero_le h0.1
    have hj : j < n := by omega
    obtain ⟨b, off, cap, e, cb⟩ := h.page hj
    have c0 : w.cell? ⟨z.p, 0, none⟩ = some (.slice (some ⟨b, off, none⟩) n cap) := by rw [h.blk.cell 0, ← e]; rfl
    have HLI := Lib.hid (rList_any w (h.pgs j hj) (Nat.le_refl _))
    have hj1 : (j : Int) < (n : Int) := by omega
    rw [viewS_nat hj]
    rw [decide_eq_true h0] at HSE
    clear h e h0
    go_enter Try.func13, Try.ntmps13
    go_wp2_with (first | (go_at_call 34; refine HSE.out.mono ?_; rintro e w1 ⟨rfl, rfl⟩) | (go_at_call 35; refine HLI.out.mono ?_; rintro e w2 ⟨u, rfl, own, b2⟩))
    go_ret
    exact ⟨_, rfl, own, b2⟩
  · have e : viewS n C i = [] := by unfold viewS; rw [if_neg h0]
    rw [e]
    rw [decide_eq_false h0] at HSE
    clear h e h0
    go_enter Try.func13, Try.ntmps13
    go_wp2_with (go_at_call 34; refine HSE.out.mono ?_; rintro e w1 ⟨rfl, rfl⟩)
    go_ret
    exact ⟨_, rfl, World.ownsRow_nil _ _ _ _, Below.refl _ _⟩
end Go.Proofs.Ytaicbllfkehhjaa

/- The reference: Settled. -/
namespace Go.Proofs.Ytaicbllfkehhjaa
open Go.RowKit

theorem RAt.wlen {w : World} {base n : Nat} {z : RLay} {C : Ch} {ms : List Msg} (h : RAt w base z n C ms) {i : Nat} (hi : i < n) : (walkS (C.pg i)).length ≤ 1000000 := by
  rw [(walk_perm (h.pgs i hi).pg.tr).length_eq]
  exact Nat.le_trans (h.pgs i hi).len (by decide)
set_option maxRecDepth 100000 in
set_option maxHeartbeats 4000000 in
theorem rsettled_any (w : World) {base n : Nat} {z : RLay} {C : Ch} {ms : List Msg} (h : RAt w base z n C ms) (hn : 0 < n) (hm : n ≤ 1000) :
    Calls Try.prog 22 #[.pointer (some ⟨z.p, 0, none⟩)] w fun e w' => e = .returned (.bool (settledS C)) ∧ Below w.heap.size w w' := by
  have H := Lib.hid h
  obtain ⟨b, off, cap, e, -⟩ := h.page hn
  obtain ⟨T, hT⟩ : ∃ T, settledS C = T := ⟨_, rfl⟩
  rw [hT]
  have HT := Lib.hid hT
  have HE := Lib.hid e
  have hn1 : (0 : Int) < (n : Int) := by omega
  clear h hT e
  have HC := Lib.hid (show ∀ W, RAt W base z n C ms → W.cell? ⟨z.p, 0, none⟩ = some (.slice (some ⟨b, off, none⟩) n cap) from fun W h => by rw [h.blk.cell 0, ← HE.out]; rfl)
  have HP := Lib.hid (show ∀ W, RAt W base z n C ms → ∀ j, j < n → W.cell? ⟨b, off + j, none⟩ = some (.pointer (some ⟨z.q j, 0, none⟩)) from fun W h j hj => by
    obtain ⟨b', off', cap', e', k⟩ := h.page hj
    rw [HE.out] at e'
    injection e' with e1 _ _
    have e4 := Option.some.inj e1
    obtain rfl : b = b' := congrArg Addr.block e4
    obtain rfl : off = off' := congrArg Addr.off e4
    exact k)
  go_enter Try.func22, Try.ntmps22
  go_wp2_with fail
  go_loopw [3] (fun v wr => ∃ k : Nat, k ≤ n ∧ v = .int .i64 (k : Int) ∧ Hid (RAt wr base z n C ms) ∧ Hid (Below w.heap.size w wr) ∧ Hid (∀ j, j < k → walkS (C.pg j) = walkS (C.pg 0))) (fun v _ => n - (intOf v).toNat)
  case atStart => exact ⟨0, Nat.zero_le _, rfl, H, Lib.hid (Below.refl _ _), Lib.hid fun j hj => absurd hj (Nat.not_lt_zero _)⟩
  case round =>
    obtain ⟨k, hk, rfl, R1, B1, KE⟩ := hrel
    clear H
    have c0 := HC.out _ R1.out
    by_cases hkn : k < n
    · have hk1 : (k : Int) < (n : Int) := by omega
      have hk2 : (k : Int) ≤ 1000 := by omega
      have HK := Lib.hid hkn
      have HLI := Lib.hid (fun W (hW : RAt W base z n C ms) j (hj : j < n) => rList_any W (hW.pgs j hj) (Nat.le_refl _))
      have hw1 := R1.out.wlen hkn
      have hw0 := R1.out.wlen hn
      clear hkn
      go_upto_region 4 with fail
      refine wp_region_hold (fun W => RAt W base z n C ms) [0, 1, 2, 3, 4, 5, 6, 8, 9, 10, 11, 12, 13] [7, 14, 15] [16] (by kernel_rfl) (by kernel_rfl) (fun _ d _ _ _ h => by cases d <;> exact h) (R1.out.below ⟨rfl, rfl, rfl, Nat.le_refl _, fun _ _ => rfl⟩) ?_
      simp only [pick, List.drop_succ_cons, List.drop_zero, List.head?_cons, Option.toList_some, List.cons_append, List.nil_append, List.append_nil]
      try simp only [Act.put]
      repeat ((refine wpHeld_step ?_ rfl ?_ ?_; rotate_left; · (intro W hW; have c0 := HC.out W hW; have cp := HP.out W hW k HK.out; have cq := HP.out W hW 0 hn; rw [Nat.add_zero] at cq; (go_simp; try with_reducible rfl))); simp only [Act.put, List.setIfInBounds_toArray, List.set_cons_succ, List.set_cons_zero])
      refine wpHeld_nil ?_
      simp only [wpEarly]
      have R2 := Lib.hid (show RAt wr.drew base z n C ms from R1.out.below ⟨rfl, rfl, rfl, Nat.le_refl _, fun _ _ => rfl⟩)
      have B2 := Lib.hid (B1.out.drew)
      clear c0 R1 B1
      go_wp2_with (go_at_call 35; refine (HLI.out _ R2.out k HK.out).mono ?_; rintro e w3 ⟨u3, rfl, own3, b3⟩; have R3 := Lib.hid (R2.out.below b3); have B3 := Lib.hid (B2.out.trans (b3.mono B2.out.size)); have O3 := Lib.hid own3; clear own3 b3)
      refine ⟨R3.out, ?_⟩
      go_wp2_with (go_at_call 35; refine (HLI.out _ R3.out 0 hn).mono ?_; rintro e w4 ⟨u4, rfl, own4, b4⟩; have R4 := Lib.hid (R3.out.below b4); have B4 := Lib.hid (B3.out.trans (b4.mono B3.out.size)); have O4 := Lib.hid own4; have O5 := Lib.hid (OwnCls.below O3.out b4); clear own4 b4)
      refine ⟨R4.out, ?_⟩
      obtain ⟨A3, c3, rfl, k3⟩ := OwnCls.form O5.out
      obtain ⟨A4, c4, rfl, k4⟩ := OwnCls.form O4.out
      have hsm := rSame_any w4 _ _ A3 A4 c3 c4 _ _ k3 k4 hw1 hw0
      obtain ⟨D, hD⟩ : ∃ D, decide (walkS (C.pg k) = walkS (C.pg 0)) = D := ⟨_, rfl⟩
      rw [hD] at hsm
      have HSM := Lib.hid hsm
      have HD := Lib.hid hD
      clear hsm hD k3 k4 O3 O4 O5 HLI hw1 hw0
      go_wp2_with (go_at_call 19; refine HSM.out.mono ?_; rintro e w5 ⟨rfl, nq, rfl⟩)
      refine ⟨R4.out.below ⟨rfl, rfl, rfl, Nat.le_refl _, fun _ _ => rfl⟩, ?_⟩
      have R5 := Lib.hid (show RAt (w4.drewN nq) base z n C ms from R4.out.below ⟨rfl, rfl, rfl, Nat.le_refl _, fun _ _ => rfl⟩)
      have B5 := Lib.hid (below_drewN B4.out nq)
      cases D with
      | true =>
        go_wp2_with fail
        refine ⟨⟨k + 1, HK.out, by go_num, R5, B5, Lib.hid fun j hj => ?_⟩, by have := HK.out; simp [intOf]; omega⟩
        by_cases hjk : j < k
        · exact KE.out j hjk
        · obtain rfl : j = k := by omega
          exact of_decide_eq_true HD.out
      | false =>
        have ht : T = false := by
          rw [← HT.out]
          have hs := HD.out
          cases hc : settledS C with
          | false => rfl
          | true =>
            have := (settled_iff R5.out.len).1 hc k HK.out
            rw [decide_eq_true this] at hs
            cases hs
        subst ht
        go_wp2_with fail
        go_ret
        exact ⟨rfl, B5.out⟩
    · obtain rfl : k = n := by omega
      have ht : T = true := by
        rw [← HT.out]
        exact (settled_iff R1.out.len).2 KE.out
      subst ht
      go_wp2_with fail
      go_ret
      exact ⟨rfl, B1.out⟩
end Go.Proofs.Ytaicbllfkehhjaa
