/- What Rot and New of the reference do. -/
import Derived.Test.YtahkahmkoibmhaaSe
namespace Go.Proofs.Ytahkahmkoibmhaa
open Go.RowKit

section
variable {w w' : World} {m g1 g2 c1 c2 : Nat} {qv : Value} {b : Bool} {x y z : Int} {d d' : Dk} {F G : Foot}

theorem Dk.rot_none {d : Dk} {s k m : Int} (h : s < 0 ∨ (d.n : Int) ≤ s ∨ k < 0 ∨ 64 ≤ k ∨ m < 1 ∨ 255 < m) : d.rot s k m = d := by
  rw [Dk.rot_eq, if_neg]
  intro hh
  have := rotB_spec.1 hh
  omega

set_option maxHeartbeats 800000 in
theorem rrot_no (h : RefAt' w m g1 g2 c1 c2 qv b x y z d F) (p q r : Int) (hn : p < 0 ∨ (d.n : Int) ≤ p ∨ q < 0 ∨ 64 ≤ q ∨ r < 1 ∨ 255 < r) : Calls Try.prog 37 #[.pointer (some ⟨m, 0, none⟩), .int .i64 p, .int .i64 q, .int .i64 r] w fun e w' =>
    e = .returned (.tuple #[]) ∧ w = w' := by
  obtain ⟨k0, f0, hlt⟩ := h.main.all
  by_cases h0 : p < 0
  · clear hn
    go_enter Try.func37, Try.ntmps37
    go_wp2
    refine bodyPost_ret (results_none rfl _ _ _) rfl ⟨rfl, rfl⟩
  · by_cases h1 : (d.n : Int) ≤ p
    · clear hn
      go_enter Try.func37, Try.ntmps37
      go_wp2
      refine bodyPost_ret (results_none rfl _ _ _) rfl ⟨rfl, rfl⟩
    · by_cases h2 : q < 0
      · clear hn
        go_enter Try.func37, Try.ntmps37
        go_wp2
        refine bodyPost_ret (results_none rfl _ _ _) rfl ⟨rfl, rfl⟩
      · by_cases h3 : 64 ≤ q
        · clear hn
          go_enter Try.func37, Try.ntmps37
          go_wp2
          refine bodyPost_ret (results_none rfl _ _ _) rfl ⟨rfl, rfl⟩
        · by_cases h4 : r < 1
          · clear hn
            go_enter Try.func37, Try.ntmps37
            go_wp2
            refine bodyPost_ret (results_none rfl _ _ _) rfl ⟨rfl, rfl⟩
          · have h5 : 255 < r := by omega
            clear hn
            go_enter Try.func37, Try.ntmps37
            go_wp2
            refine bodyPost_ret (results_none rfl _ _ _) rfl ⟨rfl, rfl⟩

set_option maxHeartbeats 1600000 in
theorem rrot_yes (h : RefAt' w m g1 g2 c1 c2 qv b x y z d F) (i k r : Nat) (hi : i < d.n) (hk : k < 64) (hr1 : 1 ≤ r) (hr2 : r ≤ 255) : Calls Try.prog 37 #[.pointer (some ⟨m, 0, none⟩), .int .i64 (i : Int), .int .i64 (k : Int), .int .i64 (r : Int)] w fun e w' =>
    e = .returned (.tuple #[]) ∧ Only F w w' ∧ RefAt w' m (d.rot i k r) F := by
  obtain ⟨k0, f0, hlt⟩ := h.main.all
  have hn := h.ok.n2
  have hsz := Dk.secB_size h.ok hi
  obtain ⟨bt, hbt⟩ : ∃ bt, (d.secB i).data[k]? = some bt := ⟨_, Array.getElem?_eq_getElem (by have : (d.secB i).data.size = 64 := hsz; omega)⟩
  have hsec := Dk.rot_sectors h.ok hi hk hr1 hr2 bt hbt
  have hsm := Dk.rot_same d (i : Int) (k : Int) (r : Int)
  have harm : (d.rot (i : Int) k r).arm = d.arm := by rw [Dk.rot_eq]; split <;> rfl
  have hok' : (d.rot (i : Int) k r).Ok := by
    rw [Dk.rot_eq]
    split
    · exact ⟨h.ok.n1, h.ok.n2, by simpa using h.ok.st, h.ok.el, h.ok.q, h.ok.arm⟩
    · exact h.ok
  have s1 := h.st.cellAt i (by omega)
  rw [str_at (Dk.stS_at d hi)] at s1
  have z1 := h.st.frozenAt i
  have hne := h.ne
  have hg1m := own_ne_blk h.st h.main (by decide)
  have hg1l := h.fl _ h.f1
  have hix : ∀ W : World, (Instr.index 9 (.string (d.secB i)) (.int .i64 (k : Int))).run Try.prog W = .ok (.int .u8 (bt.toNat : Int)) W := fun W => by
    rw [run_index_string W 9 (d.secB i) .i64 (k : Int) (by kernel_rfl), dif_pos (by omega)]
    congr 4
    have : (d.secB i).data[k]? = some ((d.secB i)[k]'(by omega)) := by rw [Array.getElem?_eq_getElem]; rfl
    rw [hbt] at this
    exact (Option.some.inj this).symm
  have hxr := u8_xor_nat bt.toNat r bt.toNat_lt (by omega)
  have hbv : ((bt.toNat ^^^ r : Nat) : Int) = ((bt ^^^ UInt8.ofNat r).toNat : Int) := by
    rw [UInt8.toNat_xor, UInt8.toNat_ofNat_of_lt' (by show r < 256; omega)]
  rw [hbv] at hxr
  have hw2 : IntKind.u8.wrap (r : Int) = (r : Int) := IntWalk.u8_in _ (by omega)
  have hw1 : IntKind.i64.wrap ((k : Int) + 1) = ((k + 1 : Nat) : Int) := by rw [IntWalk.i64_in _ (by omega)]; rfl
  generalize bt ^^^ UInt8.ofNat r = cv at *
  have hsl1 : ∀ W : World, (Instr.slice 9 (.string (d.secB i)) none (some (.int .i64 (k : Int))) none).run Try.prog W = .ok (.string ((d.secB i).extract 0 k)) W := fun W => by
    have := run_slice_string_h (P := Try.prog) W 9 (d.secB i) (by kernel_rfl) .i64 (k : Int) (by omega) (by omega)
    simpa using this
  have hsl2 : ∀ W : World, (Instr.slice 9 (.string (d.secB i)) (some (.int .i64 ((k : Int) + 1))) none none).run Try.prog W = .ok (.string ((d.secB i).extract (k + 1) (d.secB i).size)) W := fun W => by
    have := run_slice_string_l (P := Try.prog) W 9 (d.secB i) (by kernel_rfl) .i64 ((k : Int) + 1) (by omega) (by omega)
    have e : ((k : Int) + 1).toNat = k + 1 := by omega
    rw [e] at this
    exact this
  have hs1 : ((d.secB i).extract 0 k).size = k := by rw [ext_size _ _ _ (by omega)]; omega
  have hs2 : ((d.secB i).extract (k + 1) (d.secB i).size).size = 64 - (k + 1) := by rw [ext_size _ _ _ (Nat.le_refl _), hsz]
  generalize d.secB i = sb at *
  generalize hE1 : sb.extract 0 k = T1 at *
  generalize hE2 : sb.extract (k + 1) sb.size = T2 at *
  have hs3 : (T1 ++ ⟨#[cv]⟩ : ByteArray).size = k + 1 := by rw [ByteArray.size_append, hs1]; rfl
  have had1 : ∀ W : World, (Op.stringOp .add T1 ⟨#[cv]⟩).run Try.prog W = .ok (.string (T1 ++ ⟨#[cv]⟩)) W := fun W => run_string_add_sum W _ _ (by rw [hs1]; show k + 1 ≤ _; omega)
  have had2 : ∀ W : World, (Op.stringOp .add (T1 ++ ⟨#[cv]⟩) T2).run Try.prog W = .ok (.string (T1 ++ ⟨#[cv]⟩ ++ T2)) W := fun W => run_string_add_sum W _ _ (by omega)
  have HSEC := Lib.hid hsec
  have HSM := Lib.hid hsm
  have HARM := Lib.hid harm
  have hiI : (i : Int) < d.n := by omega
  have hkI : (k : Int) < 64 := by omega
  have hrI : (1 : Int) ≤ r := by omega
  have hrI2 : (r : Int) ≤ 255 := by omega
  have hbn := Blk.new w 5 #[.int .u8 (cv.toNat : Int)]
  have hcv := run_string_of_blk (P := Try.prog) (w.alloc (.cells #[.int .u8 (cv.toNat : Int)] 5)).drew 57 9 5 w.heap.size 5 (by kernel_rfl) (by kernel_rfl) (by kernel_rfl) 0 1 1 [cv] hbn.drew (by simp)
  have hcvs : (⟨((List.drop 0 [cv]).take 1).toArray⟩ : ByteArray) = ⟨#[cv]⟩ := rfl
  rw [hcvs] at hcv
  have r1 := (h.st.stored i (.string (T1 ++ ⟨#[cv]⟩ ++ T2))).1
  clear hsec hsm harm hbt hbv hsz hs1 hs2 hs3 hE1 hE2 hbn hcvs
  go_enter Try.func37, Try.ntmps37
  go_wp2
  refine wp_region_tail 16 (by kernel_rfl) (by kernel_rfl) ?_
  simp only [List.take_succ_cons, List.take_zero, List.drop_succ_cons, List.drop_zero]
  repeat still_step
  refine wpStill_nil ?_
  go_wp2
  go_end0
  have O1 : Only (fun k => k = g1) w (w.setCell ⟨g1, i, none⟩ (.string (T1 ++ ⟨#[cv]⟩ ++ T2))) := (Only.refl (fun k => k = g1) w).setCell (p := ⟨g1, i, none⟩) (.inl rfl) _
  have r2 := O1.owns h.el (fun g hg e => by injection hg with hg; exact hne (e.symm.trans hg.symm))
  have e1 : Only (fun k => k = g1 ∨ k = g2) w (((w.setCell ⟨g1, i, none⟩ (.string (T1 ++ ⟨#[cv]⟩ ++ T2))).alloc (.cells #[.int .u8 (cv.toNat : Int)] 5)).drew) := ((O1.mono (fun k hk => .inl hk)).alloc _).drew
  refine ⟨rfl, e1.mono (by rintro k (rfl | rfl); exact h.f1; exact h.f2), _, _, _, _, _, _, _, _, _, h.upd e1 hok' ?_ ?_ HSM.out.1 HSM.out.2.1 HSM.out.2.2.1 HARM.out⟩
  · rw [HSEC.out.1, List.map_set]
    exact (r1.alloc _).drew
  · rw [HSEC.out.2]
    exact (r2.alloc _).drew

theorem rrot_any (h : RefAt' w m g1 g2 c1 c2 qv b x y z d F) (p q r : Int) : Calls Try.prog 37 #[.pointer (some ⟨m, 0, none⟩), .int .i64 p, .int .i64 q, .int .i64 r] w fun e w' =>
    e = .returned (.tuple #[]) ∧ Only F w w' ∧ RefAt w' m (d.rot p q r) F := by
  by_cases hc : p < 0 ∨ (d.n : Int) ≤ p ∨ q < 0 ∨ 64 ≤ q ∨ r < 1 ∨ 255 < r
  · rw [Dk.rot_none hc]
    refine (rrot_no h p q r hc).mono ?_
    rintro e w1 ⟨rfl, rfl⟩
    exact ⟨rfl, Only.refl _ _, h.ref⟩
  · obtain ⟨i, rfl⟩ := Int.eq_ofNat_of_zero_le (show 0 ≤ p by omega)
    obtain ⟨k, rfl⟩ := Int.eq_ofNat_of_zero_le (show 0 ≤ q by omega)
    obtain ⟨v, rfl⟩ := Int.eq_ofNat_of_zero_le (show 0 ≤ r by omega)
    exact rrot_yes h i k v (by omega) (by omega) (by omega) (by omega)

theorem Try.infoRStr : (Try.prog.info? 9).map (fun i => (i.zero, i.size, i.bytes)) = some (some (.string ⟨#[]⟩), 1, 16) := by kernel_rfl

/-- While New runs. -/
structure NewI (w wr : World) (k1 k2 : Nat) (A1 A2 : Option Addr) (c1 c2 : Nat) : Prop where
  below : Below w.heap.size w wr
  main : Blk wr w.heap.size 64 #[.slice A1 k1 c1, .slice A2 k2 c2, .slice none 0 0, .bool true, .bool false, .int .i64 0, .int .i64 0, .int .i64 0]
  o1 : wr.ownsRow 0 9 1 (.slice A1 k1 c1) k1 (List.replicate k1 (.string zero64))
  o2 : wr.ownsRow 0 9 1 (.slice A2 k2 c2) k2 (List.replicate k2 (.string zero64))
  s1 : ∀ b, A1 = some b → w.heap.size < b.block
  s2 : ∀ b, A2 = some b → w.heap.size < b.block
  ne : ∀ b b', A1 = some b → A2 = some b' → b.block ≠ b'.block

theorem NewI.apart1 {w wr : World} {k1 k2 c1 c2 : Nat} {A1 A2 : Option Addr} (h : NewI w wr k1 k2 A1 A2 c1 c2) : some w.heap.size ≠ (Value.slice A1 k1 c1).ownBlock := fun e => by
  obtain ⟨b, hb1, hb2⟩ := own_block e.symm
  have := h.s1 b hb1
  omega
theorem NewI.apart2 {w wr : World} {k1 k2 c1 c2 : Nat} {A1 A2 : Option Addr} (h : NewI w wr k1 k2 A1 A2 c1 c2) : some w.heap.size ≠ (Value.slice A2 k2 c2).ownBlock := fun e => by
  obtain ⟨b, hb1, hb2⟩ := own_block e.symm
  have := h.s2 b hb1
  omega
theorem own_in {w : World} {A : Option Addr} {e : TypeId} {size n c g : Nat} {xs : List Value} (h : w.ownsRow 0 e size (.slice A n c) n xs) (hg : (Value.slice A n c).ownBlock = some g) : g < w.heap.size := by
  rcases h.2 with ⟨h0, _⟩ | ⟨k, cap, cur, hv, _, hh, _⟩
  · rw [h0] at hg; cases hg
  · rw [hv] at hg
    injection hg with hg
    subst hg
    exact Blk.lt (w := w) (g := k) (t := e) (cs := cur) hh
theorem repl_snoc (k : Nat) (v : Value) : List.replicate k v ++ [v] = List.replicate (k + 1) v := by rw [List.replicate_succ']

theorem NewI.step1 {w wr w2 : World} {k1 k2 c1 c2 g cap : Nat} {A1 A2 : Option Addr} {o : Obj} (h : NewI w wr k1 k2 A1 A2 c1 c2) (hg : (wr.alloc o).grownBy w2 (Value.slice A1 k1 c1).ownBlock)
    (ho : w2.ownsRow 0 9 1 (.slice (some ⟨g, 0, none⟩) (k1 + 1) cap) (k1 + 1) (List.replicate k1 (.string zero64) ++ [.string zero64])) (hl : (Value.slice A1 k1 c1).ownBlock = some g ∨ wr.heap.size ≤ g) :
    NewI w (w2.setCell ⟨w.heap.size, 0, none⟩ (.slice (some ⟨g, 0, none⟩) (k1 + 1) cap)) (k1 + 1) k2 (some ⟨g, 0, none⟩) A2 cap c2 := by
  have hm := Blk.grown (h.main.alloc o) hg h.apart1
  have hsz := h.below.size
  have hml := h.main.lt
  have hrow : ∀ k, (Value.slice A1 k1 c1).ownBlock = some k → w.heap.size ≤ k := fun k hk => by
    obtain ⟨b, hb1, hb2⟩ := own_block hk
    have := h.s1 b hb1
    omega
  have hgw : w.heap.size < g := by
    rcases hl with hl | hl
    · obtain ⟨b, hb1, hb2⟩ := own_block hl
      have := h.s1 b hb1
      omega
    · omega
  have hO1 : Only (fun k => (Value.slice A1 k1 c1).ownBlock = some k) wr w2 := ((Only.refl (fun k => (Value.slice A1 k1 c1).ownBlock = some k) wr).alloc o).trans (Only.of_grown hg) (fun k e => .inl e)
  have hO2 : Only (fun k => k = w.heap.size) w2 (w2.setCell ⟨w.heap.size, 0, none⟩ (.slice (some ⟨g, 0, none⟩) (k1 + 1) cap)) := (Only.refl (fun k => k = w.heap.size) w2).setCell (p := ⟨w.heap.size, 0, none⟩) (.inl rfl) _
  refine ⟨((h.below.alloc hsz o).grown hg (by simp; omega) hrow).setCell (Nat.le_refl _) _, by simpa using hm.set_ 0 (.slice (some ⟨g, 0, none⟩) (k1 + 1) cap), ?_, ?_, ?_, h.s2, ?_⟩
  · rw [← repl_snoc]
    exact hO2.owns ho (fun k hk e => by injection hk with hk; have hk' : g = k := hk; omega)
  · refine hO2.owns (hO1.owns h.o2 (fun k hk e => ?_)) (fun k hk e => ?_)
    · obtain ⟨b, hb1, hb2⟩ := own_block hk
      obtain ⟨b', hb1', hb2'⟩ := own_block e
      exact h.ne b' b hb1' hb1 (hb2'.trans hb2.symm)
    · obtain ⟨b, hb1, hb2⟩ := own_block hk
      have := h.s2 b hb1
      omega
  · intro b hb
    injection hb with hb
    subst hb
    exact hgw
  · intro b b' hb hb'
    injection hb with hb
    subst hb
    rcases hl with hl | hl
    · obtain ⟨b2, hb1, hb2⟩ := own_block hl
      intro e
      exact h.ne b2 b' hb1 hb' (hb2.trans e)
    · intro e
      have : b'.block < wr.heap.size := own_in h.o2 (by rw [hb']; rfl)
      have e' : g = b'.block := e
      omega
theorem NewI.step2 {w wr w2 : World} {k1 k2 c1 c2 g cap : Nat} {A1 A2 : Option Addr} {o : Obj} (h : NewI w wr k1 k2 A1 A2 c1 c2) (hg : (wr.alloc o).grownBy w2 (Value.slice A2 k2 c2).ownBlock)
    (ho : w2.ownsRow 0 9 1 (.slice (some ⟨g, 0, none⟩) (k2 + 1) cap) (k2 + 1) (List.replicate k2 (.string zero64) ++ [.string zero64])) (hl : (Value.slice A2 k2 c2).ownBlock = some g ∨ wr.heap.size ≤ g) :
    NewI w (w2.setCell ⟨w.heap.size, 1, none⟩ (.slice (some ⟨g, 0, none⟩) (k2 + 1) cap)) k1 (k2 + 1) A1 (some ⟨g, 0, none⟩) c1 cap := by
  have hm := Blk.grown (h.main.alloc o) hg h.apart2
  have hsz := h.below.size
  have hml := h.main.lt
  have hrow : ∀ k, (Value.slice A2 k2 c2).ownBlock = some k → w.heap.size ≤ k := fun k hk => by
    obtain ⟨b, hb1, hb2⟩ := own_block hk
    have := h.s2 b hb1
    omega
  have hgw : w.heap.size < g := by
    rcases hl with hl | hl
    · obtain ⟨b, hb1, hb2⟩ := own_block hl
      have := h.s2 b hb1
      omega
    · omega
  have hO1 : Only (fun k => (Value.slice A2 k2 c2).ownBlock = some k) wr w2 := ((Only.refl (fun k => (Value.slice A2 k2 c2).ownBlock = some k) wr).alloc o).trans (Only.of_grown hg) (fun k e => .inl e)
  have hO2 : Only (fun k => k = w.heap.size) w2 (w2.setCell ⟨w.heap.size, 1, none⟩ (.slice (some ⟨g, 0, none⟩) (k2 + 1) cap)) := (Only.refl (fun k => k = w.heap.size) w2).setCell (p := ⟨w.heap.size, 1, none⟩) (.inl rfl) _
  refine ⟨((h.below.alloc hsz o).grown hg (by simp; omega) hrow).setCell (Nat.le_refl _) _, by simpa using hm.set_ 1 (.slice (some ⟨g, 0, none⟩) (k2 + 1) cap), ?_, ?_, h.s1, ?_, ?_⟩
  · refine hO2.owns (hO1.owns h.o1 (fun k hk e => ?_)) (fun k hk e => ?_)
    · obtain ⟨b, hb1, hb2⟩ := own_block hk
      obtain ⟨b', hb1', hb2'⟩ := own_block e
      exact h.ne b b' hb1 hb1' (hb2.trans hb2'.symm)
    · obtain ⟨b, hb1, hb2⟩ := own_block hk
      have := h.s1 b hb1
      omega
  · rw [← repl_snoc]
    exact hO2.owns ho (fun k hk e => by injection hk with hk; have hk' : g = k := hk; omega)
  · intro b hb
    injection hb with hb
    subst hb
    exact hgw
  · intro b b' hb hb'
    injection hb' with hb'
    subst hb'
    rcases hl with hl | hl
    · obtain ⟨b2, hb1, hb2⟩ := own_block hl
      intro e
      exact h.ne b b2 hb hb1 (e.trans hb2.symm)
    · intro e
      have : b.block < wr.heap.size := own_in h.o1 (by rw [hb]; rfl)
      have e' : b.block = g := e
      omega
theorem NewI.done {w wr : World} {n c1 c2 : Nat} {A1 A2 : Option Addr} (h : NewI w wr n n A1 A2 c1 c2) (h1 : 1 ≤ n) (h2 : n ≤ 4000) : RefAt wr w.heap.size (Dk.new n) (fun i => w.heap.size ≤ i ∧ i < wr.heap.size) := by
  obtain ⟨g1, rfl, l1⟩ := own_some h.o1 (by omega)
  obtain ⟨g2, rfl, l2⟩ := own_some h.o2 (by omega)
  have hml := h.main.lt
  obtain ⟨e1, e2⟩ := Dk.new_sectors n
  have hr : ∀ k, (List.replicate k zero64).map Value.string = List.replicate k (.string zero64) := fun k => by simp
  refine ⟨g1, g2, c1, c2, .slice none 0 0, false, 0, 0, 0, ?_⟩
  exact {
    ok := ⟨h1, h2, by simp [Dk.new], by simp [Dk.new], (fun p hp => by cases hp), (fun x hx => by cases hx)⟩
    main := h.main
    st := by rw [e1, hr]; exact h.o1
    el := by rw [e2, hr]; exact h.o2
    ne := h.ne _ _ rfl rfl
    q := World.ownsRow_nil _ _ _ _
    qlen := Nat.zero_le _
    alr := rfl
    fa := ⟨Nat.le_refl _, hml⟩
    f1 := ⟨Nat.le_of_lt (h.s1 _ rfl), l1⟩
    f2 := ⟨Nat.le_of_lt (h.s2 _ rfl), l2⟩
    fq := fun g hg => by cases hg
    fl := fun i hi => hi.2 }

set_option maxHeartbeats 1600000 in
theorem rnew_yes (w : World) (n : Nat) (h1 : 1 ≤ n) (h2 : n ≤ 4000) : Calls Try.prog 14 #[.int .i64 (n : Int)] w fun e w' =>
    ∃ a, e = .returned (.pointer (some ⟨a, 0, none⟩)) ∧ Below w.heap.size w w' ∧ RefAt w' a (Dk.new n) (fun i => w.heap.size ≤ i ∧ i < w'.heap.size) := by
  obtain ⟨i0, hi0, hz0, hz1, hz2⟩ := info_parts Try.infoRStr
  have h1' : (1 : Int) ≤ n := by omega
  have h2' : (n : Int) ≤ 4000 := by omega
  go_enter Try.func14, Try.ntmps14
  go_wp2_with fail
  refine (rzero _).mono ?_
  rintro e w1 ⟨rfl, rfl⟩
  go_wp2_with fail
  have hI0 : NewI w (w.alloc (.cells #[.slice none 0 0, .slice none 0 0, .slice none 0 0, .bool true, .bool false, .int .i64 0, .int .i64 0, .int .i64 0] 64)) 0 0 none none 0 0 :=
    ⟨(Below.refl _ _).alloc (Nat.le_refl _) _, Blk.new w _ _, World.ownsRow_nil _ _ _ _, World.ownsRow_nil _ _ _ _, (fun b hb => by cases hb), (fun b hb => by cases hb), (fun b b' hb => by cases hb)⟩
  go_loopw [5] (fun v wr => ∃ (k : Nat) (A1 A2 : Option Addr) (c1 c2 : Nat), k ≤ n ∧ v = .int .i64 (k : Int) ∧ NewI w wr k k A1 A2 c1 c2) (fun v _ => n - (intOf v).toNat)
  case atStart => exact ⟨0, none, none, 0, 0, Nat.zero_le _, rfl, hI0⟩
  case round =>
    clear hI0
    obtain ⟨k, A1, A2, c1, c2, hk, rfl, hI⟩ := hrel
    obtain ⟨k0, f0, hlt⟩ := hI.main.all
    by_cases hlt2 : k < n
    · have hone : ∀ u ∈ [Value.string zero64], u.oneCell' = true := by intro u hu; simp at hu; subst hu; rfl
      have hnew : (wr.alloc (.cells #[Value.string zero64] 9)).heap[wr.heap.size]? = some (.cells #[Value.string zero64] 9 (0, 0)) := Blk.new wr _ _
      go_wp2_with (first
        | (at_builtin; refine wpList_append_lies _ rfl _ _ 39 rfl 0 9 i0 _ 1 16 Try.underlying39 hi0 hz0 hz1 hz2 rfl (by omega) (.slice A1 k c1) k _ rfl (hI.o1.alloc _) ⟨wr.heap.size, 0, none⟩ 1 1 [Value.string zero64] rfl rfl (World.news_of_block hnew) hone (by omega) (by unfold maxLen; omega) (by omega) (by omega) (wr.heap.size + 1) (by simp) ?_; intro g cap w2 o2 g2 l2 z2; have hJ := hI.step1 g2 o2 (l2.imp id (fun e => by omega)); obtain ⟨n0, n1, n2⟩ := (Blk.grown (hI.main.alloc _) g2 hI.apart1).all; clear k0 f0)
        | (at_builtin; have hnew2 := Blk.new (w2.setCell ⟨w.heap.size, 0, none⟩ (.slice (some ⟨g, 0, none⟩) (k + 1) cap)) 9 #[Value.string zero64]; refine wpList_append_lies _ rfl _ _ 39 rfl 0 9 i0 _ 1 16 Try.underlying39 hi0 hz0 hz1 hz2 rfl (by omega) (.slice A2 k c2) k _ rfl (hJ.o2.alloc _) ⟨w2.heap.size, 0, none⟩ 1 1 [Value.string zero64] rfl rfl (World.news_of_block (by simpa [World.setCell, Blk] using hnew2)) hone (by omega) (by unfold maxLen; omega) (by omega) (by omega) (w2.heap.size + 1) (by simp [World.setCell]) ?_; intro g' cap' w4 o4 g4 l4 z4; have hL := hJ.step2 g4 o4 (l4.imp id (fun e => by simp [World.setCell]; omega)); obtain ⟨p0, p1, p2⟩ := (Blk.grown (hJ.main.alloc _) g4 hJ.apart2).all; clear n0 n1))
      go_roundw
      case rel => exact ⟨k + 1, _, _, _, _, by omega, by go_num, hL⟩
      case measure => simp [intOf]; omega
    · obtain rfl : n = k := by omega
      go_wp2
      go_ret
      exact ⟨w.heap.size, rfl, hI.below, hI.done h1 h2⟩
end
end Go.Proofs.Ytahkahmkoibmhaa
