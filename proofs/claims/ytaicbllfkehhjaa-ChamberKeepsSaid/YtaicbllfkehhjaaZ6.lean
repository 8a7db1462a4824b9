/- Part 6 of what the laws of this seat stand on: Hl, Pz, Hm, Hn, Ho, Ht. -/
import Derived.Test.YtaicbllfkehhjaaZ5
import Derived.Great.BuildSlice

/- tell: a clause sent to all other seats. -/
namespace Go.Proofs.Ytaicbllfkehhjaa
open Go.RowKit Go.Shelf
attribute [local go_sem] Oper.semAt_some

section
variable {P : Program} {m : Nat}
theorem wpListIn_val {ops : Array Oper} {rest : List Oper} {o : Oper} {a : Act} {W : World} {Q : Exit → Act → World → Prop} (hgd : o.guard = none) (v : Value) (W' : World) (h : (execOp a.eval o).run P W = .ok (.value v) W')
    (k : wpListIn Fence.wide m P ops Q rest (a.put o.dst v) W') : wpListIn Fence.wide m P ops Q (o :: rest) a W := by
  unfold wpListIn
  rw [if_pos (by simp [Region.wanted, hgd])]
  refine ⟨fun _ _ => trivial, ?_⟩
  have e : (o.semAt Fence.wide.round a.eval).run P W = (execOp a.eval o).run P W := rfl
  rw [e, h]
  exact k
theorem wpListIn_val_round {l : Nat} {ops : Array Oper} {rest : List Oper} {o : Oper} {a : Act} {W : World} {Q : Exit → Act → World → Prop} (hgd : o.guard = none) (v : Value) (W' : World) (he : o.semAt (Fence.wide.inRound l).round a.eval = execOp a.eval o) (h : (execOp a.eval o).run P W = .ok (.value v) W')
    (k : wpListIn (Fence.wide.inRound l) m P ops Q rest (a.put o.dst v) W') : wpListIn (Fence.wide.inRound l) m P ops Q (o :: rest) a W := by
  unfold wpListIn
  rw [if_pos (by simp [Region.wanted, hgd])]
  refine ⟨fun _ _ => trivial, ?_⟩
  rw [he, h]
  exact k
end
section
variable {w w' : World} {y : Lay} {V V' : Nat → Nat → Value} {n : Nat} {C : Ch}
theorem ChAt.grown (h : ChAt w y V n C) {B : Nat} (hm : y.mb < B) (hM : ∀ i, i < n → y.M i < B) {row : Option Nat} (hg : w.grownBy w' row) (hr : ∀ r, row = some r → B ≤ r ∧ ∃ o : Obj, w.heap[r]? = some o ∧ o.isCells = false) : ChAt w' y V n C := by
  refine h.only (F := fun g => row = some g) (Only.of_grown hg) (fun g hf => ?_) fun g hf => .inl (hr g hf).2
  obtain ⟨h1, o, h2, h3⟩ := hr g hf
  have hc : ∀ {t cs}, ¬ Blk w g t cs := fun {t cs} k => by
    unfold Blk at k
    rw [h2] at k
    injection k with k
    subst k
    cases h3
  rintro (e | ⟨i, hi, e⟩ | ⟨i, k, hi, hk, hne, e | e⟩)
  · omega
  · have := hM i hi
    omega
  · exact hc (e ▸ (h.ques i k hi hk hne).1)
  · obtain ⟨_, vs, k2, _⟩ := h.ques i k hi hk hne
    rcases k2 with ⟨k2, _⟩ | ⟨b, off, cap, cs, k2, k3, _⟩
    · rw [k2] at e; cases e
    · rw [k2] at e
      have : b = g := by simpa [Value.ownBlock] using e
      exact hc (this ▸ k3)
theorem Turn.grown {w0 : World} (h : Turn w0 w y V V' n) {row : Option Nat} (hg : w.grownBy w' row) (hr : ∀ r, row = some r → w0.heap.size ≤ r) : Turn w0 w' y V V' n :=
  ⟨⟨hg.os.trans h.1.os, hg.tape.trans h.1.tape, hg.output.trans h.1.output, Nat.le_trans h.1.size hg.size, fun i hi hn => (hg.block i (Nat.lt_of_lt_of_le hi h.1.size) (fun e => by have := hr i e.symm; omega)).trans (h.1.block i hi hn)⟩, h.2⟩
theorem Turn.keeps (h : ChAt w y V n C) (t : Turn w w' y V V' n) {B : Nat} (hm : y.mb < B) (hM : ∀ i, i < n → y.M i < B) : KeepsFrom B w w' := ⟨t.1.size, fun k o hB hk ho => by
  rw [t.1.block k (Array.getElem?_eq_some_iff.1 hk).1 ?_]
  · exact hk
  · have hc : ∀ {t cs}, ¬ Blk w k t cs := fun {t cs} e => by
      unfold Blk at e
      rw [hk] at e
      injection e with e
      subst e
      cases ho
    rintro (e | ⟨i, hi, e⟩ | ⟨i, k', hi, hk', hne, e | e⟩)
    · omega
    · have := hM i hi
      omega
    · exact hc (e ▸ (h.ques i k' hi hk' hne).1)
    · obtain ⟨_, vs, k2, _⟩ := h.ques i k' hi hk' hne
      rcases k2 with ⟨k2, _⟩ | ⟨b, off, cap, cs, k2, k3, _⟩
      · rw [k2] at e; cases e
      · rw [k2] at e
        have : b = k := by simpa [Value.ownBlock] using e
        exact hc (this ▸ k3)⟩
theorem Turn.blk (h : ChAt w y V n C) (t : Turn w w' y V V' n) {g : Nat} {ty : TypeId} {cs : Array Value} (k : Blk w g ty cs) (h1 : ty ≠ 75) (h2 : ty ≠ 41) : Blk w' g ty cs := t.1.blk k fun hf => (h.wr g hf).not_blk k h1 h2
theorem Turn.kpt (h : ChAt w y V n C) (t : Turn w w' y V V' n) {C' : Ch} (h' : ChAt w' y V' n C') {bc bi : Nat} {v1 v2 : Array Value} (k1 : Blk w bc 25 v1) (k2 : Blk w bi 3 v2) : Kpt y bc bi w w' := by
  have same : ∀ {g ty cs}, Blk w g ty cs → ty ≠ 75 → ty ≠ 41 → w'.heap[g]? = w.heap[g]? := fun {g ty cs} k h1 h2 => by
    have k' := t.blk h k h1 h2
    unfold Blk at k k'
    rw [k, k']
  refine ⟨t.1.size, fun g hg => ?_, fun _ => h'.map⟩
  rcases hg with rfl | rfl | rfl | rfl
  · exact same k1 (by decide) (by decide)
  · exact same k2 (by decide) (by decide)
  · exact same h.blk (by decide) (by decide)
  · exact same h.sts (by decide) (by decide)
end
/-- A message to some. -/
def Ch.tellL (C : Ch) (i : Nat) (x : Cl) (ks : List Nat) : Ch := ks.foldl (fun C k => C.setL i k (C.lines i k ++ [[x]])) C
theorem Ch.tellL_snoc (C : Ch) (i : Nat) (x : Cl) (ks : List Nat) (k : Nat) : C.tellL i x (ks ++ [k]) = (C.tellL i x ks).setL i k ((C.tellL i x ks).lines i k ++ [[x]]) := by
  unfold Ch.tellL
  rw [List.foldl_append]
  rfl
theorem Ch.tellL_pages (i : Nat) (x : Cl) : ∀ (ks : List Nat) (C : Ch), (C.tellL i x ks).pages = C.pages
  | [], _ => rfl
  | k :: ks, C => Ch.tellL_pages i x ks (C.setL i k (C.lines i k ++ [[x]]))
theorem Ch.tellL_lines (i : Nat) (x : Cl) : ∀ (ks : List Nat) (C : Ch), ks.Nodup → ∀ a b, (C.tellL i x ks).lines a b = if a = i ∧ b ∈ ks then C.lines a b ++ [[x]] else C.lines a b
  | [], C, _, a, b => by simp [Ch.tellL]
  | k :: ks, C, hn, a, b => by
    obtain ⟨h1, h2⟩ := List.nodup_cons.1 hn
    have ih := Ch.tellL_lines i x ks (C.setL i k (C.lines i k ++ [[x]])) h2 a b
    rw [show C.tellL i x (k :: ks) = (C.setL i k (C.lines i k ++ [[x]])).tellL i x ks from rfl, ih]
    by_cases ha : a = i
    · subst ha
      by_cases hb : b = k
      · subst hb
        rw [if_neg (fun e => h1 e.2), if_pos ⟨rfl, List.mem_cons_self⟩, setL_same]
      · rw [setL_ne (fun e => hb e.2)]
        by_cases hk : b ∈ ks
        · rw [if_pos ⟨rfl, hk⟩, if_pos ⟨rfl, List.mem_cons_of_mem _ hk⟩]
        · rw [if_neg (fun e => hk e.2), if_neg (fun e => (List.mem_cons.1 e.2).elim hb hk)]
    · rw [if_neg (fun e => ha e.1), if_neg (fun e => ha e.1), setL_ne (fun e => ha e.1)]
theorem Ch.tellL_len (i : Nat) (x : Cl) (a b : Nat) : ∀ (ks : List Nat) (C : Ch), ((C.tellL i x ks).lines a b).length ≤ (C.lines a b).length + ks.length
  | [], _ => Nat.le_refl _
  | k :: ks, C => by
    have ih := Ch.tellL_len i x a b ks (C.setL i k (C.lines i k ++ [[x]]))
    have h1 : ((C.setL i k (C.lines i k ++ [[x]])).lines a b).length ≤ (C.lines a b).length + 1 := by
      by_cases h : a = i ∧ b = k
      · obtain ⟨rfl, rfl⟩ := h
        rw [setL_same]
        simp
      · rw [setL_ne h]
        omega
    rw [show C.tellL i x (k :: ks) = (C.setL i k (C.lines i k ++ [[x]])).tellL i x ks from rfl, List.length_cons]
    omega
theorem upL_map (n i : Nat) : ∀ k, k ≤ n → (upL n i k).map (·.1) = othN i k
  | 0, _ => rfl
  | k + 1, hk => by
    have ih := upL_map n i k (by omega)
    unfold othN at ih ⊢
    rw [List.range_succ, List.filter_append]
    by_cases h : k < n ∧ k ≠ i
    · rw [upL_succ_in h, List.map_append, ih]
      simp [h.2]
    · have : k = i := by omega
      rw [upL_succ_out h, ih]
      simp [this]
theorem tellL_tell {C : Ch} {n i : Nat} (hn : C.pages.length = n) (x : Cl) : C.tellL i x ((upL n i n).map (·.1)) = C.tell i x := by
  have hp := Ch.tellL_pages i x ((upL n i n).map (·.1)) C
  have hl : (C.tellL i x ((upL n i n).map (·.1))).lines = (C.tell i x).lines := by
    funext a b
    rw [upL_map n i n (Nat.le_refl _)]
    rw [Ch.tellL_lines i x (othN i n) C ((List.nodup_range).filter _) a b]
    simp only [Ch.tell, othN, List.mem_filter, List.mem_range, decide_eq_true_eq, hn]
    by_cases h : a = i ∧ b ≠ i ∧ b < n
    · rw [if_pos h, if_pos ⟨h.1, h.2.2, h.2.1⟩]
    · rw [if_neg h, if_neg (fun e => h ⟨e.1, e.2.2, e.2.1⟩)]
  cases hC : C.tellL i x ((upL n i n).map (·.1)) with
  | mk pg ln =>
    rw [hC] at hp hl
    unfold Ch.tell at hl ⊢
    dsimp only at hp hl
    rw [hp, hl]

theorem ChAt.fixd {w : World} {y : Lay} {V : Nat → Nat → Value} {n : Nat} {C : Ch} (h : ChAt w y V n C) {bc bi i : Nat} (hc : Blk w bc 25 #[.pointer (some ⟨y.p, 0, none⟩)]) (hi : Blk w bi 3 #[.int .i64 (i : Int)]) : Fixd w y n bc bi i := ⟨hc, hi, h.blk, h.sts, h.map⟩
theorem others_stops (m : Nat) (hm : 1 ≤ m) (w : World) (y : Lay) (V : Nat → Nat → Value) (n : Nat) (C : Ch) (h : ChAt w y V n C) (bc bi i : Nat) (hi : i < n) (hF : Fixd w y n bc bi i) :
    SeqStopsK Fence.wide m Try.prog 70 #[.pointer (some ⟨bc, 0, none⟩), .pointer (some ⟨bi, 0, none⟩)] (encQ (n := n) y i) (Kpt y bc bi) (fun xs => xs = upL n i n) (fun _ => True) n w :=
  fun l J Jx W hW hJ _ hY h0 => others1_in m hm y n bc bi i h.max h.cap h.st h.key (fun k hk hne => h.mem i k hi hk (Ne.symm hne)) l J Jx W hJ hY (hF.kpt (hF.below hW)) h0

set_option maxRecDepth 100000 in
theorem others_any (w : World) (p : Nat) (i : Int) :
    Calls Try.prog 64 #[.pointer (some ⟨p, 0, none⟩), .int .i64 i] w fun e w' => e = .returned (.func (.func 70) #[] #[.pointer (some ⟨w.heap.size, 0, none⟩), .pointer (some ⟨w.heap.size + 1, 0, none⟩)]) ∧ w' = (w.alloc (.cells #[.pointer (some ⟨p, 0, none⟩)] 25)).alloc (.cells #[.int .i64 i] 3) := by
  go_enter Try.func64, Try.ntmps64
  go_wp2
  go_ret
  exact ⟨rfl, rfl⟩

set_option maxRecDepth 100000 in
set_option maxHeartbeats 4000000 in
/-- A clause sent to all others. -/
theorem tell_any (w : World) (y : Lay) (V : Nat → Nat → Value) (n : Nat) (C : Ch) (h : ChAt w y V n C) (hl : ∀ i k, (C.lines i k).length ≤ 900000) (i : Nat) (hi : i < n) (c : Cl) :
    Calls Try.prog 48 #[.pointer (some ⟨y.p, 0, none⟩), .int .i64 (i : Int), .agg (clA c)] w fun e w' => (∃ r, e = .returned r) ∧ ∃ V', ChAt w' y V' n (C.tell i c) ∧ Turn w w' y V V' n := by
  refine (callsIn_wide (n := 5)).1 ?_
  obtain ⟨CC, hCC⟩ : ∃ CC, clA c = CC := ⟨_, rfl⟩
  rw [hCC]
  have hO := others_any (w.alloc (.cells CC 56)) y.p (i : Int)
  have HO := Lib.hid hO
  have H := Lib.hid h
  have HL := Lib.hid hl
  have HI := Lib.hid hi
  have HC := Lib.hid hCC
  clear hO h hl hi hCC
  refine callsIn_of_wp_marks Try.func48 rfl trivial ?_ rfl
  simp only [Try.ntmps48, List.size_toArray, List.length_cons, List.length_nil, Nat.reduceAdd, Nat.reduceSub, Array.replicate_succ, Array.replicate_zero, List.push_toArray, List.append_toArray, List.nil_append, List.cons_append]
  gi_wp2_with (refine ⟨trivial, ?_⟩; gi_at_call 64; refine (callsIn_wide.2 HO.out).mono ?_; rintro e w' ⟨rfl, rfl⟩)
  obtain ⟨q, hq⟩ : ∃ q, w.heap.size = q := ⟨_, rfl⟩
  have hb0 : Below q w (((w.alloc (.cells CC 56)).alloc (.cells #[.pointer (some ⟨y.p, 0, none⟩)] 25)).alloc (.cells #[.int .i64 (i : Int)] 3)) := by
    subst hq
    exact (((Below.refl _ w).alloc (Nat.le_refl _) _).alloc (by simp) _).alloc (by simp; omega) _
  have kC : Blk (((w.alloc (.cells CC 56)).alloc (.cells #[.pointer (some ⟨y.p, 0, none⟩)] 25)).alloc (.cells #[.int .i64 (i : Int)] 3)) q 56 CC := by
    subst hq
    exact ((Blk.new w _ CC).alloc _).alloc _
  have kP : Blk (((w.alloc (.cells CC 56)).alloc (.cells #[.pointer (some ⟨y.p, 0, none⟩)] 25)).alloc (.cells #[.int .i64 (i : Int)] 3)) (q + 1) 25 #[.pointer (some ⟨y.p, 0, none⟩)] := by
    subst hq
    exact (Blk.new1 w _ _ _).alloc _
  have kI : Blk (((w.alloc (.cells CC 56)).alloc (.cells #[.pointer (some ⟨y.p, 0, none⟩)] 25)).alloc (.cells #[.int .i64 (i : Int)] 3)) (q + 1 + 1) 3 #[.int .i64 (i : Int)] := by
    subst hq
    have := Blk.new ((w.alloc (.cells CC 56)).alloc (.cells #[.pointer (some ⟨y.p, 0, none⟩)] 25)) 3 #[.int .i64 (i : Int)]
    simpa using this
  have hsz : (((w.alloc (.cells CC 56)).alloc (.cells #[.pointer (some ⟨y.p, 0, none⟩)] 25)).alloc (.cells #[.int .i64 (i : Int)] 3)).heap.size = q + 3 := by simp [← hq]
  rw [hq]
  generalize (((w.alloc (.cells CC 56)).alloc (.cells #[.pointer (some ⟨y.p, 0, none⟩)] 25)).alloc (.cells #[.int .i64 (i : Int)] 3)) = W0 at *
  have hH0 : ChAt W0 y V n C := H.out.below (hq ▸ hb0)
  have hbw : Below w.heap.size w W0 := hq ▸ hb0
  have hF := hH0.fixd kP kI
  have hm : y.mb < W0.heap.size := hH0.lt (.inl rfl)
  have hM : ∀ j, j < n → y.M j < W0.heap.size := fun j hj => hH0.lt (.inr (.inl ⟨j, hj, rfl⟩))
  have hmax := H.out.max
  have hlen := H.out.len
  clear HO hq hb0
  refine wpIn_rangeFunc_ownG rfl (by decide) (gf := 70) (lb := #[.pointer (some ⟨q + 1, 0, none⟩), .pointer (some ⟨q + 1 + 1, 0, none⟩)]) rfl trivial (enters_of Try.func70 (by kernel_rfl) rfl)
    (others_stops 4 (by decide) W0 y V n C hH0 (q + 1) (q + 1 + 1) i HI.out hF) (fun h k => Kpt.trans h k) ?hKb (Below.refl _ _) (fun _ => rfl)
    (fun pre W => ∃ V', ChAt W y V' n (C.tellL i c (pre.map (·.1))) ∧ Turn w W y V V' n ∧ Blk W q 56 CC ∧ Blk W (q + 1) 25 #[.pointer (some ⟨y.p, 0, none⟩)] ∧ Blk W (q + 1 + 1) 3 #[.int .i64 (i : Int)])
    (fun _ _ _ => False) ?hI (fun _ _ _ _ _ hs _ _ => hs) ⟨V, hH0, Turn.of_below hbw, kC, kP, kI⟩
    (fun x => { tmps := #[.pointer (some ⟨y.p, 0, none⟩), .int .i64 (i : Int), .agg CC, undef, undef, .pointer (some ⟨q, 0, none⟩), .pointer (some ⟨y.Q i x.1, 0, none⟩), .pointer (some ⟨y.p, 0, none⟩), .int .i64 (i : Int), .func (.func 70) #[] #[.pointer (some ⟨q + 1, 0, none⟩), .pointer (some ⟨q + 1 + 1, 0, none⟩)], .pointer (some ⟨y.Q i x.1, 0, none⟩), undef, undef, undef, undef], defers := [] }) ?assign ?body ?done ?stop
  case hKb =>
    intro W l o o' hl ho hc _
    have hne : ∀ g, g < W0.heap.size → (W.putObj l o').heap[g]? = W.heap[g]? := fun g hg => World.putObj_heap_other (fun e => by omega)
    refine ⟨by simp, fun g hg => ?_, fun m => m.of_block (hne _ hm)⟩
    rcases hg with rfl | rfl | rfl | rfl
    · exact hne _ kP.lt
    · exact hne _ kI.lt
    · exact hne _ hF.blk.lt
    · exact hne _ hF.sts.lt
  case hI =>
    rintro pre A B row ⟨V', h1, h2, h3, h4, h5⟩ hg hr
    have hlt : w.heap.size ≤ W0.heap.size := hbw.size
    have keep : ∀ {g ty cs}, Blk A g ty cs → g < W0.heap.size → Blk B g ty cs := fun {g ty cs} k hlt => (Only.of_grown hg).blk k fun e => by
      have := (hr g e).1
      omega
    exact ⟨V', h1.grown hm hM hg hr, h2.grown hg (fun r e => Nat.le_trans hlt (hr r e).1), keep h3 kC.lt, keep h4 kP.lt, keep h5 kI.lt⟩
  case assign =>
    intro l x W K hK
    dsimp only [encQ]
    gi_wp2
    exact hK
  case body =>
    rintro l pre ⟨k, hk, hki⟩ W ⟨V', h1, h2, h3, h4, h5⟩ hlt
    have hcz : CC.size = 20 := by rw [← HC.out]; rfl
    have hfold := fold_cl c
    rw [HC.out] at hfold
    have hx : OwnCls (W.alloc (.cells CC 56)) 0 (.slice (some ⟨W.heap.size, 0, none⟩) 1 1) [c] := ⟨by rw [cls_len], .inr ⟨W.heap.size, 1, CC, rfl, Nat.zero_le _, World.alloc_heap_new _ _, Nat.le_refl _, by decide, by rw [hcz], by rw [← HC.out]; simp [cls]; rfl⟩⟩
    have hll : ((C.tellL i c (pre.map (·.1))).lines i k).length ≤ 1000000 := by
      have h6 := Ch.tellL_len i c i k (pre.map (·.1)) C
      rw [List.length_map] at h6
      have := HL.out i k
      omega
    have hP := (h1.alloc (.cells CC 56)).put HI.out hk (Ne.symm hki) hx hll
    have HP := Lib.hid hP
    have H1 := Lib.hid h1
    have H2 := Lib.hid h2
    have H3 := Lib.hid h3
    have H4 := Lib.hid h4
    have H5 := Lib.hid h5
    clear hx hP h1 h2 h3 h4 h5 hll
    gi_wp2_with (first | (refine wpListIn_val_round rfl (.agg CC) _ (Oper.semAt_some _ _ _ (by intro c e; cases e)) (exec_load_blk (x := .tmp 5) rfl rfl hcz H3.out) ?_) | (refine ⟨trivial, ?_⟩; gi_at_call 44; refine (CallsIn.inRound l (callsIn_wide.2 HP.out)).mono ?_; rintro e w3 ⟨⟨r, rfl⟩, V2, h6, t6⟩))
    have t6' : Turn W w3 y V' V2 n := (Turn.of_below (below_self_alloc _ _)).trans t6
    refine ⟨t6'.keeps H1.out hm hM, t6'.kpt H1.out h6 H4.out H5.out, V2, ?_, H2.out.trans t6', t6'.blk H1.out H3.out (by decide) (by decide), t6'.blk H1.out H4.out (by decide) (by decide), t6'.blk H1.out H5.out (by decide) (by decide)⟩
    rw [List.map_append, List.map_cons, List.map_nil, Ch.tellL_snoc]
    exact h6
  case done =>
    rintro D xs W hD rfl ⟨V', h1, h2, _⟩ hK
    gi_wp2
    refine ⟨by simp, .inl ⟨_, _, rfl, run_takeDeferred hK, ?_⟩⟩
    have hg := grownBy_putObj' W D (.deferred none)
    have hr : ∀ r, some D = some r → W0.heap.size ≤ r ∧ ∃ o : Obj, W.heap[r]? = some o ∧ o.isCells = false := fun r e => by
      injection e with e
      subst e
      exact ⟨hD, _, hK, rfl⟩
    have h3 := h1.grown hm hM hg hr
    rw [tellL_tell hlen c] at h3
    have h4 := h2.grown hg (fun r e => Nat.le_trans hbw.size (hr r e).1)
    exact ⟨_, results_none rfl _ _ _, ⟨_, rfl⟩, V', h3, h4⟩
  case stop =>
    rintro D c pre W _ _ h _
    exact h.elim
end Go.Proofs.Ytaicbllfkehhjaa

/- A region that draws its order, all of whose operations keep S: those that make memory or call come by any turns; reads that hold as long as S does are taken at once. Over any program. -/
namespace Go.Proofs.Ytaicbllfkehhjaa
open Go.RowKit

section
variable {P : Program} {Q : Exit → Act → World → Prop} {S : World → Prop}
/-- The region, walked as far as 'listed'; what is left keeps S. -/
def AtS (P : Program) (l : List Oper) (Q : Exit → Act → World → Prop) (S : World → Prop) (n : Nat) (listed : Array Bool) (a : Act) (w : World) : Prop :=
  (∀ c (d : Option Tmp) (v : Value) a w, Q (.panic c) (a.put d v) w → Q (.panic c) a w) → Good l listed → wpAnyE P .any l.toArray Q S (fun _ => false) n listed a w
variable {l : List Oper} {listed l2 : Array Bool} {a : Act} {w : World} {n N : Nat}
theorem ats_end (hB : Region.ready .any l.toArray listed = []) (h : Q .normal a w) : AtS P l Q S 0 listed a w := fun _ _ => ⟨hB, h⟩
theorem ats_take (hs : List Nat) (n : Nat) (hN : hs.length + n = N) (hB : (headB .any l.toArray hs listed).isSome = true) (hS : S w) (h : wpHeld P l.toArray S (fun a' => AtS P l Q S n (setAll hs listed) a' w) (pick l hs) a) : AtS P l Q S N listed a w := by
  subst hN
  intro hQ hg
  obtain ⟨l2, hB⟩ := Option.isSome_iff_exists.1 hB
  rw [headB_set _ _ _ hB] at h
  have hg2 : Good l l2 := ⟨hg.sel, headB_closed _ _ _ hg.closed hB, by rw [← headB_set _ _ _ hB, size_setAll]; exact hg.size⟩
  exact wpAnyE_held (P := P) (Q := Q) (md := .any) (w := w) (S := S) (late := fun _ => false) (hs := hs) (g := n) hg.sel hQ (fun _ _ _ h => by cases h) (fun _ _ => rfl) hS
    (fun a' ha' => ha' hQ hg2) hs listed a (fun k hk => hk) hg.closed hB h
theorem ats_step (h0 : Region.ready .any l.toArray listed ≠ []) (h : ∀ i ∈ Region.ready .any l.toArray listed, wpList P l.toArray (Exit.then (fun a' w' => S w' ∧ AtS P l Q S n (listed.setIfInBounds i true) a' w') Q) (pick l [i]) a w) : AtS P l Q S (n + 1) listed a w := fun hQ hg => by
  refine ⟨fun he => absurd he h0, fun i hi => ?_⟩
  obtain ⟨_, o, ho, _⟩ := mem_ready.1 hi
  have hp : pick l [i] = [o] := by
    have : l[i]? = some o := by simpa using ho
    simp [pick, this]
  have h2 := h i hi
  rw [hp] at h2
  exact wpOp_mono (fun a' w' h' => ⟨fun _ => h'.1, h'.2 hQ ⟨hg.sel, hg.closed.set hi, by rw [Array.size_setIfInBounds]; exact hg.size⟩⟩) (wpOp_of_one ho h2)
theorem ats_one (i : Nat) (hr : Region.ready .any l.toArray listed = [i]) (h : wpList P l.toArray (Exit.then (fun a' w' => S w' ∧ AtS P l Q S n (listed.setIfInBounds i true) a' w') Q) (pick l [i]) a w) : AtS P l Q S (n + 1) listed a w :=
  ats_step (by rw [hr]; simp) fun j hj => by rw [hr] at hj; simp at hj; subst hj; exact h
theorem ats_two (i k : Nat) (hr : Region.ready .any l.toArray listed = [i, k])
    (h : wpList P l.toArray (Exit.then (fun a' w' => S w' ∧ AtS P l Q S n (listed.setIfInBounds i true) a' w') Q) (pick l [i]) a w)
    (k' : wpList P l.toArray (Exit.then (fun a' w' => S w' ∧ AtS P l Q S n (listed.setIfInBounds k true) a' w') Q) (pick l [k]) a w) : AtS P l Q S (n + 1) listed a w :=
  ats_step (by rw [hr]; simp) fun j hj => by
    rw [hr] at hj
    simp only [List.mem_cons, List.not_mem_nil, or_false] at hj
    rcases hj with rfl | rfl <;> assumption
theorem wp_region_ats {id : Nat} (S : World → Prop) (hm : P.follows .mixedOrders = true) (hB : Region.noSelect l.toArray = true) (hQ : ∀ c (d : Option Tmp) (v : Value) a w, Q (.panic c) (a.put d v) w → Q (.panic c) a w) (hN : l.length = N)
    (h : AtS P l Q S N (Array.replicate N false) a w.drew) : (Code.region id l.toArray true).wp P Q a w := by
  subst hN
  have hc0 : Closed .any l.toArray (Array.replicate l.length false) := fun j oj _ hl => by rw [getD_replicate_false] at hl; cases hl
  refine wp_region_any hm ?_
  have k := wpAny_of_E _ _ _ _ (h hQ ⟨hB, hc0, by simp⟩)
  have hsz : l.toArray.size = l.length := by simp
  rw [hsz]
  exact k
end
end Go.Proofs.Ytaicbllfkehhjaa

/- Withdraw. -/
namespace Go.Proofs.Ytaicbllfkehhjaa
open Go.RowKit

theorem ChAt.pdrop {w : World} {y : Lay} {V : Nat → Nat → Value} {n : Nat} {C : Ch} (h : ChAt w y V n C) {i : Nat} (hi : i < n) (hp : Pg (C.pg i)) (t : St2) :
    Calls Try.prog 49 #[.pointer (some ⟨y.P i, 0, none⟩), .agg (stA t)] w fun e w' => e = .returned (.int .i64 (dropS (C.pg i) t).2) ∧ ChAt w' y V n (C.upd i (dropS (C.pg i) t).1) ∧ Only (fun g => g = y.M i) w w' :=
  (drop_any w _ _ _ (h.pgs i hi) hp.uq t).mono fun _ _ ⟨h1, h2, h3⟩ => ⟨h1, h.page hi h3 h2, h3⟩
def withdrawI (n : Nat) (C : Ch) (i : Int) (t : St2) : Ch × Int := if 0 ≤ i ∧ i < (n : Int) then withdrawS C i.toNat t else (C, 1)
theorem drop_get {L : List Cl} {t : St2} {c : Cl} (hc : getC L t = some c) : dropS L t = (setC L (goneC c), 0) := by
  unfold dropS
  rw [hc]
  rfl
theorem drop_got {L : List Cl} (h : Pg L) {t : St2} {c : Cl} (hc : getC L t = some c) : getC (walkS (setC L (goneC c))) t = some (goneC c) := by
  have h1 : Pg (setC L (goneC c)) := by
    have := h.drop t
    rwa [drop_get hc] at this
  rw [getC_walk h1]
  have h2 := (getC_mem hc).2
  subst h2
  rw [getC_set]
  show (if c.id = c.id then _ else _) = _
  rw [if_pos rfl, hc]
  rfl

set_option maxRecDepth 100000 in
set_option maxHeartbeats 4000000 in
theorem withdraw_any (w : World) (y : Lay) (V : Nat → Nat → Value) (n : Nat) (C : Ch) (h : ChAt w y V n C) (hg : Sane n C) (hl : ∀ i k, (C.lines i k).length ≤ 900000) (i a b : Int) :
    Calls Try.prog 31 #[.pointer (some ⟨y.p, 0, none⟩), .int .i64 i, .agg #[.int .i64 a, .int .i64 b]] w fun e w' => e = .returned (.int .i64 (withdrawI n C i (a, b)).2) ∧ ∃ V', ChAt w' y V' n (withdrawI n C i (a, b)).1 ∧ Turn w w' y V V' n := by
  have hI := is_any (w.alloc (.cells #[.int .i64 a, .int .i64 b] 33)) y.p n y.cap _ _ (h.blk.alloc _) i
  have hb := below_self_alloc w (.cells #[.int .i64 a, .int .i64 b] 33)
  have kS := Blk.new w 33 #[.int .i64 a, .int .i64 b]
  have h0 := h.alloc (.cells #[.int .i64 a, .int .i64 b] 33)
  have hmax := h.max
  have hcap := h.cap
  have hlen := h.len
  by_cases hi : 0 ≤ i ∧ i < (n : Int)
  · rw [decide_eq_true hi] at hI
    obtain ⟨k, rfl⟩ := Int.eq_ofNat_of_zero_le hi.1
    have hk : k < n := by omega
    have hE : withdrawI n C (k : Int) (a, b) = withdrawS C k (a, b) := by unfold withdrawI; rw [if_pos hi, Int.toNat_natCast]
    rw [hE]
    have hi0 : (0 : Int) ≤ (k : Int) := hi.1
    have hi1 : (k : Int) < (n : Int) := hi.2
    have HI := Lib.hid hI
    have HK := Lib.hid hk
    have HG := Lib.hid hg
    have HLL := Lib.hid hl
    have HLEN := Lib.hid hlen
    have gS := kS.all
    obtain ⟨g0, gf, gl⟩ := gS
    by_cases ha : a = (k : Int)
    · subst ha
      have H := Lib.hid h0
      have KS := Lib.hid kS
      have HB := Lib.hid hb
      have e0 : ((k : Int) != (k : Int)) = false := by simp
      cases hc : getC (C.pg k) ((k : Int), b) with
      | none =>
        have hd : dropS (C.pg k) ((k : Int), b) = (C.pg k, 11) := by unfold dropS; rw [hc]
        have hr : withdrawS C k ((k : Int), b) = (C, 11) := by unfold withdrawS; rw [if_neg (fun e => e rfl), hc]
        rw [hr]
        have HD := Lib.hid hd
        clear hE hr hc hd hI h hg hl hi hk h0 hb kS hlen
        go_enter Try.func31, Try.ntmps31
        go_wp2_with (go_at_call 39; refine HI.out.mono ?_; rintro e w1 ⟨rfl, rfl⟩)
        refine wp_region_hold (fun W => ChAt W y V n C ∧ Blk W w.heap.size 33 #[.int .i64 (k : Int), .int .i64 b]) [0, 1, 2, 3, 4, 5, 6, 7, 8] [] [9, 10] (by kernel_rfl) (by kernel_rfl) (fun _ d _ _ _ h => by cases d <;> exact h) (⟨H.out.drewN 1, KS.out.drewN 1⟩) ?_
        simp only [pick, List.drop_succ_cons, List.drop_zero, List.head?_cons, Option.toList_some, List.cons_append, List.nil_append, List.append_nil]
        try simp only [Act.put]
        repeat ((refine wpHeld_step ?_ rfl ?_ ?_; rotate_left; · (intro W hW; obtain ⟨c0, c1⟩ := hW.1.cells; obtain ⟨s0, s1⟩ := hW.1.seat HK.out; have q0 : W.cell? ⟨w.heap.size, 0, none⟩ = some (.int .i64 (k : Int)) := hW.2.cell 0; have q1 : W.cell? ⟨w.heap.size, 1, none⟩ = some (.int .i64 b) := hW.2.cell 1; (go_simp; try with_reducible rfl))); simp only [Act.put, List.setIfInBounds_toArray, List.set_cons_succ, List.set_cons_zero])
        refine wpHeld_nil ?_
        simp only [wpEarly]
        go_wp2_with fail
        have hp := (H.out.drewN 1).pdrop HK.out (HG.out k HK.out).1 ((k : Int), b)
        rw [HD.out] at hp
        refine hp.mono ?_
        rintro e w2 ⟨rfl, h2, o2⟩
        rw [upd_self (by rw [HLEN.out]; exact HK.out)] at h2
        have H2 := Lib.hid h2
        have O2 := Lib.hid o2
        clear hp h2 o2
        go_wp2_with fail
        go_ret
        exact ⟨rfl, V, H2.out, (Turn.of_below HB.out.drew).trans (Turn.page HK.out O2.out)⟩
      | some c =>
        have hr : withdrawS C k ((k : Int), b) = ((C.upd k (setC (C.pg k) (goneC c))).tell k (goneC c), 0) := by unfold withdrawS; rw [if_neg (fun e => e rfl), hc, drop_get hc]
        rw [hr]
        have HD := Lib.hid (drop_get hc)
        have HGOT := Lib.hid (drop_got (hg k hk).1 hc)
        have HPG := Lib.hid (show Pg (setC (C.pg k) (goneC c)) from by
          have := (hg k hk).1.drop ((k : Int), b)
          rwa [drop_get hc] at this)
        have HPL := Lib.hid (show (setC (C.pg k) (goneC c)).length ≤ 100000 from by unfold setC; rw [List.length_map]; exact (hg k hk).2)
        obtain ⟨L2, hL2⟩ : ∃ L, setC (C.pg k) (goneC c) = L := ⟨_, rfl⟩
        rw [hL2] at HD HGOT HPG HPL ⊢
        obtain ⟨d, hdd⟩ : ∃ d, goneC c = d := ⟨_, rfl⟩
        rw [hdd] at HGOT ⊢
        have HPL2 := Lib.hid (show (C.upd k L2).pg k = L2 from by rw [pg_upd (by rw [hlen]; exact hk), if_pos rfl])
        obtain ⟨C2, hC2⟩ : ∃ D, C.upd k L2 = D := ⟨_, rfl⟩
        rw [hC2] at HPL2 ⊢
        have HC2 := Lib.hid hC2
        have HLC := Lib.hid (show ∀ i k, (C2.lines i k).length ≤ 900000 from by rw [← hC2]; exact hl)
        dsimp only
        have HLST := Lib.hid (show ∀ W, ChAt W y V n C2 → Calls Try.prog 40 #[.pointer (some ⟨y.P k, 0, none⟩)] W fun e w' => ∃ v, e = .returned v ∧ OwnCls w' W.heap.size v (walkS L2) ∧ Below W.heap.size W w' from fun W hW => by
          have := list_any W _ _ _ (hW.pgs k hk) (HPL2.out ▸ HPG.out.tr) (HPL2.out ▸ pg_bound HPG.out) (by rw [HPL2.out]; have := HPL.out; omega)
          rwa [HPL2.out] at this)
        have HFND := Lib.hid (show ∀ (W : World) (B : Nat) (v : Value), OwnCls W B v (walkS L2) → Calls Try.prog 47 #[v, .agg #[.int .i64 (k : Int), .int .i64 b]] W fun e w' => e = .returned (.tuple #[.agg (clA d), .bool true]) ∧ Below W.heap.size W w' from fun W B v hv => by
          have := find_any W B v _ hv (walk_uq HPG.out.tr) (by rw [(walk_perm HPG.out.tr).length_eq]; have := HPL.out; omega) ((k : Int), b)
          rwa [HGOT.out] at this)
        have HCZ0 := clA_size d
        have HC10 := clA_one d
        have HT := Lib.hid (fun W hW => tell_any W y V n C2 hW HLC.out k hk d)
        obtain ⟨CX, hCX⟩ : ∃ x, clA d = x := ⟨_, rfl⟩
        rw [hCX] at HFND HCZ0 HC10 HT
        have HCZ := Lib.hid (show (#[.int .i64 0, .int .i64 0, .int .i64 0, .int .i64 0, .int .i64 0, .string ⟨#[]⟩, .string ⟨#[]⟩, .string ⟨#[]⟩, .string ⟨#[]⟩, .int .i64 0, .string ⟨#[]⟩, .string ⟨#[]⟩, .string ⟨#[]⟩, .string ⟨#[]⟩, .string ⟨#[]⟩, .bool false, .int .i64 0, .string ⟨#[]⟩, .string ⟨#[]⟩, .bool false] : Array Value).size = CX.size from by rw [HCZ0]; rfl)
        have HCS := Lib.hid HCZ0
        have HC1 := Lib.hid HC10
        clear hE hr hc hI h hg hl hi hk h0 hb kS hlen hL2 hdd hC2 hCX HCZ0 HC10
        go_enter Try.func31, Try.ntmps31
        go_wp2_with (go_at_call 39; refine HI.out.mono ?_; rintro e w1 ⟨rfl, rfl⟩)
        refine wp_region_hold (fun W => ChAt W y V n C ∧ Blk W w.heap.size 33 #[.int .i64 (k : Int), .int .i64 b]) [0, 1, 2, 3, 4, 5, 6, 7, 8] [] [9, 10] (by kernel_rfl) (by kernel_rfl) (fun _ d _ _ _ h => by cases d <;> exact h) (⟨H.out.drewN 1, KS.out.drewN 1⟩) ?_
        simp only [pick, List.drop_succ_cons, List.drop_zero, List.head?_cons, Option.toList_some, List.cons_append, List.nil_append, List.append_nil]
        try simp only [Act.put]
        repeat ((refine wpHeld_step ?_ rfl ?_ ?_; rotate_left; · (intro W hW; obtain ⟨c0, c1⟩ := hW.1.cells; obtain ⟨s0, s1⟩ := hW.1.seat HK.out; have q0 : W.cell? ⟨w.heap.size, 0, none⟩ = some (.int .i64 (k : Int)) := hW.2.cell 0; have q1 : W.cell? ⟨w.heap.size, 1, none⟩ = some (.int .i64 b) := hW.2.cell 1; (go_simp; try with_reducible rfl))); simp only [Act.put, List.setIfInBounds_toArray, List.set_cons_succ, List.set_cons_zero])
        refine wpHeld_nil ?_
        simp only [wpEarly]
        go_wp2_with fail
        have hp := (H.out.drewN 1).pdrop HK.out (HG.out k HK.out).1 ((k : Int), b)
        rw [HD.out, HC2.out] at hp
        refine hp.mono ?_
        rintro e w2 ⟨rfl, h2, o2⟩
        have KS2 := Lib.hid (o2.blk (KS.out.drewN 1) fun hf => ((H.out.drewN 1).pgs k HK.out).wr.not_blk (hf ▸ KS.out.drewN 1) (by decide) (by decide))
        have H2 := Lib.hid h2
        have O2 := Lib.hid o2
        clear hp h2 o2 g0 gf gl
        go_upto_region 8 with fail
        go_cut [8] from 9 to 44 (fun v8 wx => ∃ g, v8 = .pointer (some ⟨g, 0, none⟩) ∧ Blk wx g 56 CX ∧ Below w2.heap.size w2 wx)
        case first =>
          refine wp_region_ats (fun W => ChAt W y V n C2 ∧ Blk W w.heap.size 33 #[.int .i64 (k : Int), .int .i64 b]) (by kernel_rfl) (by kernel_rfl) (fun _ d _ _ _ h => by cases d <;> exact h) rfl ?_
          have B2 : Below w2.heap.size w2 w2.drew := (Below.refl _ _).drew
          generalize w2.drew = w2d at *
          refine ats_take [0, 1, 2, 3, 4, 5, 6, 7, 9] 8 rfl (by kernel_rfl) ⟨H2.out.below B2, KS2.out.below B2 KS2.out.lt⟩ ?_
          simp only [pick, List.drop_succ_cons, List.drop_zero, List.head?_cons, Option.toList_some, List.cons_append, List.nil_append, List.append_nil]
          repeat ((refine wpHeld_step ?_ rfl ?_ ?_; rotate_left; · (intro W hW; obtain ⟨c0, c1⟩ := hW.1.cells; obtain ⟨s0, s1⟩ := hW.1.seat HK.out; have q0 : W.cell? ⟨w.heap.size, 0, none⟩ = some (.int .i64 (k : Int)) := hW.2.cell 0; have q1 : W.cell? ⟨w.heap.size, 1, none⟩ = some (.int .i64 b) := hW.2.cell 1; (go_simp; try with_reducible rfl))); simp only [Act.put, List.setIfInBounds_toArray, List.set_cons_succ, List.set_cons_zero])
          refine wpHeld_nil ?_
          refine ats_two 8 14 (by kernel_rfl) ?_ ?_
          · simp only [pick, List.drop_succ_cons, List.drop_zero, List.head?_cons, Option.toList_some, List.append_nil]
            go_wp2_with fail
            refine (HLST.out _ (H2.out.below B2)).mono ?_
            rintro e w3 ⟨v, rfl, own, b3⟩
            have B3 := B2.trans (b3.mono B2.size)
            try go_wp2_with fail
            refine ⟨⟨H2.out.below B3, KS2.out.below B3 KS2.out.lt⟩, ?_⟩
            refine ats_two 10 14 (by kernel_rfl) ?_ ?_
            · simp only [pick, List.drop_succ_cons, List.drop_zero, List.head?_cons, Option.toList_some, List.append_nil]
              go_wp2_with fail
              refine (HFND.out _ _ _ own).mono ?_
              rintro e w4 ⟨rfl, b4⟩
              have B4 := B3.trans (b4.mono B3.size)
              try go_wp2_with fail
              refine ⟨⟨H2.out.below B4, KS2.out.below B4 KS2.out.lt⟩, ?_⟩
              refine ats_take [11, 12, 13] 3 rfl (by kernel_rfl) ⟨H2.out.below B4, KS2.out.below B4 KS2.out.lt⟩ ?_
              simp only [pick, List.drop_succ_cons, List.drop_zero, List.head?_cons, Option.toList_some, List.cons_append, List.nil_append, List.append_nil]
              repeat ((refine wpHeld_step ?_ rfl ?_ ?_; rotate_left; · (intro W hW; (go_simp; try with_reducible rfl))); simp only [Act.put, List.setIfInBounds_toArray, List.set_cons_succ, List.set_cons_zero])
              refine wpHeld_nil ?_
              refine ats_one 14 (by kernel_rfl) ?_
              simp only [pick, List.drop_succ_cons, List.drop_zero, List.head?_cons, Option.toList_some, List.append_nil]
              have z5 := Blk.new w4 56 #[.int .i64 0, .int .i64 0, .int .i64 0, .int .i64 0, .int .i64 0, .string ⟨#[]⟩, .string ⟨#[]⟩, .string ⟨#[]⟩, .string ⟨#[]⟩, .int .i64 0, .string ⟨#[]⟩, .string ⟨#[]⟩, .string ⟨#[]⟩, .string ⟨#[]⟩, .string ⟨#[]⟩, .bool false, .int .i64 0, .string ⟨#[]⟩, .string ⟨#[]⟩, .bool false]
              have B5 := B4.alloc B4.size (.cells #[.int .i64 0, .int .i64 0, .int .i64 0, .int .i64 0, .int .i64 0, .string ⟨#[]⟩, .string ⟨#[]⟩, .string ⟨#[]⟩, .string ⟨#[]⟩, .int .i64 0, .string ⟨#[]⟩, .string ⟨#[]⟩, .string ⟨#[]⟩, .string ⟨#[]⟩, .string ⟨#[]⟩, .bool false, .int .i64 0, .string ⟨#[]⟩, .string ⟨#[]⟩, .bool false] 56)
              have hge := B4.size
              go_wp2_with fail
              obtain ⟨g, hgg⟩ : ∃ g, w4.heap.size = g := ⟨_, rfl⟩
              rw [hgg] at z5 hge
              try simp only [hgg]
              generalize w4.alloc (.cells #[.int .i64 0, .int .i64 0, .int .i64 0, .int .i64 0, .int .i64 0, .string ⟨#[]⟩, .string ⟨#[]⟩, .string ⟨#[]⟩, .string ⟨#[]⟩, .int .i64 0, .string ⟨#[]⟩, .string ⟨#[]⟩, .string ⟨#[]⟩, .string ⟨#[]⟩, .string ⟨#[]⟩, .bool false, .int .i64 0, .string ⟨#[]⟩, .string ⟨#[]⟩, .bool false] 56) = w5 at *
              clear hgg
              refine ⟨⟨H2.out.below B5, KS2.out.below B5 KS2.out.lt⟩, ?_⟩
              refine ats_one 15 (by kernel_rfl) ?_
              simp only [pick, List.drop_succ_cons, List.drop_zero, List.head?_cons, Option.toList_some, List.append_nil]
              refine wpList_store_row rfl 56 (.tmp 8) (.tmp 43) rfl g CX rfl rfl _ _ z5 (by rw [HCS.out]; kernel_rfl) HCZ.out HC1.out ?_
              have zf := blk_setRow (C := CX) z5
              have BF := below_setRow (g := g) CX B5 hge
              go_wp2_with fail
              refine ⟨⟨H2.out.below BF, KS2.out.below BF KS2.out.lt⟩, ?_⟩
              refine ats_one 16 (by kernel_rfl) ?_
              simp only [pick, List.drop_succ_cons, List.drop_zero, List.head?_cons, Option.toList_some, List.append_nil]
              go_wp2_with fail
              refine ⟨⟨H2.out.below BF, KS2.out.below BF KS2.out.lt⟩, ?_⟩
              refine ats_end (by kernel_rfl) ?_
              go_wp2_with fail
              go_meet
              exact ⟨g, rfl, zf, BF⟩
            · simp only [pick, List.drop_succ_cons, List.drop_zero, List.head?_cons, Option.toList_some, List.append_nil]
              have z4 := Blk.new w3 56 #[.int .i64 0, .int .i64 0, .int .i64 0, .int .i64 0, .int .i64 0, .string ⟨#[]⟩, .string ⟨#[]⟩, .string ⟨#[]⟩, .string ⟨#[]⟩, .int .i64 0, .string ⟨#[]⟩, .string ⟨#[]⟩, .string ⟨#[]⟩, .string ⟨#[]⟩, .string ⟨#[]⟩, .bool false, .int .i64 0, .string ⟨#[]⟩, .string ⟨#[]⟩, .bool false]
              have B4 := B3.alloc B3.size (.cells #[.int .i64 0, .int .i64 0, .int .i64 0, .int .i64 0, .int .i64 0, .string ⟨#[]⟩, .string ⟨#[]⟩, .string ⟨#[]⟩, .string ⟨#[]⟩, .int .i64 0, .string ⟨#[]⟩, .string ⟨#[]⟩, .string ⟨#[]⟩, .string ⟨#[]⟩, .string ⟨#[]⟩, .bool false, .int .i64 0, .string ⟨#[]⟩, .string ⟨#[]⟩, .bool false] 56)
              replace own := own.below (below_self_alloc _ (.cells #[.int .i64 0, .int .i64 0, .int .i64 0, .int .i64 0, .int .i64 0, .string ⟨#[]⟩, .string ⟨#[]⟩, .string ⟨#[]⟩, .string ⟨#[]⟩, .int .i64 0, .string ⟨#[]⟩, .string ⟨#[]⟩, .string ⟨#[]⟩, .string ⟨#[]⟩, .string ⟨#[]⟩, .bool false, .int .i64 0, .string ⟨#[]⟩, .string ⟨#[]⟩, .bool false] 56))
              have hge := B3.size
              go_wp2_with fail
              obtain ⟨g, hgg⟩ : ∃ g, w3.heap.size = g := ⟨_, rfl⟩
              rw [hgg] at z4 hge
              try simp only [hgg]
              generalize w3.alloc (.cells #[.int .i64 0, .int .i64 0, .int .i64 0, .int .i64 0, .int .i64 0, .string ⟨#[]⟩, .string ⟨#[]⟩, .string ⟨#[]⟩, .string ⟨#[]⟩, .int .i64 0, .string ⟨#[]⟩, .string ⟨#[]⟩, .string ⟨#[]⟩, .string ⟨#[]⟩, .string ⟨#[]⟩, .bool false, .int .i64 0, .string ⟨#[]⟩, .string ⟨#[]⟩, .bool false] 56) = w4 at *
              clear hgg
              refine ⟨⟨H2.out.below B4, KS2.out.below B4 KS2.out.lt⟩, ?_⟩
              refine ats_one 10 (by kernel_rfl) ?_
              simp only [pick, List.drop_succ_cons, List.drop_zero, List.head?_cons, Option.toList_some, List.append_nil]
              go_wp2_with fail
              refine (HFND.out _ _ _ own).mono ?_
              rintro e w5 ⟨rfl, b5⟩
              have B5 := B4.trans (b5.mono B4.size)
              have z5 := z4.below b5 z4.lt
              try go_wp2_with fail
              refine ⟨⟨H2.out.below B5, KS2.out.below B5 KS2.out.lt⟩, ?_⟩
              refine ats_take [11, 12, 13] 2 rfl (by kernel_rfl) ⟨H2.out.below B5, KS2.out.below B5 KS2.out.lt⟩ ?_
              simp only [pick, List.drop_succ_cons, List.drop_zero, List.head?_cons, Option.toList_some, List.cons_append, List.nil_append, List.append_nil]
              repeat ((refine wpHeld_step ?_ rfl ?_ ?_; rotate_left; · (intro W hW; (go_simp; try with_reducible rfl))); simp only [Act.put, List.setIfInBounds_toArray, List.set_cons_succ, List.set_cons_zero])
              refine wpHeld_nil ?_
              refine ats_one 15 (by kernel_rfl) ?_
              simp only [pick, List.drop_succ_cons, List.drop_zero, List.head?_cons, Option.toList_some, List.append_nil]
              refine wpList_store_row rfl 56 (.tmp 8) (.tmp 43) rfl g CX rfl rfl _ _ z5 (by rw [HCS.out]; kernel_rfl) HCZ.out HC1.out ?_
              have zf := blk_setRow (C := CX) z5
              have BF := below_setRow (g := g) CX B5 hge
              go_wp2_with fail
              refine ⟨⟨H2.out.below BF, KS2.out.below BF KS2.out.lt⟩, ?_⟩
              refine ats_one 16 (by kernel_rfl) ?_
              simp only [pick, List.drop_succ_cons, List.drop_zero, List.head?_cons, Option.toList_some, List.append_nil]
              go_wp2_with fail
              refine ⟨⟨H2.out.below BF, KS2.out.below BF KS2.out.lt⟩, ?_⟩
              refine ats_end (by kernel_rfl) ?_
              go_wp2_with fail
              go_meet
              exact ⟨g, rfl, zf, BF⟩
          · simp only [pick, List.drop_succ_cons, List.drop_zero, List.head?_cons, Option.toList_some, List.append_nil]
            have z3 := Blk.new w2d 56 #[.int .i64 0, .int .i64 0, .int .i64 0, .int .i64 0, .int .i64 0, .string ⟨#[]⟩, .string ⟨#[]⟩, .string ⟨#[]⟩, .string ⟨#[]⟩, .int .i64 0, .string ⟨#[]⟩, .string ⟨#[]⟩, .string ⟨#[]⟩, .string ⟨#[]⟩, .string ⟨#[]⟩, .bool false, .int .i64 0, .string ⟨#[]⟩, .string ⟨#[]⟩, .bool false]
            have B3 := B2.alloc B2.size (.cells #[.int .i64 0, .int .i64 0, .int .i64 0, .int .i64 0, .int .i64 0, .string ⟨#[]⟩, .string ⟨#[]⟩, .string ⟨#[]⟩, .string ⟨#[]⟩, .int .i64 0, .string ⟨#[]⟩, .string ⟨#[]⟩, .string ⟨#[]⟩, .string ⟨#[]⟩, .string ⟨#[]⟩, .bool false, .int .i64 0, .string ⟨#[]⟩, .string ⟨#[]⟩, .bool false] 56)
            have hge := B2.size
            go_wp2_with fail
            obtain ⟨g, hgg⟩ : ∃ g, w2d.heap.size = g := ⟨_, rfl⟩
            rw [hgg] at z3 hge
            try simp only [hgg]
            generalize w2d.alloc (.cells #[.int .i64 0, .int .i64 0, .int .i64 0, .int .i64 0, .int .i64 0, .string ⟨#[]⟩, .string ⟨#[]⟩, .string ⟨#[]⟩, .string ⟨#[]⟩, .int .i64 0, .string ⟨#[]⟩, .string ⟨#[]⟩, .string ⟨#[]⟩, .string ⟨#[]⟩, .string ⟨#[]⟩, .bool false, .int .i64 0, .string ⟨#[]⟩, .string ⟨#[]⟩, .bool false] 56) = w3 at *
            clear hgg
            refine ⟨⟨H2.out.below B3, KS2.out.below B3 KS2.out.lt⟩, ?_⟩
            refine ats_one 8 (by kernel_rfl) ?_
            simp only [pick, List.drop_succ_cons, List.drop_zero, List.head?_cons, Option.toList_some, List.append_nil]
            go_wp2_with fail
            refine (HLST.out _ (H2.out.below B3)).mono ?_
            rintro e w4 ⟨v, rfl, own, b4⟩
            have B4 := B3.trans (b4.mono B3.size)
            have z4 := z3.below b4 z3.lt
            try go_wp2_with fail
            refine ⟨⟨H2.out.below B4, KS2.out.below B4 KS2.out.lt⟩, ?_⟩
            refine ats_one 10 (by kernel_rfl) ?_
            simp only [pick, List.drop_succ_cons, List.drop_zero, List.head?_cons, Option.toList_some, List.append_nil]
            go_wp2_with fail
            refine (HFND.out _ _ _ own).mono ?_
            rintro e w5 ⟨rfl, b5⟩
            have B5 := B4.trans (b5.mono B4.size)
            have z5 := z4.below b5 z4.lt
            try go_wp2_with fail
            refine ⟨⟨H2.out.below B5, KS2.out.below B5 KS2.out.lt⟩, ?_⟩
            refine ats_take [11, 12, 13] 2 rfl (by kernel_rfl) ⟨H2.out.below B5, KS2.out.below B5 KS2.out.lt⟩ ?_
            simp only [pick, List.drop_succ_cons, List.drop_zero, List.head?_cons, Option.toList_some, List.cons_append, List.nil_append, List.append_nil]
            repeat ((refine wpHeld_step ?_ rfl ?_ ?_; rotate_left; · (intro W hW; (go_simp; try with_reducible rfl))); simp only [Act.put, List.setIfInBounds_toArray, List.set_cons_succ, List.set_cons_zero])
            refine wpHeld_nil ?_
            refine ats_one 15 (by kernel_rfl) ?_
            simp only [pick, List.drop_succ_cons, List.drop_zero, List.head?_cons, Option.toList_some, List.append_nil]
            refine wpList_store_row rfl 56 (.tmp 8) (.tmp 43) rfl g CX rfl rfl _ _ z5 (by rw [HCS.out]; kernel_rfl) HCZ.out HC1.out ?_
            have zf := blk_setRow (C := CX) z5
            have BF := below_setRow (g := g) CX B5 hge
            go_wp2_with fail
            refine ⟨⟨H2.out.below BF, KS2.out.below BF KS2.out.lt⟩, ?_⟩
            refine ats_one 16 (by kernel_rfl) ?_
            simp only [pick, List.drop_succ_cons, List.drop_zero, List.head?_cons, Option.toList_some, List.append_nil]
            go_wp2_with fail
            refine ⟨⟨H2.out.below BF, KS2.out.below BF KS2.out.lt⟩, ?_⟩
            refine ats_end (by kernel_rfl) ?_
            go_wp2_with fail
            go_meet
            exact ⟨g, rfl, zf, BF⟩
        case rest =>
          obtain ⟨g, rfl, zf, BF⟩ := hcut
          have HZF := Lib.hid zf
          have HBF := Lib.hid BF
          clear zf BF
          go_wp2_with (first | (refine wpList_val rfl rfl (.agg CX) (exec_load_blk (x := .tmp 8) rfl rfl HCS.out HZF.out) ?_) | (go_at_call 48; refine (HT.out _ (H2.out.below HBF.out)).mono ?_; rintro e w3 ⟨⟨r, rfl⟩, V', h3, t3⟩))
          go_ret
          exact ⟨rfl, V', h3, (Turn.of_below HB.out.drew).trans ((Turn.page HK.out O2.out).trans ((Turn.of_below HBF.out).trans t3))⟩
    · have hr : withdrawS C k (a, b) = (C, 12) := if_pos ha
      rw [hr]
      have hne : (a != (k : Int)) = true := by simpa using ha
      have H := Lib.hid h0
      have HB := Lib.hid hb
      clear hE hr hI h hg hl hi hk ha h0 hb kS
      go_enter Try.func31, Try.ntmps31
      go_wp2_with (go_at_call 39; refine HI.out.mono ?_; rintro e w1 ⟨rfl, rfl⟩)
      go_wp2_with fail
      go_ret
      exact ⟨rfl, V, H.out, Turn.of_below HB.out⟩
  · rw [decide_eq_false hi] at hI
    rw [show withdrawI n C i (a, b) = (C, 1) from if_neg hi]
    have HI := Lib.hid hI
    have H := Lib.hid h0
    have HB := Lib.hid hb
    clear hI h hg hl hi h0 hb kS
    go_enter Try.func31, Try.ntmps31
    go_wp2_with (go_at_call 39; refine HI.out.mono ?_; rintro e w1 ⟨rfl, rfl⟩)
    go_ret
    exact ⟨rfl, V, H.out, Turn.of_below HB.out⟩
end Go.Proofs.Ytaicbllfkehhjaa

/- Propose. -/
namespace Go.Proofs.Ytaicbllfkehhjaa
open Go.RowKit

theorem exec_load_pt {ev : Operand → Value} {o : Oper} {W : World} {x : Operand} (ho : o.op = .load 37 x) {g : Nat} (hx : ev x = .pointer (some ⟨g, 0, none⟩)) {cs : Array Value} (hs : cs.size = 15) (hb : Blk W g 37 cs) :
    (execOp ev o).run Try.prog W = .ok (.value (.agg cs)) W := by
  have := run_loadVar_row (P := Try.prog) W g 37 37 cs (0, 0) _ hb Try.underlying37 rfl (by rw [hs]; kernel_rfl)
  unfold execOp
  simp only [ho, hx, Instr.loadAt, Instr.sureAddr, Sem.run_bind, Sem.run_pure, Result.andThen_ok, this]
theorem ne_of_ty {w : World} {g g' : Nat} {t t' : TypeId} {cs cs' : Array Value} (h : Blk w g t cs) (k : Blk w g' t' cs') (ht : t ≠ t') : g ≠ g' := fun e => by
  subst e
  unfold Blk at h k
  rw [h] at k
  injection k with k
  injection k with _ k
  exact ht k
theorem ne_of_map {w : World} {g b : Nat} {t : TypeId} {cs : Array Value} {L : List (Value × Value)} (k : MapV w b L) (h : Blk w g t cs) : b ≠ g := fun e => by
  subst e
  obtain ⟨es, c, h1, _⟩ := k
  unfold Blk at h
  rw [h1] at h
  cases h
/-- A stamp laid into a variable beside the chamber. -/
theorem ChAt.farSt {w w' : World} {y : Lay} {V : Nat → Nat → Value} {n : Nat} {C : Ch} (h : ChAt w y V n C) {r : Nat} {cs : Array Value} (hb : Blk w r 33 cs) (o : Only (fun g => g = r) w w') : ChAt w' y V n C where
  len := h.len
  pos := h.pos
  max := h.max
  blk := o.blk h.blk (ne_of_ty h.blk hb (by decide))
  sts := o.blk h.sts (ne_of_ty h.sts hb (by decide))
  cap := h.cap
  st := h.st
  map := h.map.only o (ne_of_map h.map hb)
  key := h.key
  mem := h.mem
  pgs := fun i hi => by
    obtain ⟨L', hm, _⟩ := (h.pgs i hi).map
    exact (h.pgs i hi).only o (ne_of_ty (h.pgs i hi).blk hb (by decide)) (ne_of_map hm hb)
  ques := fun i k hi hk hne => by
    obtain ⟨h1, vs, h2, h3, h4⟩ := h.ques i k hi hk hne
    exact ⟨o.blk h1 (ne_of_ty h1 hb (by decide)), vs, h2.only o (fun g hg e => h2.ne_blk hb (by decide) (by rw [hg, e])), h3, fun j x m hx hm => o.owns (h4 j x m hx hm) fun g hg e => (h4 j x m hx hm).ne_blk hb (by decide) (by rw [hg, e])⟩
  injM := h.injM
  nemb := h.nemb
  injQ := h.injQ
  injV := h.injV
theorem Turn.st {w0 w w' : World} {y : Lay} {V V' : Nat → Nat → Value} {n : Nat} (h : Turn w0 w y V V' n) {r : Nat} (hr : w0.heap.size ≤ r) (o : Only (fun g => g = r) w w') : Turn w0 w' y V V' n := ⟨h.1.trans o fun _ e => .inr (e ▸ hr), h.2⟩
theorem only_two (w : World) (r : Nat) (u v : Value) : Only (fun g => g = r) w ((w.setCell ⟨r, 0, none⟩ u).setCell ⟨r, 1, none⟩ v) := ((Only.refl (fun g => g = r) w).setCell (p := ⟨r, 0, none⟩) (.inl rfl) u).setCell (p := ⟨r, 1, none⟩) (.inl rfl) v
def proposeI (n : Nat) (C : Ch) (i : Int) (t : St2) (p : Pt) : Ch × St2 × Int := if 0 ≤ i ∧ i < (n : Int) then proposeS C i.toNat t p else (C, z2, 1)
theorem cntS_step {l : List Cl} {j : Nat} {c : Cl} (h : l[j]? = some c) : cntS (l.take (j + 1)) = max (cntS (l.take j)) (c.id.2 + 1) := by
  unfold cntS
  rw [List.take_add_one, h]
  simp [List.foldl_append]
/-- The clause while its count is sought. -/
def cand (k : Nat) (c : Int) (t : St2) (p : Pt) : Cl := ⟨((k : Int), c), t, p, false⟩

set_option maxRecDepth 100000 in
set_option maxHeartbeats 1000000 in
theorem propose_any (w : World) (y : Lay) (V : Nat → Nat → Value) (n : Nat) (C : Ch) (h : ChAt w y V n C) (hg : Sane n C) (hl : ∀ i k, (C.lines i k).length ≤ 900000) (i a b : Int) (p : Pt) :
    Calls Try.prog 29 #[.pointer (some ⟨y.p, 0, none⟩), .int .i64 i, .agg #[.int .i64 a, .int .i64 b], .agg (ptA p)] w fun e w' =>
      e = .returned (.tuple #[.agg #[.int .i64 (proposeI n C i (a, b) p).2.1.1, .int .i64 (proposeI n C i (a, b) p).2.1.2], .int .i64 (proposeI n C i (a, b) p).2.2]) ∧ ∃ V', ChAt w' y V' n (proposeI n C i (a, b) p).1 ∧ Turn w w' y V V' n := by
  have hI := fun W (hW : ChAt W y V n C) => is_any W y.p n y.cap _ _ hW.blk i
  have hmax := h.max
  have hcap := h.cap
  have hlen := h.len
  obtain ⟨q, hq⟩ : ∃ q, w.heap.size = q := ⟨_, rfl⟩
  have hb0 : Below q w (((w.alloc (.cells #[.int .i64 a, .int .i64 b] 33)).alloc (.cells (ptA p) 37)).alloc (.cells #[.int .i64 0, .int .i64 0] 33)) := by
    subst hq
    exact (((Below.refl _ w).alloc (Nat.le_refl _) _).alloc (by simp) _).alloc (by simp; omega) _
  have kS : Blk (((w.alloc (.cells #[.int .i64 a, .int .i64 b] 33)).alloc (.cells (ptA p) 37)).alloc (.cells #[.int .i64 0, .int .i64 0] 33)) q 33 #[.int .i64 a, .int .i64 b] := by
    subst hq
    exact ((Blk.new w _ _).alloc _).alloc _
  have kP : Blk (((w.alloc (.cells #[.int .i64 a, .int .i64 b] 33)).alloc (.cells (ptA p) 37)).alloc (.cells #[.int .i64 0, .int .i64 0] 33)) (q + 1) 37 (ptA p) := by
    subst hq
    exact (Blk.new1 w _ _ _).alloc _
  have kR : Blk (((w.alloc (.cells #[.int .i64 a, .int .i64 b] 33)).alloc (.cells (ptA p) 37)).alloc (.cells #[.int .i64 0, .int .i64 0] 33)) (q + 1 + 1) 33 #[.int .i64 0, .int .i64 0] := by
    subst hq
    have := Blk.new ((w.alloc (.cells #[.int .i64 a, .int .i64 b] 33)).alloc (.cells (ptA p) 37)) 33 #[.int .i64 0, .int .i64 0]
    simpa using this
  have H0 := Lib.hid (h.below (hq ▸ hb0))
  have HB0 := Lib.hid (hq ▸ hb0 : Below w.heap.size w _)
  have HI := Lib.hid (hI _ H0.out)
  have kR4 := kR.all
  obtain ⟨r0, rf, rl⟩ := kR4
  by_cases hi : 0 ≤ i ∧ i < (n : Int)
  · obtain ⟨k, rfl⟩ := Int.eq_ofNat_of_zero_le hi.1
    have hk : k < n := by omega
    have hE : proposeI n C (k : Int) (a, b) p = proposeS C k (a, b) p := by unfold proposeI; rw [if_pos hi, Int.toNat_natCast]
    rw [decide_eq_true hi] at HI
    rw [hE]
    obtain ⟨R, hR⟩ : ∃ R, proposeS C k (a, b) p = R := ⟨_, rfl⟩
    rw [hR]
    unfold proposeS at hR
    obtain ⟨L, hL⟩ : ∃ L, C.pg k = L := ⟨_, rfl⟩
    rw [hL] at hR
    have hi0 : (0 : Int) ≤ (k : Int) := hi.1
    have hi1 : (k : Int) < (n : Int) := hi.2
    have hpg : Pg L := hL ▸ (hg k hk).1
    have hpl : L.length ≤ 100000 := hL ▸ (hg k hk).2
    have HLST := Lib.hid (show ∀ W, ChAt W y V n C → Calls Try.prog 40 #[.pointer (some ⟨y.P k, 0, none⟩)] W fun e w' => ∃ v, e = .returned v ∧ OwnCls w' W.heap.size v (walkS L) ∧ Below W.heap.size W w' from fun W hW => by
      have := list_any W _ _ _ (hW.pgs k hk) (hL ▸ hpg.tr) (hL ▸ pg_bound hpg) (by rw [hL]; omega)
      rwa [hL] at this)
    obtain ⟨N, hN⟩ : ∃ N, (walkS L).length = N := ⟨_, rfl⟩
    have hNl : N ≤ 100000 := by rw [← hN, (walk_perm hpg.tr).length_eq]; exact hpl
    have HFND := Lib.hid (show ∀ (W : World) (B : Nat) (v : Value), OwnCls W B v (walkS L) → Calls Try.prog 47 #[v, .agg #[.int .i64 a, .int .i64 b]] W fun e w' => e = .returned (.tuple #[.agg (clA ((getC (walkS L) (a, b)).getD zcl)), .bool (getC (walkS L) (a, b)).isSome]) ∧ Below W.heap.size W w' from fun W B v hv =>
      find_any W B v _ hv (walk_uq hpg.tr) (by omega) (a, b))
    obtain ⟨K1, hK1⟩ : ∃ K, clA ((getC (walkS L) (a, b)).getD zcl) = K := ⟨_, rfl⟩
    have hKs : K1.size = 20 := by rw [← hK1]; rfl
    have hK1o : K1.all (·.oneCell') = true := by rw [← hK1]; exact clA_one _
    rw [hK1] at HFND
    obtain ⟨T, hT⟩ : ∃ T, (getC (walkS L) (a, b)).isSome = T := ⟨_, rfl⟩
    rw [hT] at HFND
    have HR := Lib.hid hR
    have HK := Lib.hid hk
    have HG := Lib.hid hg
    have HLL := Lib.hid hl
    have HLEN := Lib.hid hlen
    have HL := Lib.hid hL
    have HPG := Lib.hid hpg
    have HN := Lib.hid hN
    have HTT := Lib.hid hT
    have HKS := Lib.hid hKs
    have HK1 := Lib.hid hK1o
    have KS := Lib.hid kS
    have KP := Lib.hid kP
    have KR := Lib.hid kR
    obtain ⟨c0, c1⟩ := H0.out.cells
    obtain ⟨s0, s1⟩ := H0.out.seat hk
    have t0 := KS.out.cell 0
    have t1 := KS.out.cell 1
    clear h hg hl hb0 kS kP hI hi kR hE hR hL hpg hpl hN hT hKs hK1 hk hlen hK1o
    go_enter Try.func29, Try.ntmps29
    go_upto_region 4 with (first | (go_at_call 39; refine HI.out.mono ?_; rintro e w1 ⟨rfl, rfl⟩) | (go_at_call 40; refine (HLST.out _ H0.out).mono ?_; rintro e w1 ⟨v, rfl, hv, b1⟩))
    generalize (((w.alloc (.cells #[.int .i64 a, .int .i64 b] 33)).alloc (.cells (ptA p) 37)).alloc (.cells #[.int .i64 0, .int .i64 0] 33)) = W0 at *
    have HV1 := Lib.hid hv
    have B1 := Lib.hid b1
    clear hv b1 c0 c1 s0 s1 t0 t1 r0 rf rl
    have t0 : w1.cell? ⟨q, 0, none⟩ = some (.int .i64 a) := (KS.out.below B1.out KS.out.lt).cell 0
    have t1 : w1.cell? ⟨q, 1, none⟩ = some (.int .i64 b) := (KS.out.below B1.out KS.out.lt).cell 1
    go_upto_region 5 with (first | (go_at_call 47; refine (HFND.out _ _ _ HV1.out).mono ?_; rintro e w2 ⟨rfl, b2⟩) | (refine wpList_store_row rfl 56 (.tmp 11) (.tmp 35) rfl w2.heap.size K1 rfl rfl _ _ (Blk.new w2 56 #[.int .i64 0, .int .i64 0, .int .i64 0, .int .i64 0, .int .i64 0, .string ⟨#[]⟩, .string ⟨#[]⟩, .string ⟨#[]⟩, .string ⟨#[]⟩, .int .i64 0, .string ⟨#[]⟩, .string ⟨#[]⟩, .string ⟨#[]⟩, .string ⟨#[]⟩, .string ⟨#[]⟩, .bool false, .int .i64 0, .string ⟨#[]⟩, .string ⟨#[]⟩, .bool false]) (by rw [HKS.out]; kernel_rfl) (by rw [HKS.out]; rfl) HK1.out ?_))
    have B3 := Lib.hid (below_setRow (g := w2.heap.size) K1 ((B1.out.trans (b2.mono B1.out.size)).alloc (Nat.le_trans B1.out.size b2.size) (.cells #[.int .i64 0, .int .i64 0, .int .i64 0, .int .i64 0, .int .i64 0, .string ⟨#[]⟩, .string ⟨#[]⟩, .string ⟨#[]⟩, .string ⟨#[]⟩, .int .i64 0, .string ⟨#[]⟩, .string ⟨#[]⟩, .string ⟨#[]⟩, .string ⟨#[]⟩, .string ⟨#[]⟩, .bool false, .int .i64 0, .string ⟨#[]⟩, .string ⟨#[]⟩, .bool false] 56)) (Nat.le_trans B1.out.size b2.size))
    have HV3 := Lib.hid ((HV1.out.below b2).below (below_setRow (g := w2.heap.size) K1 (below_self_alloc w2 (.cells #[.int .i64 0, .int .i64 0, .int .i64 0, .int .i64 0, .int .i64 0, .string ⟨#[]⟩, .string ⟨#[]⟩, .string ⟨#[]⟩, .string ⟨#[]⟩, .int .i64 0, .string ⟨#[]⟩, .string ⟨#[]⟩, .string ⟨#[]⟩, .string ⟨#[]⟩, .string ⟨#[]⟩, .bool false, .int .i64 0, .string ⟨#[]⟩, .string ⟨#[]⟩, .bool false] 56)) (Nat.le_refl _)))
    clear t0 t1 b2 HV1 B1
    generalize (w2.alloc (.cells #[.int .i64 0, .int .i64 0, .int .i64 0, .int .i64 0, .int .i64 0, .string ⟨#[]⟩, .string ⟨#[]⟩, .string ⟨#[]⟩, .string ⟨#[]⟩, .int .i64 0, .string ⟨#[]⟩, .string ⟨#[]⟩, .string ⟨#[]⟩, .string ⟨#[]⟩, .string ⟨#[]⟩, .bool false, .int .i64 0, .string ⟨#[]⟩, .string ⟨#[]⟩, .bool false] 56)).setRow w2.heap.size K1 = w3 at *
    have t0 : w3.cell? ⟨q, 0, none⟩ = some (.int .i64 a) := (KS.out.below B3.out KS.out.lt).cell 0
    have t1 : w3.cell? ⟨q, 1, none⟩ = some (.int .i64 b) := (KS.out.below B3.out KS.out.lt).cell 1
    have hez : ∀ W : World, (Op.equalIn 10000 33 (.agg #[.int .i64 a, .int .i64 b]) (.agg #[.int .i64 0, .int .i64 0])).run Try.prog W = .ok (decide ((a, b) = z2)) W := eq_st (a, b) z2
    obtain ⟨Z, hZ⟩ : ∃ Z, decide ((a, b) = z2) = Z := ⟨_, rfl⟩
    rw [hZ] at hez
    have HZ := Lib.hid hZ
    clear hZ
    go_cut [43] from 37 to 42 (fun v43 wx => v43 = .bool (!T && !Z) ∧ wx = w3)
    case first =>
      cases T with
      | true =>
        go_wp2_with fail
        go_meet
        exact ⟨rfl, rfl⟩
      | false =>
        go_wp2_with fail
        go_meet
        exact ⟨by simp, rfl⟩
    case rest =>
      obtain ⟨rfl, rfl⟩ := hcut
      have hx3 := HV3.out.form
      obtain ⟨A, xc, hve, hcls⟩ := hx3
      subst hve
      rw [HN.out]
      have HCL := Lib.hid hcls
      clear hcls t0 t1 hez HV3
      have t0 : wc.cell? ⟨q, 0, none⟩ = some (.int .i64 a) := (KS.out.below B3.out KS.out.lt).cell 0
      have t1 : wc.cell? ⟨q, 1, none⟩ = some (.int .i64 b) := (KS.out.below B3.out KS.out.lt).cell 1
      have kRc := (KR.out.below B3.out KR.out.lt)
      have kRa := kRc.all
      obtain ⟨r0, rf, rl⟩ := kRa
      by_cases hTZ : (!T && !Z) = true
      · have h1 : T = false ∧ Z = false := by simpa using hTZ
        have h2 : (a, b) ≠ z2 := fun e => by
          have := HZ.out
          rw [decide_eq_true e, h1.2] at this
          cases this
        have h3 : getC (walkS L) (a, b) = none := by
          have := HTT.out
          rw [h1.1] at this
          simpa using this
        obtain rfl : R = (C, z2, 11) := by rw [← HR.out, if_pos ⟨h2, h3⟩]
        rw [hTZ]
        have HKRC := Lib.hid kRc
        clear h1 h2 h3 hTZ kRc HR HLST HFND HCL
        have kR2 := (HKRC.out.set_ 0 (.int .i64 0)).set_ 1 (.int .i64 0)
        go_wp2_with fail
        have hlv := run_loadVar_row (P := Try.prog) _ _ 33 33 _ (0, 0) _ kR2 Try.underlying33 rfl (by kernel_rfl)
        refine bodyPost_ret (v := .tuple #[.agg #[.int .i64 0, .int .i64 0], .int .i64 11]) (by simp [results, Try.results29, asAddr, hlv]) rfl ⟨rfl, V, ?_, ?_⟩
        · exact (H0.out.below B3.out).farSt HKRC.out (only_two _ _ _ _)
        · exact ((Turn.of_below HB0.out).trans (Turn.of_below B3.out)).st (by omega) (only_two _ _ _ _)
      · have h1 : T = true ∨ Z = true := by
          cases T <;> cases Z <;> simp_all
        have h2 : ¬ ((a, b) ≠ z2 ∧ getC (walkS L) (a, b) = none) := fun ⟨e, e2⟩ => by
          rcases h1 with h1 | h1
          · have := HTT.out
            rw [e2, h1] at this
            cases this
          · have := HZ.out
            rw [h1] at this
            exact e (of_decide_eq_true this)
        have hR := HR.out
        rw [if_neg h2] at hR
        have HR2' := Lib.hid hR
        have hTZf : (!T && !Z) = false := by simpa using hTZ
        rw [hTZf]
        have kPc := Lib.hid (KP.out.below B3.out KP.out.lt)
        have HKRC := Lib.hid kRc
        clear h1 h2 hTZ hTZf HR hR HLST HFND kRc r0 rf rl HTT HZ
        go_upto_region 7 with fail
        refine wp_region_lit ?_
        iterate 3 ((refine wpList_val rfl rfl ?_ ?_ ?_; rotate_left; · (go_simp; with_reducible rfl)); simp only [Act.put, List.setIfInBounds_toArray, List.set_cons_succ, List.set_cons_zero])
        refine wpList_val rfl rfl (.agg (ptA p)) (exec_load_pt (x := .tmp 7) rfl rfl rfl kPc.out) ?_
        simp only [Act.put, List.setIfInBounds_toArray, List.set_cons_succ, List.set_cons_zero]
        refine wpList_buildTo rfl 56 _ rfl (some 49) rfl (clA (cand k 1 (a, b) p)) (by kernel_rfl) ?_
        simp only [Act.put, List.setIfInBounds_toArray, List.set_cons_succ, List.set_cons_zero]
        have hpc := put_cl wc (cand k 1 (a, b) p)
        have hcz := clA_size (cand k 1 (a, b) p)
        have kX := Lib.hid (Blk.new wc 56 (clA (cand k 1 (a, b) p)))
        have BX := Lib.hid (below_self_alloc wc (.cells (clA (cand k 1 (a, b) p)) 56))
        go_upto_region 8 with fail
        clear hpc hcz
        generalize wc.alloc (.cells (clA (cand k 1 (a, b) p)) 56) = wX at *
        obtain ⟨g, hgg⟩ : ∃ g, wc.heap.size = g := ⟨_, rfl⟩
        rw [hgg] at kX BX HCL ⊢
        go_wp2_with fail
        go_loopw [52] (fun i wr => ∃ j : Nat, j ≤ N ∧ i = .int .i64 (j : Int) ∧ Hid (Blk wr g 56 (clA (cand k (cntS ((walkS L).take j)) (a, b) p))) ∧ Hid (Below g wc wr)) (fun i _ => N - (intOf i).toNat)
        case atStart => exact ⟨0, Nat.zero_le _, rfl, kX, BX⟩
        case round =>
          obtain ⟨j, hjN, rfl, HR1, HR2⟩ := hrel
          clear kX BX
          by_cases hlt : j < N
          · obtain ⟨c, hc⟩ : ∃ c, (walkS L)[j]? = some c := ⟨_, List.getElem?_eq_getElem (by rw [HN.out]; exact hlt)⟩
            obtain ⟨g', off, rfl, -, -⟩ := HCL.out j c hc
            have HC := Lib.hid hc
            have HCr := Lib.hid (HCL.out.below HR2.out)
            have hj0 : (0 : Int) ≤ (j : Int) := by omega
            have hj1 : (j : Int) < (N : Int) := by omega
            have hcb : 1 ≤ c.id.2 ∧ c.id.2 ≤ 1000000 := by
              have h1 := (properC_iff.1 (HPG.out.proper c ((walk_perm HPG.out.tr).mem_iff.1 (List.mem_of_getElem? hc)))).1
              omega
            obtain ⟨hcb1, hcb2⟩ := hcb
            clear hc
            go_upto_region 11 with (first | (refine wpList_val rfl rfl (.agg (clA c)) (exec_load_at (x := .tmp 54) rfl rfl HCr.out rfl HC.out) ?_) | (refine wpList_store_row rfl 56 (.tmp 15) (.tmp 55) rfl wr.heap.size (clA c) rfl rfl _ _ (Blk.new wr 56 #[.int .i64 0, .int .i64 0, .int .i64 0, .int .i64 0, .int .i64 0, .string ⟨#[]⟩, .string ⟨#[]⟩, .string ⟨#[]⟩, .string ⟨#[]⟩, .int .i64 0, .string ⟨#[]⟩, .string ⟨#[]⟩, .string ⟨#[]⟩, .string ⟨#[]⟩, .string ⟨#[]⟩, .bool false, .int .i64 0, .string ⟨#[]⟩, .string ⟨#[]⟩, .bool false]) (by kernel_rfl) rfl (clA_one c) ?_))
            have hbw := below_setRow (g := wr.heap.size) (clA c) (below_self_alloc wr (.cells #[.int .i64 0, .int .i64 0, .int .i64 0, .int .i64 0, .int .i64 0, .string ⟨#[]⟩, .string ⟨#[]⟩, .string ⟨#[]⟩, .string ⟨#[]⟩, .int .i64 0, .string ⟨#[]⟩, .string ⟨#[]⟩, .string ⟨#[]⟩, .string ⟨#[]⟩, .string ⟨#[]⟩, .bool false, .int .i64 0, .string ⟨#[]⟩, .string ⟨#[]⟩, .bool false] 56)) (Nat.le_refl _)
            have kc : Blk ((wr.alloc (.cells #[.int .i64 0, .int .i64 0, .int .i64 0, .int .i64 0, .int .i64 0, .string ⟨#[]⟩, .string ⟨#[]⟩, .string ⟨#[]⟩, .string ⟨#[]⟩, .int .i64 0, .string ⟨#[]⟩, .string ⟨#[]⟩, .string ⟨#[]⟩, .string ⟨#[]⟩, .string ⟨#[]⟩, .bool false, .int .i64 0, .string ⟨#[]⟩, .string ⟨#[]⟩, .bool false] 56)).setRow wr.heap.size (clA c)) wr.heap.size 56 (clA c) := blk_setRow (Blk.new wr _ #[.int .i64 0, .int .i64 0, .int .i64 0, .int .i64 0, .int .i64 0, .string ⟨#[]⟩, .string ⟨#[]⟩, .string ⟨#[]⟩, .string ⟨#[]⟩, .int .i64 0, .string ⟨#[]⟩, .string ⟨#[]⟩, .string ⟨#[]⟩, .string ⟨#[]⟩, .string ⟨#[]⟩, .bool false, .int .i64 0, .string ⟨#[]⟩, .string ⟨#[]⟩, .bool false])
            have kx := HR1.out.below hbw HR1.out.lt
            have hgl : g < wr.heap.size := HR1.out.lt
            have HBW := Lib.hid (HR2.out.trans (hbw.mono (Nat.le_of_lt hgl)))
            clear hbw
            generalize (wr.alloc (.cells #[.int .i64 0, .int .i64 0, .int .i64 0, .int .i64 0, .int .i64 0, .string ⟨#[]⟩, .string ⟨#[]⟩, .string ⟨#[]⟩, .string ⟨#[]⟩, .int .i64 0, .string ⟨#[]⟩, .string ⟨#[]⟩, .string ⟨#[]⟩, .string ⟨#[]⟩, .string ⟨#[]⟩, .bool false, .int .i64 0, .string ⟨#[]⟩, .string ⟨#[]⟩, .bool false] 56)).setRow wr.heap.size (clA c) = w4 at *
            generalize wr.heap.size = gc at *
            obtain ⟨X, hX⟩ : ∃ X, cntS ((walkS L).take j) = X := ⟨_, rfl⟩
            rw [hX] at kx
            have hstep := cntS_step HC.out
            rw [hX] at hstep
            have hone := cntS_one ((walkS L).take j)
            rw [hX] at hone
            have HSTEP := Lib.hid hstep
            have k1 : w4.cell? ⟨gc, 1, none⟩ = some (.int .i64 c.id.2) := kc.cell 1
            have x1 : w4.cell? ⟨g, 1, none⟩ = some (.int .i64 X) := kx.cell 1
            have f1 := kx.frozen 1
            have KXX := Lib.hid kx
            have hmx : ∀ (ts : Array TypeId) (t : TypeId) (W : World), (Builtin.max_ ts t #[.int .i64 X, .int .i64 (c.id.2 + 1)]).run Try.prog W = .ok (.int .i64 (max X (c.id.2 + 1))) W := run_max2 _ _ _ rfl
            clear kc kx hstep hX HR1 HR2
            go_wp2_with fail
            refine ⟨⟨j + 1, by omega, by go_num, Lib.hid ?_, Lib.hid (HBW.out.setCell (p := ⟨g, 1, none⟩) (Nat.le_refl _) _)⟩, by simp [intOf]; omega⟩
            rw [HSTEP.out]
            exact KXX.out.set_ 1 (.int .i64 (max X (c.id.2 + 1)))
          · obtain rfl : j = N := by omega
            have hk0 := HR1.out
            rw [← HN.out, List.take_length] at hk0
            have KX := Lib.hid (show Blk wr g 56 (clA (newC k L (a, b) p)) from hk0)
            have B5 := Lib.hid (B3.out.trans (HR2.out.mono (hgg ▸ B3.out.size)))
            have hR := HR2'.out
            clear hk0 HR1 HR2 HCL B3
            obtain ⟨M, hM⟩ : ∃ M, cntS (walkS L) = M := ⟨_, rfl⟩
            rw [hM] at hR
            have x1 : wr.cell? ⟨g, 1, none⟩ = some (.int .i64 M) := (KX.out.cell 1).trans (by rw [← hM]; rfl)
            have HKRR := Lib.hid (KR.out.below B5.out KR.out.lt)
            by_cases hgt : 1000000 < M
            · obtain rfl : R = (C, z2, 2) := by rw [← hR, if_pos hgt]
              clear hR HR2'
              have kR2 := (HKRR.out.set_ 0 (.int .i64 0)).set_ 1 (.int .i64 0)
              have kRa := HKRR.out.all
              obtain ⟨r0, rf, rl⟩ := kRa
              go_wp2_with fail
              have hlv := run_loadVar_row (P := Try.prog) _ _ 33 33 _ (0, 0) _ kR2 Try.underlying33 rfl (by kernel_rfl)
              refine bodyPost_ret (v := .tuple #[.agg #[.int .i64 0, .int .i64 0], .int .i64 2]) (by simp [results, Try.results29, asAddr, hlv]) rfl ⟨rfl, V, ?_, ?_⟩
              · exact (H0.out.below B5.out).farSt HKRR.out (only_two _ _ _ _)
              · exact ((Turn.of_below HB0.out).trans (Turn.of_below B5.out)).st (by omega) (only_two _ _ _ _)
            · rw [if_neg hgt] at hR
              have hP := fun W (hW : ChAt W y V n C) => hW.pput HK.out (HG.out k HK.out).1 (by have := (HG.out k HK.out).2; omega) (newC k L (a, b) p)
              rw [HL.out] at hP
              have hT := fun D W (hW : ChAt W y V n (C.upd k D)) => tell_any W y V n (C.upd k D) hW HLL.out k HK.out (newC k L (a, b) p)
              have hid : (newC k L (a, b) p).id = ((k : Int), M) := by rw [← hM]; rfl
              have hcz := clA_size (newC k L (a, b) p)
              obtain ⟨x, hx⟩ : ∃ x, newC k L (a, b) p = x := ⟨_, rfl⟩
              rw [hx] at hP hR hT hid hcz KX
              have hxid : (clA x)[0]? = some (.int .i64 (k : Int)) ∧ (clA x)[1]? = some (.int .i64 M) := by
                constructor
                · show some (Value.int .i64 x.id.1) = _
                  rw [hid]
                · show some (Value.int .i64 x.id.2) = _
                  rw [hid]
              obtain ⟨CX, hCX⟩ : ∃ X, clA x = X := ⟨_, rfl⟩
              rw [hCX] at hP hT hcz KX hxid
              have HCZ := Lib.hid hcz
              have HX := Lib.hid hxid
              have HT := Lib.hid hT
              have HPP := Lib.hid hP
              have H5 := Lib.hid (H0.out.below B5.out)
              clear hT hP hcz hxid hCX HR2' hx
              have HRR := Lib.hid hR
              clear hR
              go_upto_region 15 with fail
              clear x1
              refine wp_region_hold (fun W => ChAt W y V n C ∧ Blk W g 56 CX) [0, 1, 2, 3, 4, 5, 6, 7, 8] [] [9, 10] (by kernel_rfl) (by kernel_rfl) (fun _ d _ _ _ h => by cases d <;> exact h) (⟨H5.out.drewN 1, KX.out.drewN 1⟩) ?_
              simp only [pick, List.drop_succ_cons, List.drop_zero, List.head?_cons, Option.toList_some, List.cons_append, List.nil_append, List.append_nil]
              try simp only [Act.put]
              repeat ((refine wpHeld_step ?_ rfl ?_ ?_; rotate_left; · (intro W hW; obtain ⟨c0, c1⟩ := hW.1.cells; obtain ⟨s0, s1⟩ := hW.1.seat HK.out; first | (refine exec_load_blk (x := .tmp 13) ?_ ?_ HCZ.out hW.2 <;> rfl) | (go_simp; try with_reducible rfl))); simp only [Act.put, List.setIfInBounds_toArray, List.set_cons_succ, List.set_cons_zero])
              refine wpHeld_nil ?_
              simp only [wpEarly]
              go_wp2_with fail
              refine (HPP.out _ (H5.out.drewN 1)).mono ?_
              rintro e w6 ⟨rfl, h6, o6⟩
              have hR := HRR.out
              clear HRR
              obtain ⟨D, hD⟩ : ∃ D, (putS L x).1 = D := ⟨_, rfl⟩
              obtain ⟨E, hEE⟩ : ∃ E, (putS L x).2 = E := ⟨_, rfl⟩
              have herr : E ≠ 0 → D = L := fun e => by rw [← hD]; exact put_err (by rw [hEE]; exact e)
              rw [hD] at h6 hR
              rw [hEE] at hR ⊢
              clear hD hEE
              have o6' := o6.undrewN
              have notM : ∀ {g t cs}, Blk wr g t cs → t ≠ 75 → t ≠ 41 → Blk w6 g t cs := fun {g t cs} kk e1 e2 => o6'.blk kk fun hf => ((H5.out.pgs k HK.out).wr).not_blk (hf ▸ kk) e1 e2
              have KX6 := Lib.hid (notM KX.out (by decide) (by decide))
              have HKR6 := Lib.hid (notM HKRR.out (by decide) (by decide))
              have H6 := Lib.hid h6
              have T6 := Lib.hid ((Turn.of_below (y := y) (V := V) (n := n) HB0.out).trans ((Turn.of_below B5.out).trans (Turn.page HK.out o6')))
              have hsz6 : w.heap.size ≤ q + 1 + 1 := by omega
              clear notM o6 o6' h6 KX HKRR H5 B5
              by_cases hE0 : E = 0
              · subst hE0
                obtain rfl : R = ((C.upd k D).tell k x, x.id, 0) := by rw [← hR, if_neg (fun e => e rfl)]
                clear hR herr
                go_upto_region 19 with (first | (refine wpList_val rfl rfl (.agg CX) (exec_load_blk (x := .tmp 13) rfl rfl HCZ.out KX6.out) ?_) | (go_at_call 48; refine (HT.out _ _ H6.out).mono ?_; rintro e w7 ⟨⟨r, rfl⟩, V', h7, t7⟩))
                have k7 := t7.blk H6.out KX6.out (by decide) (by decide)
                have r7 := t7.blk H6.out HKR6.out (by decide) (by decide)
                have x0 : w7.cell? ⟨g, 0, none⟩ = some (.int .i64 (k : Int)) := (k7.cell 0).trans HX.out.1
                have x1 : w7.cell? ⟨g, 1, none⟩ = some (.int .i64 M) := (k7.cell 1).trans HX.out.2
                have kR2 := (r7.set_ 0 (.int .i64 (k : Int))).set_ 1 (.int .i64 M)
                have kRa := r7.all
                obtain ⟨r0, rf, rl⟩ := kRa
                have H7 := Lib.hid h7
                have T7 := Lib.hid t7
                have KR7 := Lib.hid r7
                clear k7 h7 t7 r7
                go_wp2_with fail
                have hlv := run_loadVar_row (P := Try.prog) _ _ 33 33 _ (0, 0) _ kR2 Try.underlying33 rfl (by kernel_rfl)
                refine bodyPost_ret (v := .tuple #[.agg #[.int .i64 (k : Int), .int .i64 M], .int .i64 0]) (by simp [results, Try.results29, asAddr, hlv]) rfl ⟨rfl, V', ?_, ?_⟩
                · exact H7.out.farSt KR7.out (only_two _ _ _ _)
                · exact (T6.out.trans T7.out).st hsz6 (only_two _ _ _ _)
              · obtain rfl : R = (C, z2, E) := by rw [← hR, if_pos hE0]
                obtain rfl := herr hE0
                have h6 := H6.out
                rw [← HL.out, upd_self (by rw [HLEN.out]; exact HK.out)] at h6
                have kR2 := (HKR6.out.set_ 0 (.int .i64 0)).set_ 1 (.int .i64 0)
                have kRa := HKR6.out.all
                obtain ⟨r0, rf, rl⟩ := kRa
                have hne : (E != 0) = true := by simpa using hE0
                have H7 := Lib.hid h6
                clear hR herr h6 H6 hE0
                go_wp2_with fail
                have hlv := run_loadVar_row (P := Try.prog) _ _ 33 33 _ (0, 0) _ kR2 Try.underlying33 rfl (by kernel_rfl)
                refine bodyPost_ret (v := .tuple #[.agg #[.int .i64 0, .int .i64 0], .int .i64 E]) (by simp [results, Try.results29, asAddr, hlv]) rfl ⟨rfl, V, ?_, ?_⟩
                · exact H7.out.farSt HKR6.out (only_two _ _ _ _)
                · exact T6.out.st hsz6 (only_two _ _ _ _)
  · rw [show proposeI n C i (a, b) p = (C, z2, 1) from if_neg hi]
    rw [decide_eq_false hi] at HI
    dsimp only [z2]
    have KR := Lib.hid kR
    clear h hg hl hb0 kS kP hI hi kR
    go_enter Try.func29, Try.ntmps29
    go_wp2_with (go_at_call 39; refine HI.out.mono ?_; rintro e w1 ⟨rfl, rfl⟩)
    have hlv := run_loadVar_row (P := Try.prog) _ _ 33 33 _ (0, 0) _ KR.out Try.underlying33 rfl (by kernel_rfl)
    exact bodyPost_ret (v := .tuple #[.agg #[.int .i64 0, .int .i64 0], .int .i64 1]) (by simp [results, Try.results29, asAddr, hlv]) rfl ⟨rfl, V, H0.out, Turn.of_below HB0.out⟩
end Go.Proofs.Ytaicbllfkehhjaa

/- slices.Equal of clauses; Settled. -/
namespace Go.Proofs.Ytaicbllfkehhjaa
open Go.RowKit

set_option maxRecDepth 100000 in
set_option maxHeartbeats 8000000 in
theorem equal_any (w : World) (B1 B2 : Nat) (A1 A2 : Option Addr) (cap1 cap2 : Nat) (l m : List Cl) (h1 : ClsAt w B1 A1 l) (h2 : ClsAt w B2 A2 m) (hl : l.length ≤ 1000000) (hm : m.length ≤ 1000000) :
    Calls Try.prog 43 #[.slice A1 l.length cap1, .slice A2 m.length cap2] w fun e w' => e = .returned (.bool (decide (l = m))) ∧ ∃ n, w' = w.drewN n := by
  have H1 := Lib.hid h1
  have H2 := Lib.hid h2
  obtain ⟨N, hN⟩ : ∃ N, l.length = N := ⟨_, rfl⟩
  obtain ⟨M, hM⟩ : ∃ M, m.length = M := ⟨_, rfl⟩
  obtain ⟨R, hR⟩ : ∃ R, decide (l = m) = R := ⟨_, rfl⟩
  rw [hN] at hl ⊢
  rw [hM] at hm ⊢
  rw [hR]
  have HN := Lib.hid hN
  have HM := Lib.hid hM
  have HR := Lib.hid hR
  clear h1 h2 hN hM hR
  go_enter Try.func43, Try.ntmps43
  by_cases hNM : N = M
  · subst hNM
    go_wp2_with fail
    go_loopw [13] (fun i wr => ∃ k nq : Nat, wr = w.drewN nq ∧ k ≤ N ∧ i = .int .i64 (k : Int) ∧ Hid (l.take k = m.take k)) (fun i _ => N - (intOf i).toNat)
    case atStart => exact ⟨0, 0, rfl, Nat.zero_le _, rfl, Lib.hid rfl⟩
    case round =>
      obtain ⟨k, nq, rfl, hk, rfl, HK⟩ := hrel
      by_cases hkN : k < N
      · obtain ⟨c, hc⟩ : ∃ c, l[k]? = some c := ⟨_, List.getElem?_eq_getElem (by rw [HN.out]; exact hkN)⟩
        obtain ⟨d, hd⟩ : ∃ d, m[k]? = some d := ⟨_, List.getElem?_eq_getElem (by rw [HM.out]; exact hkN)⟩
        obtain ⟨g1, o1, rfl, -, -⟩ := H1.out k c hc
        obtain ⟨g2, o2, rfl, -, -⟩ := H2.out k d hd
        have e1 : decide ((k : Int) < (N : Int)) = true := decide_eq_true (by omega)
        have hez := eq_cl c d
        have HKN := Lib.hid hkN
        have HC := Lib.hid hc
        have HD := Lib.hid hd
        have HEZ := Lib.hid hez
        clear hc hd hez hkN
        go_upto_region 6 with fail
        refine wp_region_hold (fun W => ClsAt W B1 (some ⟨g1, o1, none⟩) l ∧ ClsAt W B2 (some ⟨g2, o2, none⟩) m) [0, 1, 2, 3, 4, 5, 6, 7] [] [8] (by kernel_rfl) (by kernel_rfl) (fun _ d _ _ _ h => by cases d <;> exact h) ⟨H1.out.drewN (nq + 1), H2.out.drewN (nq + 1)⟩ ?_
        simp only [pick, List.drop_succ_cons, List.drop_zero, List.head?_cons, Option.toList_some, List.cons_append, List.nil_append, List.append_nil]
        have hkN := HKN.out
        iterate 3 (refine wpHeld_step ?_ rfl ?_ ?_; rotate_left; · (intro W hW; go_simp; with_reducible rfl))
        refine wpHeld_step ?_ rfl ?_ ?_
        rotate_left
        · intro W hW; refine exec_load_at (x := .tmp 18) ?_ ?_ hW.1 rfl HC.out <;> rfl
        iterate 3 (refine wpHeld_step ?_ rfl ?_ ?_; rotate_left; · (intro W hW; go_simp; with_reducible rfl))
        refine wpHeld_step ?_ rfl ?_ ?_
        rotate_left
        · intro W hW; refine exec_load_at (x := .tmp 22) ?_ ?_ hW.2 rfl HD.out <;> rfl
        refine wpHeld_nil ?_
        simp only [wpEarly]
        have hez := HEZ.out
        clear HEZ
        by_cases he : c = d
        · have HK2 := Lib.hid (eq_step HK.out HC.out (by rw [he]; exact HD.out))
          rw [decide_eq_true he] at hez
          clear he HK HC HD
          generalize clA c = CC at *
          generalize clA d = CD at *
          go_wp2_with fail
          refine ⟨⟨k + 1, nq + 1, rfl, HKN.out, by go_num, HK2⟩, ?_⟩
          have := HKN.out
          simp [intOf]
          omega
        · obtain rfl : R = false := by
            rw [← HR.out]
            refine decide_eq_false fun e => he ?_
            have h3 := HC.out
            rw [e, HD.out] at h3
            exact (Option.some.inj h3).symm
          rw [decide_eq_false he] at hez
          clear he HK HC HD
          generalize clA c = CC at *
          generalize clA d = CD at *
          go_wp2
          go_ret
          exact ⟨rfl, nq + 1, rfl⟩
      · obtain rfl : k = N := by omega
        obtain rfl : R = true := by
          rw [← HR.out]
          refine decide_eq_true ?_
          have h3 := HK.out
          rw [← HN.out, List.take_length, HN.out, ← HM.out, List.take_length] at h3
          exact h3
        clear HK
        go_wp2
        go_ret
        exact ⟨rfl, nq, rfl⟩
  · have e1 : ((N : Int) != (M : Int)) = true := by simpa using fun h => hNM (by omega)
    obtain rfl : R = false := by
      rw [← HR.out]
      refine decide_eq_false fun e => hNM ?_
      rw [← HN.out, ← HM.out, e]
    go_wp2
    go_ret
    exact ⟨rfl, 0, rfl⟩
end Go.Proofs.Ytaicbllfkehhjaa

/- Settled. -/
namespace Go.Proofs.Ytaicbllfkehhjaa
open Go.RowKit

theorem own_cls {w : World} {B : Nat} {v : Value} {l : List Cl} (h : OwnCls w B v l) : ∃ A cap, v = .slice A l.length cap ∧ ClsAt w w.heap.size A l := h.form
theorem sane_len {n : Nat} {C : Ch} (hg : Sane n C) {i : Nat} (hi : i < n) : (walkS (C.pg i)).length ≤ 100000 := by
  rw [(walk_perm (hg i hi).1.tr).length_eq]
  exact (hg i hi).2

set_option maxRecDepth 100000 in
set_option maxHeartbeats 4000000 in
theorem settled1_any (w : World) (y : Lay) (V : Nat → Nat → Value) (n : Nat) (C : Ch) (h : ChAt w y V n C) (hg : Sane n C) (i : Nat) (hi : i < n) (bc : Nat) (hc : Blk w bc 25 #[.pointer (some ⟨y.p, 0, none⟩)]) :
    Calls Try.prog 42 #[.agg #[.pointer (some ⟨y.P i, 0, none⟩), .int .i64 (i : Int)], .pointer (some ⟨bc, 0, none⟩)] w fun e w' => e = .returned (.bool (!decide (walkS (C.pg i) = walkS (C.pg 0)))) ∧ Below w.heap.size w w' := by
  have h0 : 0 < n := h.pos
  have hl1 := sane_len hg hi
  have hl2 := sane_len hg h0
  have hb := below_self_alloc w (.cells #[.pointer (some ⟨y.P i, 0, none⟩), .int .i64 (i : Int)] 72)
  have H1 := Lib.hid (h.alloc (.cells #[.pointer (some ⟨y.P i, 0, none⟩), .int .i64 (i : Int)] 72))
  have KB := Lib.hid (Blk.new w 72 #[.pointer (some ⟨y.P i, 0, none⟩), .int .i64 (i : Int)])
  have KC := Lib.hid (hc.alloc (.cells #[.pointer (some ⟨y.P i, 0, none⟩), .int .i64 (i : Int)] 72))
  have HLST := Lib.hid (fun W (hW : ChAt W y V n C) (k : Nat) (hk : k < n) => hW.pg_list hg hk)
  obtain ⟨L1, hL1⟩ : ∃ L, walkS (C.pg i) = L := ⟨_, rfl⟩
  obtain ⟨L2, hL2⟩ : ∃ L, walkS (C.pg 0) = L := ⟨_, rfl⟩
  rw [hL1] at hl1 ⊢
  rw [hL2] at hl2 ⊢
  obtain ⟨R, hR⟩ : ∃ R, decide (L1 = L2) = R := ⟨_, rfl⟩
  rw [hR]
  have HR := Lib.hid hR
  have HL1 := Lib.hid hL1
  have HL2 := Lib.hid hL2
  have HI := Lib.hid hi
  have H0 := Lib.hid h0
  have HLL1 := Lib.hid hl1
  have HLL2 := Lib.hid hl2
  have HB := Lib.hid hb
  have hcap := h.cap
  have hmax := h.max
  clear h hg hi hc h0 hl1 hl2 hb hR hL1 hL2
  go_enter Try.func42, Try.ntmps42
  go_wp2_with fail
  refine wp_region_hold (fun W => ChAt W y V n C ∧ Blk W w.heap.size 72 #[.pointer (some ⟨y.P i, 0, none⟩), .int .i64 (i : Int)] ∧ Blk W bc 25 #[.pointer (some ⟨y.p, 0, none⟩)]) [0, 1, 3, 4, 5, 6, 7, 8, 9] [2] [10, 11, 12, 13] (by kernel_rfl) (by kernel_rfl) (fun _ d _ _ _ h => by cases d <;> exact h) (⟨H1.out.drewN 1, KB.out.drewN 1, KC.out.drewN 1⟩) ?_
  simp only [pick, List.drop_succ_cons, List.drop_zero, List.head?_cons, Option.toList_some, List.cons_append, List.nil_append, List.append_nil]
  try simp only [Act.put]
  repeat ((refine wpHeld_step ?_ rfl ?_ ?_; rotate_left; · (intro W hW; obtain ⟨c0, c1⟩ := hW.1.cells; obtain ⟨s0, s1⟩ := hW.1.seat H0.out; rw [Nat.zero_mul] at s0; have hn0 : 0 < n := H0.out; have b0 : W.cell? ⟨w.heap.size, 0, none⟩ = some (.pointer (some ⟨y.P i, 0, none⟩)) := hW.2.1.cell 0; have d0 : W.cell? ⟨bc, 0, none⟩ = some (.pointer (some ⟨y.p, 0, none⟩)) := hW.2.2.cell 0; (go_simp; try with_reducible rfl))); simp only [Act.put, List.setIfInBounds_toArray, List.set_cons_succ, List.set_cons_zero])
  refine wpHeld_nil ?_
  simp only [wpEarly]
  go_wp2_with fail
  have W1 : ChAt (w.alloc (.cells #[.pointer (some ⟨y.P i, 0, none⟩), .int .i64 (i : Int)] 72)).drew y V n C := H1.out.drewN 1
  refine (HLST.out _ W1 i HI.out).mono ?_
  rintro e w2 ⟨v, rfl, hv, b2⟩
  have H2 := Lib.hid (W1.below b2)
  have KB2 := Lib.hid ((show Blk (w.alloc (.cells #[.pointer (some ⟨y.P i, 0, none⟩), .int .i64 (i : Int)] 72)).drew _ _ _ from KB.out.drewN 1).below b2 KB.out.lt)
  have KC2 := Lib.hid ((show Blk (w.alloc (.cells #[.pointer (some ⟨y.P i, 0, none⟩), .int .i64 (i : Int)] 72)).drew _ _ _ from KC.out.drewN 1).below b2 KC.out.lt)
  have B2 := Lib.hid ((below_drew1 HB.out).trans (b2.mono (below_drew1 HB.out).size))
  rw [HL1.out] at hv
  have HV2 := Lib.hid hv
  clear W1 hv b2
  go_wp2_with fail
  refine ⟨⟨H2.out, KB2.out, KC2.out⟩, ?_⟩
  go_wp2_with fail
  refine (HLST.out _ H2.out 0 H0.out).mono ?_
  rintro e w3 ⟨v', rfl, hv', b3⟩
  rw [HL2.out] at hv'
  have hv2 := HV2.out.below b3
  obtain ⟨A1, cap1, rfl, k1⟩ := own_cls hv2
  obtain ⟨A2, cap2, rfl, k2⟩ := own_cls hv'
  have hE := equal_any w3 _ _ A1 A2 cap1 cap2 L1 L2 k1 k2 (by have := HLL1.out; omega) (by have := HLL2.out; omega)
  rw [HR.out] at hE
  have HE := Lib.hid hE
  have B3 := Lib.hid (B2.out.trans (b3.mono B2.out.size))
  obtain ⟨N1, hN1⟩ : ∃ N, L1.length = N := ⟨_, rfl⟩
  obtain ⟨N2, hN2⟩ : ∃ N, L2.length = N := ⟨_, rfl⟩
  rw [hN1, hN2] at HE
  rw [hN1] at hv2 ⊢
  rw [hN2] at hv' ⊢
  clear hv' hv2 k1 k2 hE b3 HV2 hN1 hN2
  go_wp2_with (go_at_call 43; refine HE.out.mono ?_; rintro e w4 ⟨rfl, nq, rfl⟩)
  go_ret
  exact ⟨rfl, B3.out.os, B3.out.tape, B3.out.output, B3.out.size, B3.out.block⟩

theorem settled_iff {n : Nat} {C : Ch} (hn : C.pages.length = n) : settledS C = true ↔ ∀ i, i < n → walkS (C.pg i) = walkS (C.pg 0) := by
  unfold settledS
  rw [List.all_eq_true]
  constructor
  · intro h i hi
    have h1 : C.pages[i]? = some (C.pg i) := by
      unfold Ch.pg
      rw [List.getD_eq_getElem?_getD, List.getElem?_eq_getElem (by omega)]
      rfl
    simpa using h _ (List.mem_of_getElem? h1)
  · intro h L hL
    obtain ⟨i, hi⟩ := List.getElem?_of_mem hL
    have hlt := (List.getElem?_eq_some_iff.1 hi).1
    have h1 : C.pg i = L := by
      unfold Ch.pg
      rw [List.getD_eq_getElem?_getD, hi]
      rfl
    have := h i (by omega)
    rw [h1] at this
    simpa using this

set_option maxRecDepth 100000 in
set_option maxHeartbeats 4000000 in
theorem ixseat_any (w : World) (y : Lay) (V : Nat → Nat → Value) (n : Nat) (C : Ch) (h : ChAt w y V n C) (hg : Sane n C) (bc : Nat) (hc : Blk w bc 25 #[.pointer (some ⟨y.p, 0, none⟩)]) :
    Calls Try.prog 58 #[.slice (some ⟨y.sb, 0, none⟩) n y.cap, .func (Fn.func 42) #[] #[.pointer (some ⟨bc, 0, none⟩)]] w fun e w' => (∃ r : Int, e = .returned (.int .i64 r) ∧ -1 ≤ r ∧ decide (r ≥ 0) = !settledS C) ∧ Below w.heap.size w w' := by
  have hset := settled_iff h.len
  have HS := Lib.hid hset
  have H := Lib.hid h
  have HG := Lib.hid hg
  have HC := Lib.hid hc
  have hcap := h.cap
  have hmax := h.max
  obtain ⟨R, hR⟩ : ∃ R, settledS C = R := ⟨_, rfl⟩
  rw [hR] at HS ⊢
  clear h hg hc hset hR
  go_enter Try.func58, Try.ntmps58
  go_wp2_with fail
  go_loopw [8] (fun i wr => ∃ (k : Nat), k ≤ n ∧ i = .int .i64 (k : Int) ∧ Hid (Below w.heap.size w wr) ∧ Hid (∀ j, j < k → walkS (C.pg j) = walkS (C.pg 0))) (fun i _ => n - (intOf i).toNat)
  case atStart => exact ⟨0, Nat.zero_le _, rfl, Lib.hid (Below.refl _ _), Lib.hid fun j hj => by omega⟩
  case round =>
    obtain ⟨k, hkl, rfl, HB, HK⟩ := hrel
    by_cases hlt : k < n
    · have hr := H.out.below HB.out
      obtain ⟨s0, s1⟩ := hr.seat hlt
      have hF := settled1_any wr y V n C hr HG.out k hlt bc (HC.out.below HB.out HC.out.lt)
      have hi0 : (0 : Int) ≤ (k : Int) := by omega
      have hi1 : (k : Int) < (n : Int) := by omega
      by_cases he : walkS (C.pg k) = walkS (C.pg 0)
      · rw [decide_eq_true he] at hF
        have HF := Lib.hid hF
        have HK2 := Lib.hid (show ∀ j, j < k + 1 → walkS (C.pg j) = walkS (C.pg 0) from fun j hj => by
          rcases Nat.lt_or_ge j k with h1 | h1
          · exact HK.out j h1
          · obtain rfl : j = k := by omega
            exact he)
        clear he HK hF hr
        go_wp2_with (go_at_call 42; refine HF.out.mono ?_; rintro e w3 ⟨rfl, hb3⟩)
        go_roundw
        case rel => exact ⟨k + 1, by omega, by go_num, Lib.hid (HB.out.trans (hb3.mono HB.out.size)), HK2⟩
        case measure => simp [intOf]; omega
      · rw [decide_eq_false he] at hF
        have HF := Lib.hid hF
        obtain rfl : R = false := by
          cases R with
          | false => rfl
          | true => exact absurd (HS.out.1 rfl k hlt) he
        clear he HK hF hr
        go_wp2_with (go_at_call 42; refine HF.out.mono ?_; rintro e w3 ⟨rfl, hb3⟩)
        go_ret
        exact ⟨⟨(k : Int), rfl, by omega, by simp⟩, HB.out.trans (hb3.mono HB.out.size)⟩
    · obtain rfl : k = n := by omega
      obtain rfl : R = true := HS.out.2 HK.out
      clear HK
      go_wp2
      go_ret
      exact ⟨⟨-1, rfl, by omega, by decide⟩, HB.out⟩

set_option maxRecDepth 100000 in
set_option maxHeartbeats 4000000 in
theorem contains_any (w : World) (y : Lay) (V : Nat → Nat → Value) (n : Nat) (C : Ch) (h : ChAt w y V n C) (hg : Sane n C) (bc : Nat) (hc : Blk w bc 25 #[.pointer (some ⟨y.p, 0, none⟩)]) :
    Calls Try.prog 41 #[.slice (some ⟨y.sb, 0, none⟩) n y.cap, .func (Fn.func 42) #[] #[.pointer (some ⟨bc, 0, none⟩)]] w fun e w' => e = .returned (.bool (!settledS C)) ∧ Below w.heap.size w w' := by
  have HI := Lib.hid (ixseat_any w y V n C h hg bc hc)
  obtain ⟨R, hR⟩ : ∃ R, settledS C = R := ⟨_, rfl⟩
  rw [hR] at HI ⊢
  clear h hg hc hR
  go_enter Try.func41, Try.ntmps41
  go_wp2_with (go_at_call 58; refine HI.out.mono ?_; rintro e w3 ⟨⟨r, rfl, hr, hd⟩, hb3⟩)
  go_ret
  exact ⟨by simp, hb3⟩

set_option maxRecDepth 100000 in
set_option maxHeartbeats 4000000 in
theorem settled_any (w : World) (y : Lay) (V : Nat → Nat → Value) (n : Nat) (C : Ch) (h : ChAt w y V n C) (hg : Sane n C) :
    Calls Try.prog 21 #[.pointer (some ⟨y.p, 0, none⟩)] w fun e w' => e = .returned (.bool (settledS C)) ∧ Below w.heap.size w w' := by
  have hb := below_self_alloc w (.cells #[.pointer (some ⟨y.p, 0, none⟩)] 25)
  have h1 := h.alloc (.cells #[.pointer (some ⟨y.p, 0, none⟩)] 25)
  have kC := Blk.new w 25 #[.pointer (some ⟨y.p, 0, none⟩)]
  have HT := Lib.hid (contains_any _ y V n C h1 hg _ kC)
  obtain ⟨c0, c1⟩ := h1.cells
  have d0 := kC.cell 0
  obtain ⟨R, hR⟩ : ∃ R, settledS C = R := ⟨_, rfl⟩
  rw [hR] at HT ⊢
  have HB := Lib.hid hb
  clear h hg h1 kC hR hb
  go_enter Try.func21, Try.ntmps21
  go_wp2_with (go_at_call 41; refine HT.out.mono ?_; rintro e w3 ⟨rfl, hb3⟩)
  go_ret
  exact ⟨by simp, HB.out.trans (hb3.mono HB.out.size)⟩
end Go.Proofs.Ytaicbllfkehhjaa
