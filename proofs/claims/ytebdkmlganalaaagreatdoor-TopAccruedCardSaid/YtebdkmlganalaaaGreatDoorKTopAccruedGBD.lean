/- Package migrate's name and term, and what formed asks of stages, rights and terms. Package migrate's formed. -/
import Derived.Test.YtebdkmlganalaaaGreatDoorKTopAccruedGBA
import Derived.Test.YtebdkmlganalaaaGreatDoorKTopAccruedWc
import Derived.Laws.Cover1
namespace Go.Proofs.YtebdkmlganalaaaGreatDoor
open Go.RowKit Go.Shelf

/-- The matter whose text is asked for. -/
def nmM (s : ByteArray) : Mt := ⟨s, 0, [], bs [112], 0, [], [], []⟩
theorem nmM_fm (s : ByteArray) : fmB (nmM s) = nameB s := by
  unfold fmB nmM
  have h : (nameB (bs [112]) && (isB 0 && (decide ((0 : Int) ≤ 0 ∧ (0 : Int) < 60) && (([] : List Int).all isB && (decide (([] : List Int).length ≤ 60) && (upB 0 [] && (decide (([] : List Int).length ≤ 60) && (difB (·.1) (rtB 0) [] && difB (·.id) prB [])))))))) = true := by decide
  show (nameB s && _) = _
  rw [h, Bool.and_true]
set_option maxRecDepth 100000 in
theorem gname_any (w : World) (ht : Tbs w) (s : ByteArray) (hs : s.size ≤ 9223372036854775807) :
    Calls Tryz.prog 95 #[.string s] w fun e w' => e = .returned (.bool (nameB s)) ∧ Below w.heap.size w w' := by
  have hx : MtAt w w.heap.size (nmM s) ⟨none, 0, none, 0, none, 0, none, 0, []⟩ := ⟨fun i x hi => by simp [nmM] at hi, fun i x hi => by simp [nmM] at hi, RtsAt.nil _ _ _, LmsAt.nil _ _ _, rfl, hs, (by show (bs [112]).size ≤ 9223372036854775807; decide), fun r hr => by simp [nmM] at hr⟩
  have htx := text_any w ht w.heap.size (nmM s) _ hx (Nat.le_refl _) ⟨Nat.zero_le _, Nat.zero_le _, Nat.zero_le _, Nat.zero_le _⟩
  unfold TextPost at htx
  rw [nmM_fm] at htx
  have htx' : Calls Tryz.prog 25 #[.agg #[.string s, .int .i64 0, .slice none 0 0, .string (bs [112]), .int .i64 0, .slice none 0 0, .slice none 0 0, .slice none 0 0]] w _ := htx
  obtain ⟨q, hq⟩ : ∃ q, nameB s = q := ⟨_, rfl⟩
  rw [hq] at htx' ⊢
  obtain ⟨R, hR⟩ : ∃ R, (if q = true then textL (nmM s) else []) = R := ⟨_, rfl⟩
  rw [hR] at htx'
  have HT := Lib.hid htx'
  clear htx htx' hx ht hq hR
  cases q with
  | true =>
    go_enter Tryz.func95, Tryz.ntmps95
    go_wp2_with fail
    refine HT.out.mono ?_
    rintro e w1 ⟨rfl, hb⟩
    clear HT
    go_wp2
    go_ret
    exact ⟨rfl, hb⟩
  | false =>
    go_enter Tryz.func95, Tryz.ntmps95
    go_wp2_with fail
    refine HT.out.mono ?_
    rintro e w1 ⟨rfl, hb⟩
    clear HT
    go_wp2
    go_ret
    exact ⟨rfl, hb⟩
set_option maxRecDepth 100000 in
theorem gterm_any (w : World) (B : Nat) (L : LmV) (h : LmAt w B L.2.1 L.1) (hB : B ≤ w.heap.size) :
    Calls Tryz.prog 97 #[.agg #[.string L.1.id, .int .i64 L.1.n, .int .i64 L.1.u, .int .i64 L.1.f, .slice L.2.1 L.1.S.length L.2.2]] w fun e w' => e = .returned (.bool (tmB L.1)) ∧ Below w.heap.size w w' := by
  obtain ⟨M, A, c⟩ := L
  simp only at *
  have hb := below_self_alloc w (.cells #[.string M.id, .int .i64 M.n, .int .i64 M.u, .int .i64 M.f, .slice A M.S.length c] 66)
  have kx := Blk.new w 66 #[.string M.id, .int .i64 M.n, .int .i64 M.u, .int .i64 M.f, .slice A M.S.length c]
  have hp : Calls Tryz.prog 90 #[.agg #[.string M.id, .int .i64 M.n, .int .i64 M.u, .int .i64 M.f, .slice A M.S.length c], .agg #[.int .i64 0, .int .i64 0]] (w.alloc (.cells #[.string M.id, .int .i64 M.n, .int .i64 M.u, .int .i64 M.f, .slice A M.S.length c] 66)) _ :=
    pause_any _ M (0, 0) B A c (h.below (hb.mono hB)) (Nat.le_trans hB hb.size)
  obtain ⟨q, hq⟩ : ∃ q, prB M = q := ⟨_, rfl⟩
  have hpe : (pauseS M (0, 0)).2 = if q = true then (if M.S.length = 60 then 2 else 0) else 1 := by
    unfold pauseS
    rw [hq, show psB (0, 0) = true from rfl, Bool.and_true]
    split
    · split <;> rfl
    · rfl
  unfold tmB
  rw [hq]
  obtain ⟨R, hR⟩ : ∃ R, pauseS M (0, 0) = R := ⟨_, rfl⟩
  rw [hR] at hp hpe
  obtain ⟨R1, R2⟩ := R
  simp only at hpe
  obtain ⟨n, hn⟩ : ∃ n, M.S.length = n := ⟨_, rfl⟩
  have hsn : decide (M.S = []) = decide (n = 0) := by
    rw [← hn]
    cases M.S with
    | nil => rfl
    | cons x l => rfl
  rw [hsn]
  rw [hn] at hp hpe hb kx ⊢
  obtain ⟨Q, hQ⟩ : ∃ Q, (q && decide (n = 0)) = Q := ⟨_, rfl⟩
  rw [hQ]
  have HP := Lib.hid hp
  have HPE := Lib.hid hpe
  have HQ := Lib.hid hQ
  clear hp hpe hR hq h hsn hn hQ
  obtain ⟨t0, t1, t2⟩ := kx.all
  go_enter Tryz.func97, Tryz.ntmps97
  go_wp2_with fail
  refine HP.out.mono ?_
  rintro e w1 ⟨A', c', rfl, hst, b1⟩
  have hb2 := hb.trans (b1.mono hb.size)
  have hb3 := hb2.alloc hb2.size (.cells (R1.cells A' c') 66)
  have k2 := (kx.below b1 kx.lt).alloc (.cells (R1.cells A' c') 66)
  clear b1 hst kx t0 t1 t2 hb
  unfold Lm.cells at hb3 k2 ⊢
  obtain ⟨t0, t1, t2⟩ := k2.all
  clear k2
  have hpe := HPE.out
  have hq2 := HQ.out
  cases q with
  | false =>
    obtain rfl : R2 = 1 := hpe
    obtain rfl : false = Q := hq2
    clear HPE HQ HP
    go_wp2
    go_ret
    exact ⟨rfl, hb3⟩
  | true =>
    by_cases h60 : n = 60
    · obtain rfl : R2 = 2 := by rw [hpe, if_pos rfl, if_pos h60]
      obtain rfl : false = Q := by rw [← hq2, h60]; rfl
      clear hpe hq2 HPE HQ HP h60
      go_wp2
      go_ret
      exact ⟨rfl, hb3⟩
    · obtain rfl : R2 = 0 := by rw [hpe, if_pos rfl, if_neg h60]
      have hfin : ((n : Int) == 0) = Q := by
        rw [← hq2, Bool.true_and, Bool.eq_iff_iff, beq_iff_eq, decide_eq_true_eq]
        omega
      have HF := Lib.hid hfin
      clear hpe hq2 HPE HQ HP h60 hfin
      go_wp2
      go_ret
      exact ⟨congrArg (fun b => Ending.returned (.bool b)) HF.out, hb3⟩

theorem gst_any (w : World) (n : Int) : Calls Tryz.prog 93 #[.int .i64 n] w fun e w' => e = .returned (.bool !stB n) ∧ Below w.heap.size w w' := by
  have hr : stB n = decide (-1 ≤ n ∧ n < 60) := rfl
  by_cases h0 : n < -1
  · have e : stB n = false := by rw [hr]; exact decide_eq_false (by omega)
    have d : decide (n < -1) = true := decide_eq_true h0
    rw [e]
    clear hr e
    go_enter Tryz.func93, Tryz.ntmps93
    go_wp2
    go_ret
    exact ⟨rfl, Below.refl _ _⟩
  · have d : decide (n < -1) = false := decide_eq_false h0
    by_cases h1 : 60 ≤ n
    · have e : stB n = false := by rw [hr]; exact decide_eq_false (by omega)
      rw [e]
      clear hr e
      have d2 : decide (60 ≤ n) = true := decide_eq_true h1
      go_enter Tryz.func93, Tryz.ntmps93
      go_wp2
      go_ret
      exact ⟨rfl, Below.refl _ _⟩
    · have e : stB n = true := by rw [hr]; exact decide_eq_true (by omega)
      have d2 : decide (60 ≤ n) = false := decide_eq_false h1
      rw [e]
      clear hr e
      go_enter Tryz.func93, Tryz.ntmps93
      go_wp2
      go_ret
      exact ⟨rfl, Below.refl _ _⟩
end Go.Proofs.YtebdkmlganalaaaGreatDoor

namespace Go.Proofs.YtebdkmlganalaaaGreatDoor
open Go.RowKit Go.Shelf

set_option maxRecDepth 100000 in
theorem grt_any (w : World) (ht : Tbs w) (r : S2) (h1 : r.1.size ≤ 9223372036854775807) (h2 : r.2.size ≤ 9223372036854775807) :
    Calls Tryz.prog 94 #[.agg #[.string r.1, .string r.2]] w fun e w' => e = .returned (.bool (!rnB r)) ∧ Below w.heap.size w w' := by
  obtain ⟨a, b⟩ := r
  simp only at *
  have hb := below_self_alloc w (.cells #[.string a, .string b] 67)
  have kx := Blk.new w 67 #[.string a, .string b]
  have HN1 := Lib.hid (gname_any (w.alloc (.cells #[.string a, .string b] 67)) (ht.below hb) a h1)
  have HN2 := Lib.hid fun W (hW : Below w.heap.size w W) => gname_any W (ht.below hW) b h2
  obtain ⟨t0, t1, t2⟩ := kx.all
  unfold rnB
  simp only
  cases hq : nameB a with
  | false =>
    have hn := HN1.out
    rw [hq] at hn
    have HN := Lib.hid hn
    clear HN1 HN2 hn hq ht
    go_enter Tryz.func94, Tryz.ntmps94
    go_wp2_with fail
    refine HN.out.mono ?_
    rintro e w1 ⟨rfl, b1⟩
    have hb2 := hb.trans (b1.mono hb.size)
    clear b1 t0 t1 t2
    go_wp2
    go_ret
    exact ⟨rfl, hb2⟩
  | true =>
    have hn := HN1.out
    rw [hq] at hn
    have HN := Lib.hid hn
    obtain ⟨q, hq2⟩ : ∃ q, nameB b = q := ⟨_, rfl⟩
    rw [hq2] at HN2 ⊢
    clear HN1 hn hq hq2 ht
    have KX := Lib.hid kx
    clear kx
    go_enter Tryz.func94, Tryz.ntmps94
    go_wp2_with fail
    refine HN.out.mono ?_
    rintro e w1 ⟨rfl, b1⟩
    have hb2 := hb.trans (b1.mono hb.size)
    have k1 := KX.out.below b1 KX.out.lt
    have H2 := Lib.hid (HN2.out w1 hb2)
    clear b1 t0 t1 t2 HN KX HN2
    obtain ⟨t0, t1, t2⟩ := k1.all
    go_wp2_with fail
    refine H2.out.mono ?_
    rintro e w2 ⟨rfl, b2⟩
    have hb3 := hb2.trans (b2.mono hb2.size)
    clear b2 t0 t1 t2 k1 H2 hb2
    cases q <;> go_wp2 <;> go_ret <;> exact ⟨rfl, hb3⟩
set_option maxRecDepth 100000 in
theorem gtm_any (w : World) (B : Nat) (x : LmV) (h : LmAt w B x.2.1 x.1) (hB : B ≤ w.heap.size) :
    Calls Tryz.prog 96 #[.agg #[.string x.1.id, .int .i64 x.1.n, .int .i64 x.1.u, .int .i64 x.1.f, .slice x.2.1 x.1.S.length x.2.2]] w fun e w' => e = .returned (.bool (!tmB x.1)) ∧ Below w.heap.size w w' := by
  have hb := below_self_alloc w (.cells #[.string x.1.id, .int .i64 x.1.n, .int .i64 x.1.u, .int .i64 x.1.f, .slice x.2.1 x.1.S.length x.2.2] 66)
  have kx := Blk.new w 66 #[.string x.1.id, .int .i64 x.1.n, .int .i64 x.1.u, .int .i64 x.1.f, .slice x.2.1 x.1.S.length x.2.2]
  have HN := Lib.hid (gterm_any (w.alloc (.cells #[.string x.1.id, .int .i64 x.1.n, .int .i64 x.1.u, .int .i64 x.1.f, .slice x.2.1 x.1.S.length x.2.2] 66)) B x (h.below (hb.mono hB)) (Nat.le_trans hB hb.size))
  obtain ⟨t0, t1, t2⟩ := kx.all
  obtain ⟨q, hq⟩ : ∃ q, tmB x.1 = q := ⟨_, rfl⟩
  rw [hq] at HN ⊢
  clear hq h
  go_enter Tryz.func96, Tryz.ntmps96
  go_wp2_with fail
  refine HN.out.mono ?_
  rintro e w1 ⟨rfl, b1⟩
  have hb2 := hb.trans (b1.mono hb.size)
  clear b1 t0 t1 t2
  go_wp2
  go_ret
  exact ⟨rfl, hb2⟩

/-! Plain: in the order in which formed looks. -/
theorem mg_no {g : Mg} (h : nameB g.fr = false ∨ nameB g.tn = false ∨ g.st = [] ∨ 60 < g.st.length ∨ 60 < g.rs.length ∨ 60 < g.ts.length ∨ (g.st.any fun s => !stB s) = true ∨ (g.rs.any fun r => !rnB r) = true ∨ (g.ts.any fun t => !tmB t) = true) : mgB g = false := by
  cases hm : mgB g with
  | false => rfl
  | true =>
    obtain ⟨h1, h2, h3, h4, h5, h6⟩ := mgB_iff.1 hm
    obtain ⟨a1, -, a3⟩ := difB_iff.1 h5
    obtain ⟨b1, -, b3⟩ := difB_iff.1 h6
    exfalso
    rcases h with h | h | h | h | h | h | h | h | h
    · rw [h1] at h; cases h
    · rw [h2] at h; cases h
    · exact h3.1 h
    · omega
    · omega
    · omega
    · obtain ⟨s, hs, he⟩ := List.any_eq_true.1 h
      have : stB s = true := decide_eq_true (h4 s hs)
      rw [this] at he
      cases he
    · obtain ⟨s, hs, he⟩ := List.any_eq_true.1 h
      rw [a1 s hs] at he
      cases he
    · obtain ⟨s, hs, he⟩ := List.any_eq_true.1 h
      rw [b1 s hs] at he
      cases he
theorem not_any {α : Type} {p : α → Bool} {l : List α} (h : (l.any fun x => !p x) = false) : ∀ x ∈ l, p x = true := by
  intro x hx
  cases hp : p x with
  | true => rfl
  | false => rw [List.any_eq_false] at h; exact absurd (by rw [hp]; rfl) (h x hx)
theorem mg_yes {g : Mg} (h1 : nameB g.fr = true) (h2 : nameB g.tn = true) (h3 : g.st ≠ []) (l1 : g.st.length ≤ 60) (l2 : g.rs.length ≤ 60) (l3 : g.ts.length ≤ 60) (h4 : (g.st.any fun s => !stB s) = false) (h5 : (g.rs.any fun r => !rnB r) = false) (h6 : (g.ts.any fun t => !tmB t) = false) :
    mgB g = (decide (g.rs.map (·.1)).Nodup && decide (g.ts.map (·.id)).Nodup) := by
  rw [Bool.eq_iff_iff, mgB_iff, Bool.and_eq_true, decide_eq_true_eq, decide_eq_true_eq, difB_iff, difB_iff]
  exact ⟨fun h => ⟨h.2.2.2.2.1.2.1, h.2.2.2.2.2.2.1⟩, fun h => ⟨h1, h2, ⟨h3, l1⟩, fun s hs => of_decide_eq_true (not_any h4 s hs), ⟨not_any h5, h.1, l2⟩, ⟨not_any h6, h.2, l3⟩⟩⟩
theorem lms_elem {w : World} {B : Nat} {A : Option Addr} {l : List LmV} (h : LmsAt w B A l) {x : LmV} (hx : x ∈ l) : LmAt w B x.2.1 x.1 := by
  obtain ⟨i, hi⟩ := List.getElem?_of_mem hx
  obtain ⟨g, off, -, -, -, -, -, -, -, hl⟩ := h i x hi
  exact hl


set_option maxRecDepth 100000 in
set_option maxHeartbeats 8000000 in
theorem gformed_any (w : World) (ht : Tbs w) (B : Nat) (g : Mg) (x : MgX) (h : MgAt w B g x) (hB : B ≤ w.heap.size) (hs : SmlG g) :
    Calls Tryz.prog 66 #[.agg (mgC g x)] w fun e w' => e = .returned (.bool (mgB g)) ∧ Below w.heap.size w w' := by
  obtain ⟨hst, hrs, hts, htv, hfr, htn, hrn⟩ := h
  obtain ⟨s1, s2, s3⟩ := hs
  have hno := @mg_no g
  have hyes := @mg_yes g
  obtain ⟨Q, hQ⟩ : ∃ Q, mgB g = Q := ⟨_, rfl⟩
  rw [hQ] at hno hyes ⊢
  clear hQ
  obtain ⟨fr, tn, st, rs, ts⟩ := g
  obtain ⟨a1, c1, a2, c2, a3, c3, tv⟩ := x
  simp only at *
  subst htv
  rw [List.length_map] at s3 hno hyes
  have e1 : ((tv.map (·.1)).any fun t => !tmB t) = tv.any fun x => !tmB x.1 := by rw [List.any_map]; rfl
  have e2 : ((tv.map (·.1)).map (·.id)) = tv.map fun x : LmV => x.1.id := by rw [List.map_map]; rfl
  rw [e1] at hno hyes
  rw [e2] at hyes
  rw [show mgC ⟨fr, tn, st, rs, tv.map (·.1)⟩ ⟨a1, c1, a2, c2, a3, c3, tv⟩ = #[.string fr, .string tn, .slice a1 st.length c1, .slice a2 rs.length c2, .slice a3 tv.length c3] from by simp [mgC]]
  have hb := below_self_alloc w (.cells #[.string fr, .string tn, .slice a1 st.length c1, .slice a2 rs.length c2, .slice a3 tv.length c3] 30)
  have kx := Blk.new w 30 #[.string fr, .string tn, .slice a1 st.length c1, .slice a2 rs.length c2, .slice a3 tv.length c3]
  have hn1 := fun W (hW : Below w.heap.size w W) => gname_any W (ht.below hW) fr hfr
  have hn2 := fun W (hW : Below w.heap.size w W) => gname_any W (ht.below hW) tn htn
  have hc1 := fun W (hW : Below w.heap.size w W) => containsZ_any W B a1 st c1 (hst.below (hW.mono hB)) (Nat.le_trans hB hW.size) (by omega) (fun s => !stB s) 93 #[] (enters_of Tryz.func93 (by kernel_rfl) rfl) (fun W2 s _ _ => gst_any W2 s)
  have hc2 := fun W (hW : Below w.heap.size w W) => containsP_any W B a2 rs c2 (hrs.below (hW.mono hB)) (Nat.le_trans hB hW.size) (by omega) (fun r => !rnB r) 94 #[] (enters_of Tryz.func94 (by kernel_rfl) rfl) (fun W2 r hr h2 => grt_any W2 (ht.below (hW.trans (h2.mono hW.size))) r (hrn r hr).1 (hrn r hr).2)
  have hc3 := fun W (hW : Below w.heap.size w W) => containsL_any W B a3 tv c3 (hts.below (hW.mono hB)) (Nat.le_trans hB hW.size) (by omega) (fun x => !tmB x.1) 96 #[] (enters_of Tryz.func96 (by kernel_rfl) rfl) (fun W2 y hy h2 => gtm_any W2 B y ((lms_elem hts hy).below ((hW.trans (h2.mono hW.size)).mono hB)) (Nat.le_trans hB (hW.trans (h2.mono hW.size)).size))
  have ho1 := fun W (hW : Below w.heap.size w W) => onceP_any W B a2 rs c2 (hrs.below (hW.mono hB)) (Nat.le_trans hB hW.size) (by omega) 102 (enters_of Tryz.func102 (by kernel_rfl) rfl) key4_any
  have ho2 := fun W (hW : Below w.heap.size w W) => onceL_any W B a3 tv c3 (hts.below (hW.mono hB)) (Nat.le_trans hB hW.size) (by omega) 104 (enters_of Tryz.func104 (by kernel_rfl) rfl) key5_any
  obtain ⟨q1, hq1⟩ : ∃ q, nameB fr = q := ⟨_, rfl⟩
  obtain ⟨q2, hq2⟩ : ∃ q, nameB tn = q := ⟨_, rfl⟩
  obtain ⟨q4, hq4⟩ : ∃ q, (st.any fun s => !stB s) = q := ⟨_, rfl⟩
  obtain ⟨q5, hq5⟩ : ∃ q, (rs.any fun r => !rnB r) = q := ⟨_, rfl⟩
  obtain ⟨q6, hq6⟩ : ∃ q, (tv.any fun x => !tmB x.1) = q := ⟨_, rfl⟩
  obtain ⟨q7, hq7⟩ : ∃ q, decide (rs.map (·.1)).Nodup = q := ⟨_, rfl⟩
  obtain ⟨q8, hq8⟩ : ∃ q, decide (tv.map fun x : LmV => x.1.id).Nodup = q := ⟨_, rfl⟩
  have hse : (st = []) = (st.length = 0) := by rw [List.length_eq_zero_iff]
  rw [hq1, hq2, hq4, hq5, hq6, hse] at hno
  rw [hq1, hq2, hq4, hq5, hq6, hq7, hq8] at hyes
  have hyes' : q1 = true → q2 = true → ¬ st.length = 0 → st.length ≤ 60 → rs.length ≤ 60 → tv.length ≤ 60 → q4 = false → q5 = false → q6 = false → Q = (q7 && q8) := fun a b c => hyes a b (fun e => c (by rw [e]; rfl))
  rw [hq1] at hn1
  rw [hq2] at hn2
  rw [hq4] at hc1
  rw [hq5] at hc2
  rw [hq6] at hc3
  rw [hq7] at ho1
  rw [hq8] at ho2
  have HNO := Lib.hid hno
  have HYES := Lib.hid hyes'
  have HN1 := Lib.hid hn1
  have HN2 := Lib.hid hn2
  have HC1 := Lib.hid hc1
  have HC2 := Lib.hid hc2
  have HC3 := Lib.hid hc3
  have HO1 := Lib.hid ho1
  have HO2 := Lib.hid ho2
  have KX := Lib.hid kx
  have HB := Lib.hid hb
  clear hno hyes hyes' hn1 hn2 hc1 hc2 hc3 ho1 ho2 hq1 hq2 hq4 hq5 hq6 hq7 hq8 hse e1 e2 hst hrs hts hfr htn hrn ht kx hb
  obtain ⟨l1, hl1⟩ : ∃ l, st.length = l := ⟨_, rfl⟩
  obtain ⟨l2, hl2⟩ : ∃ l, rs.length = l := ⟨_, rfl⟩
  obtain ⟨l3, hl3⟩ : ∃ l, tv.length = l := ⟨_, rfl⟩
  rw [hl1, hl2, hl3] at HNO HYES KX HB ⊢
  rw [hl1] at HC1 s1
  rw [hl2] at HC2 HO1 s2
  rw [hl3] at HC3 HO2 s3
  clear hl1 hl2 hl3
  obtain ⟨t0, t1, t2⟩ := KX.out.all
  go_enter Tryz.func66, Tryz.ntmps66
  go_wp2_with fail
  generalize w.alloc (.cells #[.string fr, .string tn, .slice a1 l1 c1, .slice a2 l2 c2, .slice a3 l3 c3] 30) = W0 at *

  have HC := Lib.hid (HN1.out W0 HB.out)
  clear HN1
  refine HC.out.mono ?_
  rintro e W1 ⟨rfl, bz⟩
  have HB2 := Lib.hid (HB.out.trans (bz.mono HB.out.size))
  have KX2 := Lib.hid (KX.out.below bz KX.out.lt)
  clear bz t0 t1 t2 HB KX HC
  obtain ⟨t0, t1, t2⟩ := KX2.out.all
  have HB := HB2
  have KX := KX2
  clear HB2 KX2
  cases q1 with
  | false =>
    obtain rfl : Q = false := HNO.out (.inl rfl)
    clear HNO HYES HN2 HC1 HC2 HC3 HO1 HO2
    go_wp2
    go_ret
    exact ⟨rfl, HB.out⟩
  | true =>
  have HC := Lib.hid (HN2.out W1 HB.out)
  clear HN2
  go_wp2_with fail
  refine HC.out.mono ?_
  rintro e W2 ⟨rfl, bz⟩
  have HB2 := Lib.hid (HB.out.trans (bz.mono HB.out.size))
  have KX2 := Lib.hid (KX.out.below bz KX.out.lt)
  clear bz t0 t1 t2 HB KX HC
  obtain ⟨t0, t1, t2⟩ := KX2.out.all
  have HB := HB2
  have KX := KX2
  clear HB2 KX2
  cases q2 with
  | false =>
    obtain rfl : Q = false := HNO.out (.inr (.inl rfl))
    clear HNO HYES HC1 HC2 HC3 HO1 HO2
    go_wp2
    go_ret
    exact ⟨rfl, HB.out⟩
  | true =>
    by_cases h0 : l1 = 0
    case pos =>
      obtain rfl : Q = false := HNO.out (.inr (.inr (.inl h0)))
      subst h0
      clear HNO HYES HC1 HC2 HC3 HO1 HO2
      go_wp2
      go_ret
      exact ⟨rfl, HB.out⟩
    have d0 : ((l1 : Int) == 0) = false := beq_eq_false_iff_ne.2 (by omega)
    have hmx := fun (ts : Array TypeId) (t : TypeId) (W : World) => run_max_int3 (P := Tryz.prog) (w := W) ts t .i64 .i64 .i64 (l1 : Int) (l2 : Int) (l3 : Int)
    by_cases hm : l1 ≤ 60 ∧ l2 ≤ 60 ∧ l3 ≤ 60
    case neg =>
      obtain rfl : Q = false := HNO.out (by omega)
      obtain ⟨mm, hmm⟩ : ∃ mm : Int, (if (l3 : Int) > (if (l2 : Int) > (l1 : Int) then (l2 : Int) else (l1 : Int)) then (l3 : Int) else (if (l2 : Int) > (l1 : Int) then (l2 : Int) else (l1 : Int))) = mm := ⟨_, rfl⟩
      rw [hmm] at hmx
      have dm : decide (60 < mm) = true := decide_eq_true (by rw [← hmm]; split <;> split <;> omega)
      clear hmm hm
      clear HNO HYES HC1 HC2 HC3 HO1 HO2
      go_wp2
      go_ret
      exact ⟨rfl, HB.out⟩
    obtain ⟨mm, hmm⟩ : ∃ mm : Int, (if (l3 : Int) > (if (l2 : Int) > (l1 : Int) then (l2 : Int) else (l1 : Int)) then (l3 : Int) else (if (l2 : Int) > (l1 : Int) then (l2 : Int) else (l1 : Int))) = mm := ⟨_, rfl⟩
    rw [hmm] at hmx
    have dm : decide (60 < mm) = false := decide_eq_false (by rw [← hmm]; split <;> split <;> omega)
    have HM := Lib.hid hm
    clear hmm hm h0
    have HC := Lib.hid (HC1.out W2 HB.out)
    clear HC1
    go_wp2_with fail
    refine HC.out.mono ?_
    rintro e W3 ⟨rfl, bz⟩
    have HB2 := Lib.hid (HB.out.trans (bz.mono HB.out.size))
    have KX2 := Lib.hid (KX.out.below bz KX.out.lt)
    clear bz t0 t1 t2 HB KX HC
    obtain ⟨t0, t1, t2⟩ := KX2.out.all
    have HB := HB2
    have KX := KX2
    clear HB2 KX2
    clear dm hmx
    cases q4 with
    | true =>
      obtain rfl : Q = false := HNO.out (.inr (.inr (.inr (.inr (.inr (.inr (.inl rfl)))))))
      clear HNO HYES HC2 HC3 HO1 HO2
      go_wp2
      go_ret
      exact ⟨rfl, HB.out⟩
    | false =>
    have HC := Lib.hid (HC2.out W3 HB.out)
    clear HC2
    go_wp2_with fail
    refine HC.out.mono ?_
    rintro e W4 ⟨rfl, bz⟩
    have HB2 := Lib.hid (HB.out.trans (bz.mono HB.out.size))
    have KX2 := Lib.hid (KX.out.below bz KX.out.lt)
    clear bz t0 t1 t2 HB KX HC
    obtain ⟨t0, t1, t2⟩ := KX2.out.all
    have HB := HB2
    have KX := KX2
    clear HB2 KX2
    cases q5 with
    | true =>
      obtain rfl : Q = false := HNO.out (.inr (.inr (.inr (.inr (.inr (.inr (.inr (.inl rfl))))))))
      clear HNO HYES HC3 HO1 HO2
      go_wp2
      go_ret
      exact ⟨rfl, HB.out⟩
    | false =>
    have HC := Lib.hid (HC3.out W4 HB.out)
    clear HC3
    go_wp2_with fail
    refine HC.out.mono ?_
    rintro e W5 ⟨rfl, bz⟩
    have HB2 := Lib.hid (HB.out.trans (bz.mono HB.out.size))
    have KX2 := Lib.hid (KX.out.below bz KX.out.lt)
    clear bz t0 t1 t2 HB KX HC
    obtain ⟨t0, t1, t2⟩ := KX2.out.all
    have HB := HB2
    have KX := KX2
    clear HB2 KX2
    cases q6 with
    | true =>
      obtain rfl : Q = false := HNO.out (.inr (.inr (.inr (.inr (.inr (.inr (.inr (.inr rfl))))))))
      clear HNO HYES HO1 HO2
      go_wp2
      go_ret
      exact ⟨rfl, HB.out⟩
    | false =>
    have hQ : Q = (q7 && q8) := HYES.out (by trivial) (by trivial) (by intro e; rw [e] at d0; cases d0) HM.out.1 HM.out.2.1 HM.out.2.2 (by trivial) (by trivial) (by trivial)
    clear HYES HNO HM
    have HC := Lib.hid (HO1.out W5 HB.out)
    clear HO1
    go_wp2_with fail
    refine HC.out.mono ?_
    rintro e W6 ⟨rfl, bz⟩
    have HB2 := Lib.hid (HB.out.trans (bz.mono HB.out.size))
    have KX2 := Lib.hid (KX.out.below bz KX.out.lt)
    clear bz t0 t1 t2 HB KX HC
    obtain ⟨t0, t1, t2⟩ := KX2.out.all
    have HB := HB2
    have KX := KX2
    clear HB2 KX2
    cases q7 with
    | false =>
      obtain rfl : Q = false := hQ
      clear HO2
      go_wp2
      go_ret
      exact ⟨rfl, HB.out⟩
    | true =>
    obtain rfl : Q = q8 := hQ
    have HC := Lib.hid (HO2.out W6 HB.out)
    clear HO2
    go_wp2_with fail
    refine HC.out.mono ?_
    rintro e W7 ⟨rfl, bz⟩
    have HB2 := Lib.hid (HB.out.trans (bz.mono HB.out.size))
    have KX2 := Lib.hid (KX.out.below bz KX.out.lt)
    clear bz t0 t1 t2 HB KX HC
    obtain ⟨t0, t1, t2⟩ := KX2.out.all
    have HB := HB2
    have KX := KX2
    clear HB2 KX2
    go_wp2
    go_ret
    exact ⟨rfl, HB.out⟩
end Go.Proofs.YtebdkmlganalaaaGreatDoor
