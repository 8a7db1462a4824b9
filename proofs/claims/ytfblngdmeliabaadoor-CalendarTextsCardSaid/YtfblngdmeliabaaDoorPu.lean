/- The walk of CalendarTexts. -/
import Derived.Test.YtfblngdmeliabaaDoorPq
import Derived.Test.YtfblngdmeliabaaDoorCk
namespace Go.Proofs.YtfblngdmeliabaaDoor
open Go.RowKit Go.Shelf

theorem bytes_of {s t : ByteArray} (h : s.data.toList = t.data.toList) : s = t := ByteArray.ext (Array.ext' h)

set_option maxRecDepth 100000 in
set_option maxHeartbeats 4000000 in
theorem texts_walk (w : World) (ht : Tab w ∧ MaxL w) (a : Int) (_wa : (Lit.int .i64 a).wf = true) (b : Int) (_wb : (Lit.int .i64 b).wf = true) (t : ByteArray) (_wt : t.size ≤ maxLen) : Calls Tryd.prog 10 #[.int .i64 a, .int .i64 b, .string t] w fun e w' => e = .returned (.bool true) ∧ Below w.heap.size w w' := by
  obtain ⟨ht, hm⟩ := ht
  have HT := Lib.hid ht
  have HM := Lib.hid hm
  clear ht hm
  by_cases h40 : 40 < t.size
  · have d1 : decide (40 < (t.size : Int)) = true := decide_eq_true (by omega)
    go_enter Tryd.func10, Tryd.ntmps10
    go_wp2_with fail
    refine (head_any _ HT.out).mono ?_
    rintro e w1 ⟨rfl, hb⟩
    go_wp2
    go_ret
    exact ⟨rfl, hb⟩
  have d1 : decide (40 < (t.size : Int)) = false := decide_eq_false (by omega)
  have h40 : t.size ≤ 40 := by omega
  have hpa := fun W h => parse_any W h t h40
  obtain ⟨m, f, hp⟩ : ∃ m f, parseL t.data.toList = (m, f) := ⟨_, _, rfl⟩
  have h2 := parseL_two t.data.toList
  have htx : f = 0 → textS m = t := fun hf => by
    have := (text_parse (l := t.data.toList) (by rw [hp]; exact hf)).2
    rw [hp] at this
    exact bytes_of this
  rw [hp] at hpa h2
  simp only at hpa h2
  have hf5 : f = 0 ∨ (f = 5 ∧ m = 0) := h2.imp id (fun h => by injection h with h3 h4; exact ⟨h4, h3⟩)
  have HPA := Lib.hid hpa
  have HTX := Lib.hid htx
  have HF := Lib.hid hf5
  clear hpa htx h2 hp hf5
  -- the texts of the two days
  obtain ⟨sa, hsa⟩ : ∃ sa, textS a = sa := ⟨_, rfl⟩
  obtain ⟨sb, hsb⟩ : ∃ sb, textS b = sb := ⟨_, rfl⟩
  obtain ⟨na, ea, hpa⟩ : ∃ na ea, parseL sa.data.toList = (na, ea) := ⟨_, _, rfl⟩
  have hta := fun W h => text_any W h a
  have htb := fun W h => text_any W h b
  rw [hsa] at hta
  rw [hsb] at htb
  have hsz : sa.size ≤ 40 := by
    cases h : isB a with
    | true => have := textS_size h; rw [hsa] at this; omega
    | false => have := textS_bad h; rw [hsa] at this; subst this; decide
  have hpp := fun W h => parse_any W h sa hsz
  rw [hpa] at hpp
  have HTA := Lib.hid hta
  have HTB := Lib.hid htb
  have HPP := Lib.hid hpp
  have HSZ := Lib.hid hsz
  clear hta htb hpp hsz
  have key : ((isB a = false ∧ sa = ⟨#[]⟩ ∧ na = 0 ∧ ea = 5) ∨ (isB a = true ∧ isB b = false ∧ sb = ⟨#[]⟩ ∧ na = a ∧ ea = 0 ∧ sa.size = 10 ∧ sa.toList.isEmpty = false)) ∨ (isB a = true ∧ isB b = true ∧ na = a ∧ ea = 0 ∧ sa.size = 10 ∧ sa.toList.isEmpty = false ∧ sb.toList.isEmpty = false ∧ Op.bytesLess sa.toList sb.toList = decide (a < b)) := by
    have ne : ∀ {s : ByteArray}, s.size = 10 → s.toList.isEmpty = false := fun {s} h => by
      rw [Lib.toList_data]
      have := sizes_of s
      cases hl : s.data.toList with
      | nil => rw [hl] at this; simp at this; omega
      | cons x l => rfl
    cases ha : isB a with
    | false =>
      have := textS_bad ha
      rw [hsa] at this
      subst this
      rw [parseL_no (fun h => by have := h.1; simp at this)] at hpa
      injection hpa with h1 h2
      exact .inl (.inl ⟨rfl, rfl, h1.symm, h2.symm⟩)
    | true =>
      have h1 := parse_text ha
      rw [hsa, hpa] at h1
      injection h1 with h1 h3
      have h4 := textS_size ha
      rw [hsa] at h4
      cases hb : isB b with
      | false =>
        have := textS_bad hb
        rw [hsb] at this
        exact .inl (.inr ⟨rfl, rfl, this, h1, h3, h4, ne h4⟩)
      | true =>
        have h5 := textS_size hb
        have h6 := text_order ha hb
        rw [hsa, hsb] at h6
        rw [hsb] at h5
        refine .inr ⟨rfl, rfl, h1, h3, h4, ne h4, ne h5, ?_⟩
        rw [Lib.toList_data, Lib.toList_data]
        exact h6
  clear hsa hsb hpa
  rcases key with (⟨ha, rfl, rfl, rfl⟩ | ⟨ha, hb, rfl, rfl, rfl, h10, hne⟩) | ⟨ha, hb, rfl, rfl, h10, hne, hnb, hls⟩
  · have hr : a < 0 ∨ (0 ≤ a ∧ 1000000 < a) := by
      rcases Classical.em (0 ≤ a ∧ a ≤ 1000000) with h | h
      · have := (isB_iff a).2 h; rw [ha] at this; cases this
      · omega
    clear ha
    rcases hr with hr | ⟨hr0, hr⟩
    · have q1 : decide (0 ≤ a) = false := decide_eq_false (by omega)
      clear hr
      go_enter Tryd.func10, Tryd.ntmps10
      go_wp2_with fail
      refine (head_any _ HT.out).mono ?_
      rintro e w1 ⟨rfl, hb⟩
      go_wp2_with fail
      refine (HTA.out _ (HT.out.below hb)).mono ?_
      rintro e w2 ⟨rfl, b2⟩
      replace hb := Below.then hb b2; clear b2
      go_wp2_with fail
      refine (HTB.out _ (HT.out.below hb)).mono ?_
      rintro e w3 ⟨rfl, b2⟩
      replace hb := Below.then hb b2; clear b2
      go_wp2_with fail
      refine (HPP.out _ (HM.out.below hb)).mono ?_
      rintro e w4 ⟨rfl, b2⟩
      replace hb := Below.then hb b2; clear b2
      go_wp2_with fail
      refine (HPA.out _ (HM.out.below hb)).mono ?_
      rintro e w5 ⟨rfl, b2⟩
      replace hb := Below.then hb b2; clear b2
      rcases HF.out with rfl | ⟨rfl, rfl⟩
      · have htt := fun W h => text_any W h m
        rw [HTX.out rfl] at htt
        have HTT := Lib.hid htt
        clear htt
        go_wp2_with fail
        refine (HTT.out _ (HT.out.below hb)).mono ?_
        rintro e w6 ⟨rfl, b2⟩
        replace hb := Below.then hb b2; clear b2
        go_wp2
        go_ret
        exact ⟨rfl, hb⟩
      · go_wp2
        go_ret
        exact ⟨rfl, hb⟩
    · have q1 : decide (0 ≤ a) = true := decide_eq_true hr0
      have q2 : decide (a ≤ 1000000) = false := decide_eq_false (by omega)
      clear hr0 hr
      go_enter Tryd.func10, Tryd.ntmps10
      go_wp2_with fail
      refine (head_any _ HT.out).mono ?_
      rintro e w1 ⟨rfl, hb⟩
      go_wp2_with fail
      refine (HTA.out _ (HT.out.below hb)).mono ?_
      rintro e w2 ⟨rfl, b2⟩
      replace hb := Below.then hb b2; clear b2
      go_wp2_with fail
      refine (HTB.out _ (HT.out.below hb)).mono ?_
      rintro e w3 ⟨rfl, b2⟩
      replace hb := Below.then hb b2; clear b2
      go_wp2_with fail
      refine (HPP.out _ (HM.out.below hb)).mono ?_
      rintro e w4 ⟨rfl, b2⟩
      replace hb := Below.then hb b2; clear b2
      go_wp2_with fail
      refine (HPA.out _ (HM.out.below hb)).mono ?_
      rintro e w5 ⟨rfl, b2⟩
      replace hb := Below.then hb b2; clear b2
      rcases HF.out with rfl | ⟨rfl, rfl⟩
      · have htt := fun W h => text_any W h m
        rw [HTX.out rfl] at htt
        have HTT := Lib.hid htt
        clear htt
        go_wp2_with fail
        refine (HTT.out _ (HT.out.below hb)).mono ?_
        rintro e w6 ⟨rfl, b2⟩
        replace hb := Below.then hb b2; clear b2
        go_wp2
        go_ret
        exact ⟨rfl, hb⟩
      · go_wp2
        go_ret
        exact ⟨rfl, hb⟩
  · obtain ⟨a0, a1⟩ := (isB_iff na).1 ha
    have q1 : decide (0 ≤ na) = true := decide_eq_true a0
    have q2 : decide (na ≤ 1000000) = true := decide_eq_true a1
    have q3 : ((sa.size : Int) != 10) = false := by rw [h10]; rfl
    have q4 : ((sa.size : Int) == 10) = true := by rw [h10]; rfl
    have q5 : ¬ sa.toList = [] := by intro h; rw [h] at hne; cases hne
    clear ha hb h10 a0 a1
    go_enter Tryd.func10, Tryd.ntmps10
    go_wp2_with fail
    refine (head_any _ HT.out).mono ?_
    rintro e w1 ⟨rfl, hb⟩
    go_wp2_with fail
    refine (HTA.out _ (HT.out.below hb)).mono ?_
    rintro e w2 ⟨rfl, b2⟩
    replace hb := Below.then hb b2; clear b2
    go_wp2_with fail
    refine (HTB.out _ (HT.out.below hb)).mono ?_
    rintro e w3 ⟨rfl, b2⟩
    replace hb := Below.then hb b2; clear b2
    go_wp2_with fail
    refine (HPP.out _ (HM.out.below hb)).mono ?_
    rintro e w4 ⟨rfl, b2⟩
    replace hb := Below.then hb b2; clear b2
    go_wp2_with fail
    refine (HPA.out _ (HM.out.below hb)).mono ?_
    rintro e w5 ⟨rfl, b2⟩
    replace hb := Below.then hb b2; clear b2
    rcases HF.out with rfl | ⟨rfl, rfl⟩
    · have htt := fun W h => text_any W h m
      rw [HTX.out rfl] at htt
      have HTT := Lib.hid htt
      clear htt
      go_wp2_with fail
      refine (HTT.out _ (HT.out.below hb)).mono ?_
      rintro e w6 ⟨rfl, b2⟩
      replace hb := Below.then hb b2; clear b2
      go_wp2
      go_ret
      exact ⟨rfl, hb⟩
    · go_wp2
      go_ret
      exact ⟨rfl, hb⟩
  · obtain ⟨a0, a1⟩ := (isB_iff na).1 ha
    have q1 : decide (0 ≤ na) = true := decide_eq_true a0
    have q2 : decide (na ≤ 1000000) = true := decide_eq_true a1
    have q3 : ((sa.size : Int) != 10) = false := by rw [h10]; rfl
    have q4 : ((sa.size : Int) == 10) = true := by rw [h10]; rfl
    have q5 : ¬ sa.toList = [] := by intro h; rw [h] at hne; cases hne
    have q6 : ¬ sb.toList = [] := by intro h; rw [h] at hnb; cases hnb
    clear ha hb h10 a0 a1
    go_enter Tryd.func10, Tryd.ntmps10
    go_wp2_with fail
    refine (head_any _ HT.out).mono ?_
    rintro e w1 ⟨rfl, hb⟩
    go_wp2_with fail
    refine (HTA.out _ (HT.out.below hb)).mono ?_
    rintro e w2 ⟨rfl, b2⟩
    replace hb := Below.then hb b2; clear b2
    go_wp2_with fail
    refine (HTB.out _ (HT.out.below hb)).mono ?_
    rintro e w3 ⟨rfl, b2⟩
    replace hb := Below.then hb b2; clear b2
    go_wp2_with fail
    refine (HPP.out _ (HM.out.below hb)).mono ?_
    rintro e w4 ⟨rfl, b2⟩
    replace hb := Below.then hb b2; clear b2
    go_wp2_with fail
    refine (HPA.out _ (HM.out.below hb)).mono ?_
    rintro e w5 ⟨rfl, b2⟩
    replace hb := Below.then hb b2; clear b2
    rcases HF.out with rfl | ⟨rfl, rfl⟩
    · have htt := fun W h => text_any W h m
      rw [HTX.out rfl] at htt
      have HTT := Lib.hid htt
      clear htt
      go_wp2_with fail
      refine (HTT.out _ (HT.out.below hb)).mono ?_
      rintro e w6 ⟨rfl, b2⟩
      replace hb := Below.then hb b2; clear b2
      go_wp2
      go_ret
      exact ⟨rfl, hb⟩
    · go_wp2
      go_ret
      exact ⟨rfl, hb⟩
end Go.Proofs.YtfblngdmeliabaaDoor
