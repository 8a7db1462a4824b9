/- Migrations, plain laws on Apply and Then. TopAccrued, plain: what moves, rights and a migration keep. -/
import Derived.Test.YtebdkmlganalaaaGreatDoorKTopAccruedGBN
import Derived.Test.YtebdkmlganalaaaGreatDoorKTopAccruedQs
namespace Go.Proofs.YtebdkmlganalaaaGreatDoor

theorem apB_iff {m : Mt} {g : Mg} {p q : Pc} {day : Int} : apB m g p q day = true ↔ vdB g p q = true ∧ fmB m = true ∧ m.pr = g.fr ∧ m.st < (p.ss.length : Int) ∧ isB day = true := by
  unfold apB
  simp only [Bool.and_eq_true, decide_eq_true_eq]
section
variable {m : Mt} {g : Mg} {p q : Pc} {day : Int} {l : List Int}
/-- What an Apply without an error shows. -/
theorem apply_ok (h : applyE m g p q day l = 0) : apB m g p q day = true ∧ 0 ≤ newSt g m.st ∧ m.o ≤ day ∧ lastI m.o m.mv ≤ day ∧ chgE g.ts day l m.ls = 0 ∧ applyM m g p q day l = ⟨m.id, m.o, m.cs, g.tn, newSt g m.st, m.mv, mergeR g.rs m.rs, chgL g.ts day l m.ls⟩ := by
  have h' := h
  unfold applyE at h
  cases hp : apB m g p q day with
  | false => rw [hp] at h; simp at h
  | true =>
    rw [hp] at h
    simp only [Bool.true_eq_false, if_false] at h
    by_cases h1 : newSt g m.st < 0
    · rw [if_pos h1] at h; simp at h
    · rw [if_neg h1] at h
      by_cases h2 : day < m.o ∨ day < lastI m.o m.mv
      · rw [if_pos h2] at h; simp at h
      · rw [if_neg h2] at h
        refine ⟨rfl, by omega, by omega, by omega, h, ?_⟩
        unfold applyM
        rw [if_pos h']
theorem apply_no (h : applyE m g p q day l ≠ 0) : applyM m g p q day l = Mt.zero := by unfold applyM; rw [if_neg h]
theorem apply_of (hp : apB m g p q day = true) (h1 : 0 ≤ newSt g m.st) (h2 : m.o ≤ day) (h3 : lastI m.o m.mv ≤ day) : applyE m g p q day l = chgE g.ts day l m.ls := by
  unfold applyE
  rw [hp, if_neg (by simp), if_neg (by omega), if_neg (by omega)]
theorem newSt_mem {s : Int} (h0 : 0 ≤ s) (h : s < (g.st.length : Int)) : newSt g s ∈ g.st := by
  have hk : s.toNat < g.st.length := by omega
  unfold newSt
  rw [List.getElem?_eq_getElem hk]
  exact List.getElem_mem hk
/-- A matter that was carried over is formed, and stands at a stage of the new procedure. -/
theorem apply_fm (h : applyE m g p q day l = 0) : fmB (applyM m g p q day l) = true ∧ (applyM m g p q day l).pr = q.name ∧ (applyM m g p q day l).st < (q.ss.length : Int) := by
  obtain ⟨h1, h2, -, -, h5, h6⟩ := apply_ok h
  obtain ⟨hv, hf, -, hs, -⟩ := apB_iff.1 h1
  obtain ⟨hg, -, -, -, ht, hl, hst⟩ := vdB_iff.1 hv
  obtain ⟨-, g2, -, g4, g5, -⟩ := mgB_iff.1 hg
  obtain ⟨f1, -, f3, f4, f5, f6, f7, f8, f9, f10⟩ := fmB_iff.1 hf
  have hm := newSt_mem (g := g) f4.1 (by omega)
  rw [h6]
  exact ⟨fmB_iff.2 ⟨f1, g2, f3, ⟨h2, (g4 _ hm).2⟩, f5, f6, f7, f8, mergeR_dif (difB_iff.1 g5).1 f9, chgL_dif h5 f10⟩, ht, hst _ hm⟩
theorem apply_vld {d : List Fc} (h : applyE m g p q day l = 0) (hv : vldB m p d = true) : vldB (applyM m g p q day l) q d = true := by
  obtain ⟨a, b, c⟩ := apply_fm h
  obtain ⟨h1, -, -, -, -, h6⟩ := apply_ok h
  obtain ⟨hv', -⟩ := apB_iff.1 h1
  obtain ⟨-, -, hq, -⟩ := vdB_iff.1 hv'
  obtain ⟨-, -, hd, -, -, hc⟩ := vldB_iff.1 hv
  refine vldB_iff.2 ⟨a, hq, hd, b, c, ?_⟩
  rw [h6]
  exact hc
/-- Each right has its new name since no later day; each of the new ones comes from an old one. -/
theorem apply_has {n : ByteArray} {on : Int} (h : applyE m g p q day l = 0) (hh : hasB m.rs n on = true) : hasB (applyM m g p q day l).rs (namedL g.rs n) on = true := by
  obtain ⟨-, -, -, -, -, h6⟩ := apply_ok h
  rw [h6]
  unfold hasB at hh ⊢
  obtain ⟨r, hr, he⟩ := List.any_eq_true.1 hh
  simp only [Bool.and_eq_true, decide_eq_true_eq] at he
  obtain ⟨x, hx, e1, e2⟩ := mergeR_all (rs := g.rs) hr
  refine List.any_eq_true.2 ⟨x, hx, ?_⟩
  simp only [Bool.and_eq_true, decide_eq_true_eq]
  exact ⟨e1.trans (by rw [he.1]), by omega⟩
end

/-! Two in a row. -/
theorem termOf_app (a b : List Lm) (id : ByteArray) : termOf (a ++ b) id = (termOf a id).or (termOf b id) := List.find?_append
theorem termOf_mem {ts : List Lm} {id : ByteArray} {t : Lm} (h : termOf ts id = some t) : id ∈ ts.map (·.id) := by
  unfold termOf at h
  exact List.mem_map.2 ⟨t, List.mem_of_find?_eq_some h, of_decide_eq_true (List.find?_some (p := fun t : Lm => decide (t.id = id)) h)⟩
theorem chg_then {a b : List Lm} {day : Int} {l : List Int} {x : Lm} (hd : ((a ++ b).map (·.id)).Nodup) :
    ((chgS a day l x).2 ≠ 0 → (chgS (a ++ b) day l x).2 ≠ 0) ∧ ((chgS a day l x).2 = 0 → chgS (a ++ b) day l x = chgS b day l (chgS a day l x).1) := by
  have hn : ∀ t, termOf a x.id = some t → termOf b x.id = none := by
    intro t ht
    cases hb : termOf b x.id with
    | none => rfl
    | some u =>
      rw [List.map_append, List.nodup_append] at hd
      exact absurd rfl (hd.2.2 _ (termOf_mem ht) _ (termOf_mem hb))
  cases ha : termOf a x.id with
  | none =>
    have e1 : chgS a day l x = (x, 0) := by unfold chgS; rw [ha]
    have e2 : chgS (a ++ b) day l x = chgS b day l x := by unfold chgS; rw [termOf_app, ha, Option.none_or]
    rw [e1]
    exact ⟨fun h => absurd rfl h, fun _ => e2⟩
  | some t =>
    have e2 : chgS (a ++ b) day l x = chgS a day l x := by unfold chgS; rw [termOf_app, ha, Option.some_or]
    rw [e2]
    refine ⟨id, fun h0 => ?_⟩
    have hid := (chgS_ok h0).1
    have e3 : chgS b day l (chgS a day l x).1 = ((chgS a day l x).1, 0) := by unfold chgS at hid ⊢; rw [hid, hn t ha]
    rw [e3]
    exact Prod.ext rfl h0
section
variable {m : Mt} {g h : Mg} {p b q : Pc} {day : Int} {l : List Int}
theorem then_ok (he : thenE g h = 0) : thenM g h = thenG g h ∧ mgB g = true ∧ mgB h = true ∧ g.tn = h.fr ∧ (∀ s ∈ g.st, s < (h.st.length : Int)) ∧ ((g.ts ++ h.ts).map (·.id)).Nodup ∧ (thenRs g h).length ≤ 60 ∧ (g.ts ++ h.ts).length ≤ 60 := by
  have he' := he
  unfold thenE at he
  cases hc : (mgB g && (mgB h && (decide (g.tn = h.fr) && g.st.all fun s => decide (s < (h.st.length : Int))))) with
  | false => rw [hc] at he; simp at he
  | true =>
    rw [hc] at he
    simp only [Bool.true_eq_false, if_false] at he
    simp only [Bool.and_eq_true, decide_eq_true_eq, List.all_eq_true] at hc
    by_cases h1 : ((g.ts ++ h.ts).map (·.id)).Nodup
    · rw [if_neg (by simpa using h1)] at he
      by_cases h2 : 60 < (thenRs g h).length ∨ 60 < (g.ts ++ h.ts).length
      · rw [if_pos h2] at he; simp at he
      · exact ⟨by unfold thenM; rw [if_pos he'], hc.1, hc.2.1, hc.2.2.1, hc.2.2.2, h1, by omega, by omega⟩
    · rw [if_pos h1] at he; simp at he
theorem newSt_then {s : Int} (h0 : 0 ≤ s) (hl : s < (g.st.length : Int)) : newSt (thenG g h) s = thenSt h (newSt g s) := by
  have hk : s.toNat < g.st.length := by omega
  unfold newSt thenG
  simp only [List.getElem?_map, List.getElem?_eq_getElem hk, Option.map_some, Option.getD_some]
theorem thenSt_in {s : Int} (hg : mgB g = true) (hh : mgB h = true) (hs : s ∈ g.st) (hl : s < (h.st.length : Int)) : -1 ≤ thenSt h s ∧ thenSt h s < 60 := by
  unfold thenSt
  by_cases h0 : 0 ≤ s
  · rw [if_pos h0]; exact (mgB_iff.1 hh).2.2.2.1 _ (newSt_mem h0 hl)
  · rw [if_neg h0]; exact (mgB_iff.1 hg).2.2.2.1 _ hs
theorem then_mg (he : thenE g h = 0) : mgB (thenG g h) = true := by
  obtain ⟨-, hg, hh, -, hs, hd, l1, l2⟩ := then_ok he
  obtain ⟨a1, -, a3, a4, a5, a6⟩ := mgB_iff.1 hg
  obtain ⟨-, b2, -, -, b5, b6⟩ := mgB_iff.1 hh
  obtain ⟨a51, a52, -⟩ := difB_iff.1 a5
  obtain ⟨b51, b52, -⟩ := difB_iff.1 b5
  refine mgB_iff.2 ⟨a1, b2, ⟨by simpa [thenG] using a3.1, by simpa [thenG] using a3.2⟩, fun s hs' => ?_, difB_iff.2 ⟨fun r hr => ?_, ?_, l1⟩, difB_iff.2 ⟨fun t ht => ?_, hd, l2⟩⟩
  · obtain ⟨t, ht, rfl⟩ := List.mem_map.1 hs'
    exact thenSt_in hg hh ht (hs t ht)
  · rcases List.mem_append.1 hr with h1 | h1
    · obtain ⟨r0, hr0, rfl⟩ := List.mem_map.1 h1
      have := a51 r0 hr0
      unfold rnB at this ⊢
      rw [Bool.and_eq_true] at this ⊢
      exact ⟨this.1, namedL_good b51 this.2⟩
    · exact b51 r (List.mem_filter.1 h1).1
  · show ((thenRs g h).map (·.1)).Nodup
    unfold thenRs
    rw [List.map_append, List.map_map, List.nodup_append]
    refine ⟨a52, (b52.sublist (List.Sublist.map _ (List.filter_sublist))), fun x hx y hy => ?_⟩
    obtain ⟨r, hr, rfl⟩ := List.mem_map.1 hy
    have hnot := of_decide_eq_true (List.mem_filter.1 hr).2
    rintro rfl
    exact hnot hx
  · rcases List.mem_append.1 ht with h1 | h1
    · exact (difB_iff.1 a6).1 t h1
    · exact (difB_iff.1 b6).1 t h1
theorem then_vd (he : thenE g h = 0) (hg : vdB g p b = true) (hh : vdB h b q = true) : vdB (thenG g h) p q = true := by
  obtain ⟨-, -, -, -, hs, -⟩ := then_ok he
  obtain ⟨-, a2, -, a4, -, a6, -⟩ := vdB_iff.1 hg
  obtain ⟨hmh, -, b3, -, b5, -, b7⟩ := vdB_iff.1 hh
  refine vdB_iff.2 ⟨then_mg he, a2, b3, a4, b5, by simpa [thenG] using a6, fun s hs' => ?_⟩
  obtain ⟨t, ht, rfl⟩ := List.mem_map.1 hs'
  unfold thenSt
  by_cases h0 : 0 ≤ t
  · rw [if_pos h0]; exact b7 _ (newSt_mem h0 (hs t ht))
  · rw [if_neg h0]; omega
/-- One after the other is possible just if both as one are; then with the same result. -/
theorem chains (he : thenE g h = 0) (hg : vdB g p b = true) (hh : vdB h b q = true) :
    (applyE m g p b day l ≠ 0 ∨ applyE (applyM m g p b day l) h b q day l ≠ 0 → applyE m (thenG g h) p q day l ≠ 0) ∧
    (applyE m g p b day l = 0 → applyE (applyM m g p b day l) h b q day l = 0 → applyE m (thenG g h) p q day l = 0 ∧ applyM m (thenG g h) p q day l = applyM (applyM m g p b day l) h b q day l) := by
  obtain ⟨-, -, -, hto, hsl, hdt, -, -⟩ := then_ok he
  obtain ⟨-, -, -, -, -, hlg, -⟩ := vdB_iff.1 hg
  have hvx := then_vd he hg hh
  have key : applyE m (thenG g h) p q day l = 0 → applyE m g p b day l = 0 ∧ applyE (applyM m g p b day l) h b q day l = 0 ∧ applyM m (thenG g h) p q day l = applyM (applyM m g p b day l) h b q day l := by
    intro h0
    obtain ⟨x1, x2, x3, x4, x5, x6⟩ := apply_ok h0
    obtain ⟨-, hf, hpr, hst, hday⟩ := apB_iff.1 x1
    have h4 := (fmB_iff.1 hf).2.2.2.1
    have hsg : m.st < (g.st.length : Int) := by omega
    rw [newSt_then h4.1 hsg] at x2
    have hn0 : 0 ≤ newSt g m.st := by
      unfold thenSt at x2
      by_cases hz : 0 ≤ newSt g m.st
      · exact hz
      · rw [if_neg hz] at x2; exact x2
    have hthen : thenSt h (newSt g m.st) = newSt h (newSt g m.st) := by unfold thenSt; rw [if_pos hn0]
    have hc := chgE_zero.1 x5
    have c1 : chgE g.ts day l m.ls = 0 := chgE_zero.2 fun x hx => by
      by_cases hz : (chgS g.ts day l x).2 = 0
      · exact hz
      · exact absurd (hc x hx) ((chg_then hdt).1 hz)
    have e1 : applyE m g p b day l = 0 := (apply_of (apB_iff.2 ⟨hg, hf, hpr, hst, hday⟩) hn0 x3 x4).trans c1
    obtain ⟨-, -, -, -, -, m6⟩ := apply_ok e1
    obtain ⟨af, apr, ast⟩ := apply_fm e1
    have hbn : b.name = h.fr := by have := (vdB_iff.1 hh).2.2.2.1; exact this.symm
    have c2 : chgE h.ts day l (applyM m g p b day l).ls = 0 := by
      rw [m6]
      refine chgE_zero.2 fun y hy => ?_
      obtain ⟨x, hx, rfl⟩ := List.mem_map.1 hy
      rw [← (chg_then hdt).2 (chgE_zero.1 c1 x hx)]
      exact hc x hx
    have e2 : applyE (applyM m g p b day l) h b q day l = 0 := by
      rw [apply_of (apB_iff.2 ⟨hh, af, apr.trans hbn, ast, hday⟩) (by rw [m6]; show 0 ≤ newSt h (newSt g m.st); rw [← hthen]; exact x2) (by rw [m6]; exact x3) (by rw [m6]; exact x4)]
      exact c2
    refine ⟨e1, e2, ?_⟩
    obtain ⟨-, -, -, -, -, n6⟩ := apply_ok e2
    rw [n6, x6, m6]
    have r1 : mergeR (thenG g h).rs m.rs = mergeR h.rs (mergeR g.rs m.rs) := (merge_then g h m.rs).symm
    have r2 : chgL (thenG g h).ts day l m.ls = chgL h.ts day l (chgL g.ts day l m.ls) := by
      unfold chgL
      rw [List.map_map]
      refine List.map_congr_left fun x hx => ?_
      show (chgS (g.ts ++ h.ts) day l x).1 = (chgS h.ts day l (chgS g.ts day l x).1).1
      rw [(chg_then hdt).2 (chgE_zero.1 c1 x hx)]
    rw [r1, r2, newSt_then h4.1 hsg, hthen]
    rfl
  refine ⟨fun hor h0 => ?_, fun e1 e2 => ?_⟩
  · obtain ⟨k1, k2, -⟩ := key h0
    rcases hor with h1 | h1
    · exact h1 k1
    · exact h1 k2
  · have h0 : applyE m (thenG g h) p q day l = 0 := by
      obtain ⟨x1, x2, x3, x4, x5, x6⟩ := apply_ok e1
      obtain ⟨-, hf, hpr, hst, hday⟩ := apB_iff.1 x1
      obtain ⟨-, y2, -, -, y5, -⟩ := apply_ok e2
      have h4 := (fmB_iff.1 hf).2.2.2.1
      have hsg : m.st < (g.st.length : Int) := by omega
      rw [x6] at y2 y5
      rw [apply_of (apB_iff.2 ⟨hvx, hf, hpr, hst, hday⟩) (by rw [newSt_then h4.1 hsg]; unfold thenSt; rw [if_pos x2]; exact y2) x3 x4]
      refine chgE_zero.2 fun x hx => ?_
      show (chgS (g.ts ++ h.ts) day l x).2 = 0
      rw [(chg_then hdt).2 (chgE_zero.1 x5 x hx)]
      exact chgE_zero.1 y5 _ (List.mem_map.2 ⟨x, hx, rfl⟩)
    exact ⟨h0, (key h0).2.2⟩

/-! One that keeps all. -/
def sameG (p : Pc) : Mg := ⟨p.name, p.name, (List.range p.ss.length).map fun i : Nat => (i : Int), [], []⟩
theorem same_st {s : Int} (h0 : 0 ≤ s) (h1 : s < (p.ss.length : Int)) : newSt (sameG p) s = s := by
  have hk : s.toNat < p.ss.length := by omega
  unfold newSt sameG
  simp only [List.getElem?_map, List.getElem?_range hk, Option.map_some, Option.getD_some]
  omega
theorem chgE_nil (ls : List Lm) : chgE [] day l ls = 0 := chgE_zero.2 fun _ _ => rfl
theorem same_apply : (applyE m (sameG p) p p day l = 0 ∧ applyM m (sameG p) p p day l = m) ∨ applyE m (sameG p) p p day l = 1 ∨ applyE m (sameG p) p p day l = 24 := by
  cases hp : apB m (sameG p) p p day with
  | false => exact .inr (.inl (by unfold applyE; rw [hp, if_pos rfl]))
  | true =>
    obtain ⟨-, hf, hpr, hst, -⟩ := apB_iff.1 hp
    obtain ⟨-, -, -, f4, -, -, -, -, f9, -⟩ := fmB_iff.1 hf
    have hn := same_st f4.1 hst
    by_cases h2 : day < m.o ∨ day < lastI m.o m.mv
    · exact .inr (.inr (by unfold applyE; rw [hp, if_neg (by simp), if_neg (by rw [hn]; omega), if_pos h2]))
    · have h0 : applyE m (sameG p) p p day l = 0 := (apply_of hp (by rw [hn]; omega) (by omega) (by omega)).trans (chgE_nil _)
      refine .inl ⟨h0, ?_⟩
      obtain ⟨-, -, -, -, -, h6⟩ := apply_ok h0
      rw [h6, hn]
      have r1 : mergeR (sameG p).rs m.rs = m.rs := merge_nil _ (difB_iff.1 f9).2.1
      have r2 : chgL (sameG p).ts day l m.ls = m.ls := (List.map_congr_left (g := id) fun _ _ => rfl).trans (List.map_id _)
      have r3 : (sameG p).tn = m.pr := hpr.symm
      rw [r1, r2, r3]
theorem same_then (he : thenE (sameG p) g = 0) (hl : g.st.length = p.ss.length) : thenG (sameG p) g = g := by
  obtain ⟨-, -, -, hto, -⟩ := then_ok he
  have r0 : (sameG p).fr = g.fr := hto
  have r1 : (sameG p).st.map (thenSt g) = g.st := by
    apply List.ext_getElem?
    intro i
    rw [List.getElem?_map]
    unfold sameG
    simp only [List.getElem?_map]
    by_cases hi : i < p.ss.length
    · rw [List.getElem?_range hi, Option.map_some, Option.map_some]
      unfold thenSt newSt
      rw [if_pos (Int.natCast_nonneg i), Int.toNat_natCast, List.getElem?_eq_getElem (by omega)]
      rfl
    · rw [List.getElem?_eq_none (by rw [List.length_range]; omega), List.getElem?_eq_none (by omega)]
      rfl
  have r2 : thenRs (sameG p) g = g.rs := by
    unfold thenRs sameG
    simp
  show (⟨(sameG p).fr, g.tn, (sameG p).st.map (thenSt g), thenRs (sameG p) g, [] ++ g.ts⟩ : Mg) = g
  rw [r0, r1, r2, List.nil_append]
end
end Go.Proofs.YtebdkmlganalaaaGreatDoor

namespace Go.Proofs.YtebdkmlganalaaaGreatDoor
open Go.RowKit Go.Shelf

theorem hasB_iff {l : List Rt} {n : ByteArray} {d : Int} : hasB l n d = true ↔ ∃ r ∈ l, r.1 = n ∧ r.2 ≤ d := by
  unfold hasB
  simp only [List.any_eq_true, Bool.and_eq_true, decide_eq_true_eq]
theorem has_mono {l : List Rt} {n : ByteArray} {a b : Int} (hab : a ≤ b) (h : hasB l n a = true) : hasB l n b = true := by
  obtain ⟨r, hr, h1, h2⟩ := hasB_iff.1 h
  exact hasB_iff.2 ⟨r, hr, h1, by omega⟩
theorem grantE_ok {m : Mt} {n : ByteArray} {d : Int} (h : grantE m n d = 0) : fmB m = true ∧ nameB n = true ∧ isB d = true ∧ hasB m.rs n 1000000 = false ∧ m.o ≤ d ∧ m.rs.length < 60 := by
  cases h1 : (fmB m && (nameB n && isB d)) with
  | false => rw [grantE1 h1] at h; cases h
  | true =>
    cases h2 : hasB m.rs n 1000000 with
    | true => rw [grantE9 h1 h2] at h; cases h
    | false =>
      by_cases h3 : d < m.o
      · rw [grantE24 h1 h2 h3] at h; cases h
      · by_cases h4 : 60 ≤ m.rs.length
        · rw [grantE2 h1 h2 h3 h4] at h; cases h
        · rw [Bool.and_eq_true, Bool.and_eq_true] at h1
          exact ⟨h1.1, h1.2.1, h1.2.2, rfl, by omega, by omega⟩
theorem rights_other {m : Mt} {n : ByteArray} (hf : fmB m = true) (h : hasB m.rs n 1000000 = false) : ∀ r ∈ m.rs, r.1 ≠ n := fun r hr e => by
  have h9 := (difB_iff.1 (fmB_iff.1 hf).2.2.2.2.2.2.2.2.1).1 r hr
  unfold rtB at h9
  rw [Bool.and_eq_true, Bool.and_eq_true] at h9
  have := (isB_iff _).1 h9.2.2
  have : hasB m.rs n 1000000 = true := hasB_iff.2 ⟨r, hr, e, by omega⟩
  rw [h] at this
  cases this
theorem has_new {l : List Rt} {n : ByteArray} {d t : Int} (h : ∀ r ∈ l, r.1 ≠ n) : hasB (l ++ [(n, d)]) n t = decide (d ≤ t) := by
  by_cases hd : d ≤ t
  · rw [decide_eq_true hd]
    exact hasB_iff.2 ⟨(n, d), by simp, rfl, hd⟩
  · rw [decide_eq_false hd]
    cases hh : hasB (l ++ [(n, d)]) n t with
    | false => rfl
    | true =>
      obtain ⟨r, hr, h1, h2⟩ := hasB_iff.1 hh
      rcases List.mem_append.1 hr with hr | hr
      · exact absurd h1 (h r hr)
      · rw [List.mem_singleton] at hr
        subst hr
        exact absurd h2 hd
theorem grant_again {m : Mt} {l : List Rt} {n : ByteArray} {d t : Int} (h : isB d = true) (hr : m.rs = l ++ [(n, d)]) : grantE m n t = 9 ∨ grantE m n t = 1 := by
  cases h1 : (fmB m && (nameB n && isB t)) with
  | false => exact .inr (grantE1 h1)
  | true =>
    have h2 : hasB m.rs n 1000000 = true := hasB_iff.2 ⟨(n, d), by rw [hr]; simp, rfl, ((isB_iff d).1 h).2⟩
    exact .inl (grantE9 h1 h2)
theorem bne_str {a b : ByteArray} (h : a ≠ b) : (a.toList == b.toList) = false := by
  rw [beq_eq_false_iff_ne]
  intro e
  rw [Lib.toList_data, Lib.toList_data] at e
  exact h (ByteArray.ext (Array.toList_inj.1 e))

theorem moveE_ok {m : Mt} {p : Pc} {s day : Int} (h : moveE m p s day = 0) : fmB m = true ∧ pcB p = true ∧ isB day = true ∧ 0 ≤ s ∧ s < (p.ss.length : Int) ∧ (m.st, s) ∈ p.ms ∧ m.o ≤ day ∧ lastI m.o m.mv ≤ day ∧ m.mv.length < 60 := by
  unfold moveE at h
  split at h
  · cases h
  · rename_i h1
    split at h
    · cases h
    · rename_i h2
      split at h
      · cases h
      · rename_i h3
        split at h
        · cases h
        · rename_i h4
          split at h
          · cases h
          · rename_i h5
            simp only [Bool.not_eq_true, Bool.not_eq_false', Bool.and_eq_true] at h1
            exact ⟨h1.1, h1.2.1, h1.2.2.2.2, by omega, by omega, Decidable.of_not_not h3, by omega, by omega, by omega⟩
theorem pc_ss {p : Pc} (h : pcB p = true) : p.ss.length ≤ 60 := by
  unfold pcB at h
  simp only [Bool.and_eq_true] at h
  exact (difB_iff.1 h.2.2.1).2.2
theorem vld_move {m : Mt} {p : Pc} {d : List Fc} {s day : Int} (h : vldB m p d = true) (hE : moveE m p s day = 0) : vldB { m with st := s, mv := m.mv ++ [day] } p d = true := by
  obtain ⟨h1, h2, h3, h4, h5, h6⟩ := vldB_iff.1 h
  obtain ⟨e1, e2, e3, e4, e5, e6, e7, e8, e9⟩ := moveE_ok hE
  obtain ⟨f1, f2, f3, f4, f5, f6, f7, f8, f9, f10⟩ := fmB_iff.1 h1
  have hp := pc_ss h2
  refine vldB_iff.2 ⟨fmB_iff.2 ⟨f1, f2, f3, ⟨e4, by show s < 60; omega⟩, f5, f6, ?_, ?_, f9, f10⟩, h2, h3, h4, e5, h6⟩
  · show upB m.o (m.mv ++ [day]) = true
    rw [upB_app, f7, Bool.true_and, decide_eq_true_eq]
    exact ⟨e8, ((isB_iff day).1 e3).2⟩
  · show (m.mv ++ [day]).length ≤ 60
    rw [List.length_append]
    simp only [List.length_cons, List.length_nil]
    omega
theorem vld_grant {m : Mt} {p : Pc} {d : List Fc} {n : ByteArray} {day : Int} (h : vldB m p d = true) (hE : grantE m n day = 0) : vldB { m with rs := m.rs ++ [(n, day)] } p d = true := by
  obtain ⟨h1, h2, h3, h4, h5, h6⟩ := vldB_iff.1 h
  obtain ⟨g1, g2, g3, g4, g5, g6⟩ := grantE_ok hE
  obtain ⟨f1, f2, f3, f4, f5, f6, f7, f8, f9, f10⟩ := fmB_iff.1 h1
  have ho := rights_other g1 g4
  obtain ⟨k1, k2, k3⟩ := difB_iff.1 f9
  refine vldB_iff.2 ⟨fmB_iff.2 ⟨f1, f2, f3, f4, f5, f6, f7, f8, difB_iff.2 ⟨fun x hx => ?_, ?_, ?_⟩, f10⟩, h2, h3, h4, h5, h6⟩
  · rcases List.mem_append.1 hx with hx | hx
    · exact k1 x hx
    · rw [List.mem_singleton] at hx
      subst hx
      unfold rtB
      rw [g2, g3, decide_eq_true g5]
      rfl
  · show ((m.rs ++ [(n, day)]).map (·.1)).Nodup
    rw [List.map_append, List.nodup_append]
    refine ⟨k2, by simp, fun a ha b hb => ?_⟩
    have hbn : b = n := by simpa using hb
    obtain ⟨r, hr, rfl⟩ := List.mem_map.1 ha
    rw [hbn]
    exact ho r hr
  · show (m.rs ++ [(n, day)]).length ≤ 60
    rw [List.length_append]
    simp only [List.length_cons, List.length_nil]
    omega
theorem has_self {l : List Rt} {r : Rt} (h : r ∈ l) : hasB l r.1 r.2 = true := hasB_iff.2 ⟨r, h, rfl, Int.le_refl _⟩

/-- What holds of a matter that stands in a procedure, and of the rights that it had. -/
structure AccI (d : List Fc) (m : Mt) (p : Pc) (had : List Rt) : Prop where
  v : vldB m p d = true
  h : ∀ r ∈ had, hasB m.rs r.1 r.2 = true
section
variable {d : List Fc} {m : Mt} {p q : Pc} {g : Mg} {had : List Rt} {n : ByteArray} {day s : Int} {l : List Int}
theorem AccI.start (h : vldB m p d = true) : AccI d m p m.rs := ⟨h, fun _ hr => has_self hr⟩
theorem AccI.over (h : AccI d m p had) (he : applyE m g p q day l = 0) : AccI d (applyM m g p q day l) q (had.map fun r => (namedL g.rs r.1, r.2)) := ⟨apply_vld he h.v, fun r hr => by
  obtain ⟨x, hx, rfl⟩ := List.mem_map.1 hr
  exact apply_has he (h.h x hx)⟩
theorem AccI.grant (h : AccI d m p had) (he : grantE m n day = 0) : AccI d (grantM m n day) p (had ++ [(n, day)]) := by
  have e : grantM m n day = { m with rs := m.rs ++ [(n, day)] } := if_pos he
  rw [e]
  refine ⟨vld_grant h.v he, fun r hr => ?_⟩
  rcases List.mem_append.1 hr with h1 | h1
  · obtain ⟨x, hx, a1, a2⟩ := hasB_iff.1 (h.h r h1)
    exact hasB_iff.2 ⟨x, List.mem_append_left _ hx, a1, a2⟩
  · rw [List.mem_singleton.1 h1]
    exact hasB_iff.2 ⟨(n, day), by simp, rfl, Int.le_refl _⟩
theorem AccI.move (h : AccI d m p had) (he : moveE m p s day = 0) : AccI d (moveM m p s day) p had := by
  have e : moveM m p s day = { m with st := s, mv := m.mv ++ [day] } := if_pos he
  rw [e]
  exact ⟨vld_move h.v he, h.h⟩
/-- What each step leaves as it is. -/
theorem over_same (he : applyE m g p q day l = 0) : (applyM m g p q day l).id = m.id ∧ (applyM m g p q day l).o = m.o ∧ (applyM m g p q day l).cs = m.cs := by
  obtain ⟨-, -, -, -, -, h6⟩ := apply_ok he
  rw [h6]
  exact ⟨rfl, rfl, rfl⟩
theorem grant_same (he : grantE m n day = 0) : (grantM m n day).id = m.id ∧ (grantM m n day).o = m.o ∧ (grantM m n day).cs = m.cs := by
  rw [show grantM m n day = { m with rs := m.rs ++ [(n, day)] } from if_pos he]
  exact ⟨rfl, rfl, rfl⟩
theorem move_same (he : moveE m p s day = 0) : (moveM m p s day).id = m.id ∧ (moveM m p s day).o = m.o ∧ (moveM m p s day).cs = m.cs := by
  rw [show moveM m p s day = { m with st := s, mv := m.mv ++ [day] } from if_pos he]
  exact ⟨rfl, rfl, rfl⟩
end
/-- Days in order: each is no less than the one ahead. -/
theorem upB_next : ∀ {l : List Int} {a x y : Int} {i : Nat}, upB a l = true → l[i]? = some x → l[i + 1]? = some y → x ≤ y
  | [], _, _, _, _, _, h, _ => by simp at h
  | [_], _, _, _, i, _, _, h => by simp at h
  | u :: v :: l, a, x, y, 0, h, hx, hy => by
    have hx : u = x := by simpa using hx
    have hy : v = y := by simpa using hy
    subst hx hy
    have h' : (decide (a ≤ u ∧ u ≤ 1000000) && (decide (u ≤ v ∧ v ≤ 1000000) && upB v l)) = true := h
    simp only [Bool.and_eq_true, decide_eq_true_eq] at h'
    exact h'.2.1.1
  | u :: v :: l, a, x, y, i + 1, h, hx, hy => by
    have h' : (decide (a ≤ u ∧ u ≤ 1000000) && upB u (v :: l)) = true := h
    rw [Bool.and_eq_true] at h'
    exact upB_next (l := v :: l) (i := i) h'.2 (by simpa using hx) (by simpa using hy)
end Go.Proofs.YtebdkmlganalaaaGreatDoor
