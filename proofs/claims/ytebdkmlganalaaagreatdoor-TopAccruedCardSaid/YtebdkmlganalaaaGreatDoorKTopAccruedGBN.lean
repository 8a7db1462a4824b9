/- Migrations, plain laws: what stays, what is carried over; two in a row; one that keeps all. Package migrate's named and renamed. Apply, plain: one more right, one more limit; the map from names to places. -/
import Derived.Test.YtebdkmlganalaaaGreatDoorKTopAccruedGAY
import Derived.Test.YtebdkmlganalaaaGreatDoorKTopAccruedGBM
import Derived.Test.YtebdkmlganalaaaGreatDoorKTopAccruedMk
namespace Go.Proofs.YtebdkmlganalaaaGreatDoor

/-! Limits under new terms. -/
def termOf (ts : List Lm) (id : ByteArray) : Option Lm := ts.find? fun t => decide (t.id = id)
noncomputable def chgS (ts : List Lm) (day : Int) (l : List Int) (x : Lm) : Lm × Int :=
  match termOf ts x.id with
  | some t => changeS x day t.n t.u t.f l
  | none => (x, 0)
/-- The first error. -/
noncomputable def chgE (ts : List Lm) (day : Int) (l : List Int) : List Lm → Int
  | [] => 0
  | x :: xs => if (chgS ts day l x).2 ≠ 0 then (chgS ts day l x).2 else chgE ts day l xs
noncomputable def chgL (ts : List Lm) (day : Int) (l : List Int) (ls : List Lm) : List Lm := ls.map fun x => (chgS ts day l x).1
noncomputable def applyE (m : Mt) (g : Mg) (p q : Pc) (day : Int) (l : List Int) : Int :=
  if apB m g p q day = false then 1
  else if newSt g m.st < 0 then 12
  else if day < m.o ∨ day < lastI m.o m.mv then 24
  else chgE g.ts day l m.ls
noncomputable def applyM (m : Mt) (g : Mg) (p q : Pc) (day : Int) (l : List Int) : Mt :=
  if applyE m g p q day l = 0 then ⟨m.id, m.o, m.cs, g.tn, newSt g m.st, m.mv, mergeR g.rs m.rs, chgL g.ts day l m.ls⟩ else Mt.zero

/-! Names. -/
theorem namedL_some {rs : List (ByteArray × ByteArray)} {n : ByteArray} {r : ByteArray × ByteArray} (h : (rs.find? fun r => decide (r.1 = n)) = some r) : namedL rs n = r.2 := by unfold namedL; rw [h]
theorem namedL_none {rs : List (ByteArray × ByteArray)} {n : ByteArray} (h : (rs.find? fun r => decide (r.1 = n)) = none) : namedL rs n = n := by unfold namedL; rw [h]
theorem namedL_nil (n : ByteArray) : namedL [] n = n := rfl
theorem find_none {rs : List (ByteArray × ByteArray)} {n : ByteArray} : (rs.find? fun r => decide (r.1 = n)) = none ↔ n ∉ rs.map (·.1) := by
  rw [List.find?_eq_none, List.mem_map]
  constructor
  · rintro h ⟨r, hr, he⟩
    exact h r hr (decide_eq_true he)
  · intro h r hr he
    exact h ⟨r, hr, of_decide_eq_true he⟩
theorem namedL_good {rs : List (ByteArray × ByteArray)} (h : ∀ r ∈ rs, rnB r = true) {n : ByteArray} (hn : nameB n = true) : nameB (namedL rs n) = true := by
  cases hf : rs.find? fun r => decide (r.1 = n) with
  | none => rw [namedL_none hf]; exact hn
  | some r =>
    rw [namedL_some hf]
    have := h r (List.mem_of_find?_eq_some hf)
    unfold rnB at this
    exact (Bool.and_eq_true _ _ ▸ this).2
/-- The last of the entries is the first: keys are different. -/
theorem namedL_at {rs : List (ByteArray × ByteArray)} (h : (rs.map (·.1)).Nodup) {r : ByteArray × ByteArray} (hr : r ∈ rs) : namedL rs r.1 = r.2 := by
  cases hf : rs.find? fun x => decide (x.1 = r.1) with
  | none => exact absurd (List.mem_map.2 ⟨r, hr, rfl⟩) (find_none.1 hf)
  | some x =>
    rw [namedL_some hf]
    have hx := List.mem_of_find?_eq_some hf
    have he : x.1 = r.1 := of_decide_eq_true (List.find?_some (p := fun x : ByteArray × ByteArray => decide (x.1 = r.1)) hf)
    obtain ⟨i, hi⟩ := List.getElem?_of_mem hx
    obtain ⟨j, hj⟩ := List.getElem?_of_mem hr
    have h1 : (rs.map (·.1))[i]? = some x.1 := by rw [List.getElem?_map, hi]; rfl
    have h2 : (rs.map (·.1))[j]? = some x.1 := by rw [List.getElem?_map, hj, he]; rfl
    have hij := (List.getElem?_inj (List.getElem?_eq_some_iff.1 h1).1 h).1 (h1.trans h2.symm)
    subst hij
    rw [hi] at hj
    injection hj with hj
    rw [hj]

/-! Rights. -/
theorem rtB_iff {o : Int} {r : Rt} : rtB o r = true ↔ nameB r.1 = true ∧ o ≤ r.2 ∧ isB r.2 = true := by
  unfold rtB
  simp only [Bool.and_eq_true, decide_eq_true_eq]
theorem mergeR_dif {rs : List (ByteArray × ByteArray)} {o : Int} {l : List Rt} (hg : ∀ r ∈ rs, rnB r = true) (h : difB (·.1) (rtB o) l = true) : difB (·.1) (rtB o) (mergeR rs l) = true := by
  obtain ⟨h1, -, h3⟩ := difB_iff.1 h
  refine difB_iff.2 ⟨fun x hx => ?_, mergeR_nodup rs l, Nat.le_trans (mergeR_len rs l) h3⟩
  obtain ⟨r, hr, rfl⟩ := mergeR_mem hx
  obtain ⟨a, b, c⟩ := rtB_iff.1 (h1 r hr)
  exact rtB_iff.2 ⟨namedL_good hg a, b, c⟩
theorem putR_mem_names {out : List Rt} {n : ByteArray} {s : Int} {k : ByteArray} (h : k ∈ out.map (·.1)) : k ∈ (putR out n s).map (·.1) := by
  rw [putR_names]
  split
  · exact h
  · exact List.mem_append_left _ h
theorem putR_self (out : List Rt) (n : ByteArray) (s : Int) : n ∈ (putR out n s).map (·.1) := by
  rw [putR_names]
  split
  · assumption
  · exact List.mem_append_right _ (by simp)
theorem putR_twice (out : List Rt) (n : ByteArray) (s t : Int) : putR (putR out n s) n t = putR out n (min s t) := by
  by_cases h : n ∈ out.map (·.1)
  · have h1 := putR_self out n s
    unfold putR at h1 ⊢
    rw [if_pos h] at h1 ⊢
    rw [if_pos h1, if_pos h, List.map_map]
    apply List.map_congr_left
    intro x _
    by_cases hx : x.1 = n
    · simp only [Function.comp, hx, if_true, Int.min_assoc]
    · simp only [Function.comp, hx, if_false]
  · have h1 := putR_self out n s
    unfold putR at h1 ⊢
    rw [if_neg h] at h1 ⊢
    rw [if_pos h1, if_neg h, List.map_append]
    congr 1
    · exact (List.map_congr_left (g := id) fun x hx => if_neg fun he => h (List.mem_map.2 ⟨x, hx, he⟩)).trans (List.map_id _)
    · simp
theorem putR_swap {out : List Rt} {k n : ByteArray} {s t : Int} (h : k ∈ out.map (·.1)) : putR (putR out k s) n t = putR (putR out n t) k s := by
  by_cases he : k = n
  · subst he
    rw [putR_twice, putR_twice, Int.min_comm]
  have h1 : k ∈ (putR out n t).map (·.1) := putR_mem_names h
  have e1 : putR (putR out n t) k s = (putR out n t).map fun x => if x.1 = k then (x.1, min x.2 s) else x := by rw [putR, if_pos h1]
  have e2 : putR out k s = out.map fun x => if x.1 = k then (x.1, min x.2 s) else x := by rw [putR, if_pos h]
  have e3 : (putR out k s).map (·.1) = out.map (·.1) := by rw [putR_names, if_pos h]
  rw [e1]
  unfold putR at e3 ⊢
  rw [if_pos h] at e3 ⊢
  by_cases hn : n ∈ out.map (·.1)
  · rw [if_pos (by rw [e3]; exact hn), if_pos hn, List.map_map, List.map_map]
    apply List.map_congr_left
    intro x _
    by_cases a : x.1 = k
    · have b : ¬ x.1 = n := fun b => he (a.symm.trans b)
      simp only [Function.comp, if_pos a, if_neg b]
    · by_cases b : x.1 = n
      · simp only [Function.comp, if_neg a, if_pos b]
      · simp only [Function.comp, if_neg a, if_neg b]
  · rw [if_neg (by rw [e3]; exact hn), if_neg hn, List.map_append]
    congr 1
    show [(n, t)] = [if n = k then (n, min t s) else (n, t)]
    rw [if_neg fun e => he e.symm]
theorem mergeTo_swap (rs : List (ByteArray × ByteArray)) : ∀ (l out : List Rt) {k : ByteArray} {s : Int}, k ∈ out.map (·.1) → mergeTo rs (putR out k s) l = putR (mergeTo rs out l) k s
  | [], _, _, _, _ => rfl
  | r :: l, out, k, s, h => by
    show mergeTo rs (putR (putR out k s) (namedL rs r.1) r.2) l = putR (mergeTo rs (putR out (namedL rs r.1) r.2) l) k s
    rw [putR_swap h]
    exact mergeTo_swap rs l _ (putR_mem_names h)
theorem mergeTo_app (rs : List (ByteArray × ByteArray)) (out a b : List Rt) : mergeTo rs out (a ++ b) = mergeTo rs (mergeTo rs out a) b := by unfold mergeTo; exact List.foldl_append
/-- One more right, then new names: new names, then one more. -/
theorem merge_put (rs : List (ByteArray × ByteArray)) (out : List Rt) (n : ByteArray) (s : Int) (hd : (out.map (·.1)).Nodup) : mergeR rs (putR out n s) = putR (mergeR rs out) (namedL rs n) s := by
  by_cases h : n ∈ out.map (·.1)
  · obtain ⟨y, hy, hn⟩ := List.mem_map.1 h
    obtain ⟨a, b, rfl⟩ := List.append_of_mem hy
    have hna : ∀ x ∈ a, ¬ x.1 = n := by
      intro x hx he
      rw [List.map_append, List.nodup_append] at hd
      exact hd.2.2 x.1 (List.mem_map.2 ⟨x, hx, rfl⟩) y.1 (List.mem_map.2 ⟨y, by simp, rfl⟩) (he.trans hn.symm)
    have hnb : ∀ x ∈ b, ¬ x.1 = n := by
      intro x hx he
      rw [List.map_append, List.nodup_append, List.map_cons, List.nodup_cons] at hd
      exact hd.2.1.1 (List.mem_map.2 ⟨x, hx, he.trans hn.symm⟩)
    have e : putR (a ++ y :: b) n s = a ++ ((y.1, min y.2 s) :: b) := by
      unfold putR
      rw [if_pos h, List.map_append, List.map_cons, if_pos hn]
      congr 1
      · exact (List.map_congr_left (g := id) fun x hx => if_neg (hna x hx)).trans (List.map_id _)
      · congr 1
        exact (List.map_congr_left (g := id) fun x hx => if_neg (hnb x hx)).trans (List.map_id _)
    rw [e]
    unfold mergeR
    rw [mergeTo_app, mergeTo_app]
    show mergeTo rs (putR (mergeTo rs [] a) (namedL rs y.1) (min y.2 s)) b = putR (mergeTo rs (putR (mergeTo rs [] a) (namedL rs y.1) y.2) b) (namedL rs n) s
    rw [← putR_twice, hn]
    exact mergeTo_swap rs b _ (putR_self _ _ _)
  · have e : putR out n s = out ++ [(n, s)] := by unfold putR; rw [if_neg h]
    rw [e]
    exact mergeTo_snoc _ _ _ _
theorem namedL_congr {rs rs' : List (ByteArray × ByteArray)} {n : ByteArray} (h : (rs.find? fun r => decide (r.1 = n)) = rs'.find? fun r => decide (r.1 = n)) : namedL rs n = namedL rs' n := by unfold namedL; rw [h]
theorem named_then (a b : Mg) (n : ByteArray) : namedL (thenRs a b) n = namedL b.rs (namedL a.rs n) := by
  have h1 : ((a.rs.map fun r => (r.1, namedL b.rs r.2)).find? fun r => decide (r.1 = n)) = (a.rs.find? fun r => decide (r.1 = n)).map fun r => (r.1, namedL b.rs r.2) := by
    rw [List.find?_map]; rfl
  unfold thenRs
  cases hf : a.rs.find? fun r => decide (r.1 = n) with
  | some r =>
    rw [namedL_some hf]
    refine namedL_some (r := (r.1, namedL b.rs r.2)) ?_
    rw [List.find?_append, h1, hf]
    rfl
  | none =>
    rw [namedL_none hf]
    have hn := find_none.1 hf
    have h2 : ((b.rs.filter fun r => decide (r.1 ∉ a.rs.map (·.1))).find? fun r => decide (r.1 = n)) = b.rs.find? fun r => decide (r.1 = n) := by
      rw [List.find?_filter]
      congr 1
      funext r
      by_cases hr : r.1 = n
      · subst hr
        rw [decide_eq_true hn]; simp
      · rw [decide_eq_false hr]; simp
    refine namedL_congr ?_
    rw [List.find?_append, h2, h1, hf, Option.map_none, Option.none_or]
theorem merge_then (a b : Mg) (l : List Rt) : mergeR b.rs (mergeR a.rs l) = mergeR (thenRs a b) l := by
  have key : ∀ k, k ≤ l.length → mergeR b.rs (mergeR a.rs (l.take k)) = mergeR (thenRs a b) (l.take k) := by
    intro k
    induction k with
    | zero => intro _; rfl
    | succ k ih =>
      intro hk
      have hx : l[k]? = some l[k] := List.getElem?_eq_getElem (by omega)
      rw [mergeR_take hx, mergeR_take hx, merge_put _ _ _ _ (mergeR_nodup _ _), ih (by omega), named_then]
  have := key l.length (Nat.le_refl _)
  rwa [List.take_length] at this
theorem merge_nil : ∀ (l : List Rt), (l.map (·.1)).Nodup → mergeR [] l = l := by
  intro l hd
  have key : ∀ k, k ≤ l.length → mergeR [] (l.take k) = l.take k := by
    intro k
    induction k with
    | zero => intro _; rfl
    | succ k ih =>
      intro hk
      have hx : l[k]? = some l[k] := List.getElem?_eq_getElem (by omega)
      rw [mergeR_take hx, ih (by omega), take_snoc' hx, namedL_nil]
      unfold putR
      rw [if_neg]
      intro hm
      rw [List.map_take] at hm
      obtain ⟨i, hi⟩ := List.getElem?_of_mem hm
      rw [List.getElem?_take] at hi
      split at hi
      case isTrue hik =>
        have hj : (l.map (·.1))[k]? = some l[k].1 := by rw [List.getElem?_map, hx]; rfl
        have := (List.getElem?_inj (List.getElem?_eq_some_iff.1 hj).1 hd).1 (hj.trans hi.symm)
        omega
      case isFalse => cases hi
  have := key l.length (Nat.le_refl _)
  rwa [List.take_length] at this

/-! Limits. -/
theorem chgS_ok {ts : List Lm} {day : Int} {l : List Int} {x : Lm} (h : (chgS ts day l x).2 = 0) : (chgS ts day l x).1.id = x.id ∧ (prB x = true → prB (chgS ts day l x).1 = true) := by
  unfold chgS at h ⊢
  cases ht : termOf ts x.id with
  | none => rw [ht] at h; exact ⟨rfl, id⟩
  | some t =>
    rw [ht] at h
    simp only at h ⊢
    rcases change_cases x day t.n t.u t.f l with ⟨f, hf, he⟩ | ⟨-, -, he⟩ | ⟨-, -, -, -, -, -, N, U, F, he, hd, -⟩
    · rw [he] at h; exact absurd h hf
    · rw [he]; exact ⟨rfl, id⟩
    · rw [he]; exact ⟨rfl, fun _ => (due_is hd).1⟩
theorem chgE_zero {ts : List Lm} {day : Int} {l : List Int} : ∀ {ls : List Lm}, chgE ts day l ls = 0 ↔ ∀ x ∈ ls, (chgS ts day l x).2 = 0
  | [] => by simp [chgE]
  | x :: xs => by
    unfold chgE
    by_cases h : (chgS ts day l x).2 ≠ 0
    · rw [if_pos h]
      exact ⟨fun h1 => absurd h1 h, fun h1 => h1 x (by simp)⟩
    · rw [if_neg h, chgE_zero]
      exact ⟨fun h1 y hy => by
        rcases List.mem_cons.1 hy with rfl | hy
        · exact Classical.not_not.1 h
        · exact h1 y hy, fun h1 y hy => h1 y (List.mem_cons_of_mem _ hy)⟩
theorem chgL_dif {ts : List Lm} {day : Int} {l : List Int} {ls : List Lm} (h : chgE ts day l ls = 0) (hd : difB (·.id) prB ls = true) : difB (·.id) prB (chgL ts day l ls) = true := by
  obtain ⟨h1, h2, h3⟩ := difB_iff.1 hd
  have h0 := chgE_zero.1 h
  refine difB_iff.2 ⟨fun y hy => ?_, ?_, ?_⟩
  · obtain ⟨x, hx, rfl⟩ := List.mem_map.1 hy
    exact (chgS_ok (h0 x hx)).2 (h1 x hx)
  · have : (chgL ts day l ls).map (·.id) = ls.map (·.id) := by
      unfold chgL
      rw [List.map_map]
      exact List.map_congr_left fun x hx => (chgS_ok (h0 x hx)).1
    rw [this]
    exact h2
  · unfold chgL
    rw [List.length_map]
    exact h3
end Go.Proofs.YtebdkmlganalaaaGreatDoor

namespace Go.Proofs.YtebdkmlganalaaaGreatDoor
open Go.RowKit Go.Shelf

/-- The map of new names. -/
def nmL (l : List S2) : List (Value × Value) := l.map fun r => (.string r.1, .string r.2)
theorem nmL_G (l : List S2) : ∀ p ∈ nmL l, StrV p.1 := by
  intro p hp
  obtain ⟨k, -, rfl⟩ := List.mem_map.1 hp
  exact ⟨_, rfl⟩
theorem nmL_next {l : List S2} {k : Nat} {x : S2} (h : l[k]? = some x) : nmL (l.take (k + 1)) = nmL (l.take k) ++ [((.string x.1 : Value), (.string x.2 : Value))] := by
  unfold nmL
  rw [take_snoc' h, List.map_append]
  rfl
theorem nmL_ne {l : List S2} {x : ByteArray} (h : x ∉ l.map (·.1)) : ∀ p ∈ nmL l, p.1 ≠ .string x := by
  intro p hp he
  obtain ⟨k, hk, rfl⟩ := List.mem_map.1 hp
  exact h (List.mem_map.2 ⟨k, hk, Value.string.inj he⟩)
theorem take_new {l : List S2} (hd : (l.map (·.1)).Nodup) {k : Nat} {x : S2} (h : l[k]? = some x) : x.1 ∉ (l.take k).map (·.1) := by
  intro hm
  obtain ⟨i, hi⟩ := List.getElem?_of_mem hm
  rw [List.map_take, List.getElem?_take] at hi
  split at hi
  case isTrue hik =>
    have hj : (l.map (·.1))[k]? = some x.1 := by rw [List.getElem?_map, h]; rfl
    have := (List.getElem?_inj (List.getElem?_eq_some_iff.1 hj).1 hd).1 (hj.trans hi.symm)
    omega
  case isFalse => cases hi

set_option maxRecDepth 100000 in
set_option maxHeartbeats 4000000 in
theorem gnamed_any (w : World) (B : Nat) (g : Mg) (x : MgX) (h : PrsAt w B x.a2 g.rs) (hB : B ≤ w.heap.size) (hl : g.rs.length ≤ 4611686018427387904) (hd : (g.rs.map (·.1)).Nodup) :
    Calls Tryz.prog 28 #[.agg (mgC g x)] w fun e w' => ∃ b, e = .returned (.map (some b)) ∧ w.heap.size ≤ b ∧ MapV w' b (nmL g.rs) ∧ Below w.heap.size w w' := by
  obtain ⟨fr, tn, st, rs, ts⟩ := g
  obtain ⟨a1, c1, a2, c2, a3, c3, tv⟩ := x
  simp only at *
  show Calls Tryz.prog 28 #[.agg #[.string fr, .string tn, .slice a1 st.length c1, .slice a2 rs.length c2, .slice a3 ts.length c3]] w _
  have hb := below_self_alloc w (.cells #[.string fr, .string tn, .slice a1 st.length c1, .slice a2 rs.length c2, .slice a3 ts.length c3] 30)
  have kx := Blk.new w 30 #[.string fr, .string tn, .slice a1 st.length c1, .slice a2 rs.length c2, .slice a3 ts.length c3]
  have HH := Lib.hid h
  have HD := Lib.hid hd
  have hmm := @run_makeMap Tryz.prog
  obtain ⟨t0, t1, t2⟩ := kx.all
  have hm0 := MapV.made (w.alloc (.cells #[.string fr, .string tn, .slice a1 st.length c1, .slice a2 rs.length c2, .slice a3 ts.length c3] 30))
  have hb0 := hb.alloc hb.size (.map #[] 0)
  have hk0 := kx.alloc (.map #[] 0)
  have hms : (w.alloc (.cells #[.string fr, .string tn, .slice a1 st.length c1, .slice a2 rs.length c2, .slice a3 ts.length c3] 30)).heap.size = w.heap.size + 1 := by simp
  rw [hms] at hm0
  have HM0 := Lib.hid hm0
  clear h hd kx hms hm0
  go_enter Tryz.func28, Tryz.ntmps28
  go_wp2_with fail
  go_loopw [10] (fun i wr => ∃ k : Nat, k ≤ rs.length ∧ i = .int .i64 (k : Int) ∧ Hid (MapV wr (w.heap.size + 1) (nmL (rs.take k))) ∧ Below w.heap.size w wr) (fun i _ => rs.length - (intOf i).toNat)
  case atStart => exact ⟨0, Nat.zero_le _, rfl, HM0, hb0⟩
  case round =>
    clear hb0 HM0 hmm hb t0 t1 t2
    obtain ⟨k, hk, rfl, HM, hb⟩ := hrel
    by_cases hlt : k < rs.length
    · obtain ⟨x, hx⟩ : ∃ x, rs[k]? = some x := ⟨_, List.getElem?_eq_getElem hlt⟩
      obtain ⟨g, off, hA, hg, c0, c1⟩ := (HH.out.below (hb.mono hB)) k x hx
      subst hA
      have HX := Lib.hid hx
      have HN := Lib.hid (nmL_ne (take_new HD.out hx))
      clear hx
      have b0 : Below w.heap.size w (wr.alloc (.cells #[.string x.1, .string x.2] 67)) := hb.alloc hb.size _
      have kx := Blk.new wr 67 #[.string x.1, .string x.2]
      obtain ⟨t0, t1, t2⟩ := kx.all
      have M0 := Lib.hid (HM.out.alloc (.cells #[.string x.1, .string x.2] 67))
      obtain ⟨w3, hu, hm3, hg3⟩ := M0.out.upd_none kysStr Tryz.underlying80 (nmL_G _) (x := .string x.1) ⟨_, rfl⟩ HN.out (.string x.2)
      have hb3 := b0.grown hg3 b0.size (fun j e => by injection e with e; omega)
      have HM3 := Lib.hid hm3
      clear hm3 hg3 M0 HM hb b0 kx
      go_wp2
      go_roundw
      case rel => exact ⟨k + 1, by omega, by go_num, Lib.hid (by rw [nmL_next HX.out]; exact HM3.out), hb3⟩
      case measure => simp [intOf]; omega
    · obtain rfl : k = rs.length := by omega
      have hm := HM.out
      rw [List.take_length] at hm
      have HM2 := Lib.hid hm
      clear hm HM HH HD
      go_wp2
      go_ret
      exact ⟨_, rfl, by omega, HM2.out, hb⟩

set_option maxRecDepth 100000 in
theorem grenamed_any (w : World) (b : Nat) (rs : List S2) (h : MapV w b (nmL rs)) (n : ByteArray) :
    Calls Tryz.prog 29 #[.map (some b), .string n] w fun e w' => e = .returned (.string (namedL rs n)) ∧ Below w.heap.size w w' := by
  have hz := fun W => Tryz.zeroValue9 W
  cases hf : rs.find? fun r => decide (r.1 = n) with
  | some r =>
    have he : r.1 = n := of_decide_eq_true (List.find?_some (p := fun r : S2 => decide (r.1 = n)) hf)
    have hm : ((.string n : Value), (.string r.2 : Value)) ∈ nmL rs := List.mem_map.2 ⟨r, List.mem_of_find?_eq_some hf, by rw [he]⟩
    have lk := h.look_some kysStr Tryz.underlying80 (nmL_G _) hm true
    rw [namedL_some hf]
    rw [if_pos rfl] at lk
    clear h hf he hm hz
    go_enter Tryz.func29, Tryz.ntmps29
    go_wp2
    go_ret
    exact ⟨rfl, Below.refl _ _⟩
  | none =>
    have lk := h.look_none kysStr Tryz.underlying80 (nmL_G _) (x := .string n) ⟨_, rfl⟩ (nmL_ne (find_none.1 hf)) (hz w) true
    rw [namedL_none hf]
    rw [if_pos rfl] at lk
    clear h hf hz
    go_enter Tryz.func29, Tryz.ntmps29
    go_wp2
    go_ret
    exact ⟨rfl, Below.refl _ _⟩
end Go.Proofs.YtebdkmlganalaaaGreatDoor

namespace Go.Proofs.YtebdkmlganalaaaGreatDoor

theorem putR_in {out : List Rt} {n : ByteArray} {s : Int} {i : Nat} {t : Rt} (hd : (out.map (·.1)).Nodup) (h : out[i]? = some t) (hn : t.1 = n) : putR out n s = out.set i (t.1, min t.2 s) := by
  subst hn
  unfold putR
  rw [if_pos (List.mem_map.2 ⟨t, List.mem_of_getElem? h, rfl⟩)]
  apply List.ext_getElem?
  intro j
  rw [List.getElem?_map, List.getElem?_set]
  obtain ⟨hi, -⟩ := List.getElem?_eq_some_iff.1 h
  by_cases hij : i = j
  · subst hij
    rw [if_pos rfl, if_pos hi, h, Option.map_some, if_pos rfl]
  · rw [if_neg hij]
    cases hj : out[j]? with
    | none => rfl
    | some y =>
      rw [Option.map_some, if_neg]
      intro he
      have h1 : (out.map (·.1))[i]? = some t.1 := by rw [List.getElem?_map, h]; rfl
      have h2 : (out.map (·.1))[j]? = some t.1 := by rw [List.getElem?_map, hj, Option.map_some, he]
      exact hij ((List.getElem?_inj (List.getElem?_eq_some_iff.1 h1).1 hd).1 (h1.trans h2.symm))
theorem putR_out {out : List Rt} {n : ByteArray} {s : Int} (h : n ∉ out.map (·.1)) : putR out n s = out ++ [(n, s)] := by unfold putR; rw [if_neg h]
theorem setN {out : List Rt} {i : Nat} {t : Rt} {v : Int} (h : out[i]? = some t) : (out.set i (t.1, v)).map (·.1) = out.map (·.1) := by
  apply List.ext_getElem?
  intro j
  rw [List.map_set, List.getElem?_set]
  obtain ⟨hi, hg⟩ := List.getElem?_eq_some_iff.1 h
  by_cases hij : i = j
  · subst hij
    rw [if_pos rfl, List.length_map, if_pos hi, List.getElem?_map, h]
    rfl
  · rw [if_neg hij]
theorem named_or (rs : List S2) (n : ByteArray) : namedL rs n = n ∨ ∃ s ∈ rs, namedL rs n = s.2 := by
  cases hf : rs.find? fun r => decide (r.1 = n) with
  | none => exact .inl (namedL_none hf)
  | some r => exact .inr ⟨r, List.mem_of_find?_eq_some hf, namedL_some hf⟩
/-- The map from a name to its place. -/
def atN (ns : List ByteArray) : List (Value × Value) := ns.mapIdx fun i n => (.string n, .int .i64 (i : Int))
theorem atN_snoc (ns : List ByteArray) (n : ByteArray) : atN (ns ++ [n]) = atN ns ++ [(.string n, .int .i64 (ns.length : Int))] := by unfold atN; rw [List.mapIdx_concat]
theorem atN_iff {ns : List ByteArray} {p : Value × Value} : p ∈ atN ns ↔ ∃ (i : Nat) (n : ByteArray), ns[i]? = some n ∧ p = (.string n, .int .i64 (i : Int)) := by
  unfold atN
  rw [List.mem_iff_getElem?]
  constructor
  · rintro ⟨i, hi⟩
    rw [List.getElem?_mapIdx] at hi
    cases h : ns[i]? with
    | none => rw [h] at hi; cases hi
    | some n => rw [h] at hi; injection hi with hi; exact ⟨i, n, h, hi.symm⟩
  · rintro ⟨i, n, h, rfl⟩
    exact ⟨i, by rw [List.getElem?_mapIdx, h]; rfl⟩
theorem atN_G (ns : List ByteArray) : ∀ p ∈ atN ns, StrV p.1 := by
  intro p hp
  obtain ⟨i, n, -, rfl⟩ := atN_iff.1 hp
  exact ⟨n, rfl⟩
theorem atN_at {ns : List ByteArray} {i : Nat} {n : ByteArray} (h : ns[i]? = some n) : ((.string n : Value), (Value.int .i64 (i : Int))) ∈ atN ns := atN_iff.2 ⟨i, n, h, rfl⟩
theorem atN_ne {ns : List ByteArray} {n : ByteArray} (h : n ∉ ns) : ∀ p ∈ atN ns, p.1 ≠ .string n := by
  intro p hp he
  obtain ⟨i, k, hk, rfl⟩ := atN_iff.1 hp
  injection he with he
  exact h (he ▸ List.mem_of_getElem? hk)

/-! Limits. -/
theorem termOf_found {ts : List Lm} {n : ByteArray} {k : Nat} {x : Lm} (h : ts[k]? = some x) (hx : x.id = n) (hn : ∀ r ∈ ts.take k, ¬ r.id = n) : termOf ts n = some x := by
  obtain ⟨hk, hx2⟩ := List.getElem?_eq_some_iff.1 h
  have e : ts = ts.take k ++ x :: ts.drop (k + 1) := by rw [← hx2, List.getElem_cons_drop hk, List.take_append_drop]
  unfold termOf
  rw [e, List.find?_append, List.find?_eq_none.2 (fun r hr => by simpa using hn r hr), Option.none_or, List.find?_cons, decide_eq_true hx]
theorem termOf_no {ts : List Lm} {n : ByteArray} (hn : ∀ r ∈ ts, ¬ r.id = n) : termOf ts n = none := List.find?_eq_none.2 fun r hr => by simpa using hn r hr
/-- The error at a limit behind others without one. -/
theorem chgE_at {ts : List Lm} {day : Int} {l : List Int} : ∀ {ls : List Lm} {k : Nat} {x : Lm}, ls[k]? = some x → (∀ y ∈ ls.take k, (chgS ts day l y).2 = 0) → (chgS ts day l x).2 ≠ 0 → chgE ts day l ls = (chgS ts day l x).2
  | [], k, x, h, _, _ => by simp at h
  | y :: ls, 0, x, h, _, h2 => by
    have h : y = x := by simpa using h
    subst h
    unfold chgE
    rw [if_pos h2]
  | y :: ls, k + 1, x, h, h1, h2 => by
    unfold chgE
    rw [if_neg (by rw [h1 y (by simp)]; simp)]
    exact chgE_at (by simpa using h) (fun z hz => h1 z (by simp [hz])) h2
theorem chg_keep {ts : List Lm} {day : Int} {l : List Int} {x : Lm} (h : (chgS ts day l x).2 = 0) : (chgS ts day l x).1.id = x.id ∧ (chgS ts day l x).1.S = x.S := by
  unfold chgS at h ⊢
  cases ht : termOf ts x.id with
  | none => exact ⟨rfl, rfl⟩
  | some t =>
    rw [ht] at h
    simp only at h ⊢
    rcases change_cases x day t.n t.u t.f l with ⟨f, hf, he⟩ | ⟨-, -, he⟩ | ⟨-, -, -, -, -, -, N, U, F, he, -⟩
    · rw [he] at h; exact absurd h hf
    · rw [he]; exact ⟨rfl, rfl⟩
    · rw [he]; exact ⟨rfl, rfl⟩
/-- The limits behind k rounds. -/
def LimK (ts : List Lm) (day : Int) (l : List Int) (lv : List LmV) (k : Nat) (lk : List LmV) : Prop :=
  lk.map (·.1) = (lv.take k).map (fun x => (chgS ts day l x.1).1) ++ (lv.drop k).map (·.1)
theorem LimK.zero (ts : List Lm) (day : Int) (l : List Int) (lv : List LmV) : LimK ts day l lv 0 lv := rfl
theorem LimK.same {ts : List Lm} {day : Int} {l : List Int} {lv lk : List LmV} {k : Nat} {x : LmV} (h : LimK ts day l lv k lk) (hx : lv[k]? = some x) (he : (chgS ts day l x.1).1 = x.1) : LimK ts day l lv (k + 1) lk := by
  obtain ⟨hk, hg⟩ := List.getElem?_eq_some_iff.1 hx
  unfold LimK at *
  rw [h, take_snoc' hx, List.drop_eq_getElem_cons hk, hg, List.map_append, List.map_cons, List.map_cons, List.map_nil, he, List.append_assoc]
  rfl
theorem LimK.step {ts : List Lm} {day : Int} {l : List Int} {lv lk : List LmV} {k : Nat} {x y : LmV} (h : LimK ts day l lv k lk) (hx : lv[k]? = some x) (he : (chgS ts day l x.1).1 = y.1) : LimK ts day l lv (k + 1) (lk.set k y) := by
  obtain ⟨hk, hg⟩ := List.getElem?_eq_some_iff.1 hx
  unfold LimK at *
  have hlen : ((lv.take k).map (fun x => (chgS ts day l x.1).1)).length = k := by rw [List.length_map, List.length_take]; omega
  rw [List.map_set, h, take_snoc' hx, List.drop_eq_getElem_cons hk, hg, List.map_append, List.map_cons, List.map_cons, List.map_nil, he, List.set_append, if_neg (by rw [hlen]; omega), hlen, Nat.sub_self, List.append_assoc]
  rfl
theorem LimK.done {ts : List Lm} {day : Int} {l : List Int} {lv lk : List LmV} (h : LimK ts day l lv lv.length lk) : lk.map (·.1) = chgL ts day l (lv.map (·.1)) := by
  unfold LimK at h
  rw [h, List.take_length, List.drop_length, List.map_nil, List.append_nil]
  unfold chgL
  rw [List.map_map]
  rfl
end Go.Proofs.YtebdkmlganalaaaGreatDoor
