/- slices.Clone at limits; rows of limits and of rights in which one element is stored. Migrations as plain data: what is formed, valid; Then. -/
import Derived.Test.YtebdkmlganalaaaGreatDoorKTopAccruedGAU
import Derived.Test.YtebdkmlganalaaaGreatDoorKTopAccruedGAK
namespace Go.Proofs.YtebdkmlganalaaaGreatDoor
open Go.RowKit Go.Shelf

theorem Tryz.infoLimit : (Tryz.prog.info? 66).map (fun i => (i.zero, i.size, i.bytes)) = some (some (.agg #[.string ⟨#[]⟩, .int .i64 0, .int .i64 0, .int .i64 0, .slice none 0 0]), 5, 64) := by kernel_rfl
def encL (x : LmV) : List Value := [.string x.1.id, .int .i64 x.1.n, .int .i64 x.1.u, .int .i64 x.1.f, .slice x.2.1 x.1.S.length x.2.2]
def lmCells (l : List LmV) : List Value := l.flatMap encL
theorem lmCells_len (l : List LmV) : (lmCells l).length = l.length * 5 := by
  induction l with
  | nil => rfl
  | cons s l ih => show (encL s ++ lmCells l).length = _; rw [List.length_append, ih]; simp [encL]; omega
theorem lmCells_app (J K : List LmV) : lmCells (J ++ K) = lmCells J ++ lmCells K := by simp [lmCells]
theorem lmCells_at : ∀ (l : List LmV) (i : Nat) (x : LmV), l[i]? = some x → ∀ j v, (encL x)[j]? = some v → (lmCells l)[i * 5 + j]? = some v
  | [], i, x, h, _, _, _ => by simp at h
  | y :: l, 0, x, h, j, v, hj => by
    simp at h
    subst h
    show (encL y ++ lmCells l)[0 * 5 + j]? = _
    have hl : j < (encL y).length := (List.getElem?_eq_some_iff.1 hj).1
    rw [show 0 * 5 + j = j by omega, List.getElem?_append_left hl]
    exact hj
  | y :: l, i + 1, x, h, j, v, hj => by
    have ih := lmCells_at l i x (by simpa using h) j v hj
    show (encL y ++ lmCells l)[(i + 1) * 5 + j]? = _
    rw [List.getElem?_append_right (by show 5 ≤ _; omega)]
    have e : (i + 1) * 5 + j - (encL y).length = i * 5 + j := by show (i + 1) * 5 + j - 5 = _; omega
    rw [e]
    exact ih
theorem encL_one (x : LmV) : ∀ u ∈ encL x, u.oneCell' = true := by
  intro u hu
  simp only [encL, List.mem_cons, List.not_mem_nil, or_false] at hu
  rcases hu with rfl | rfl | rfl | rfl | rfl <;> rfl

theorem lmCells_one (l : List LmV) : ∀ u ∈ lmCells l, u.oneCell' = true := by
  intro u hu
  obtain ⟨x, _, hx⟩ := List.mem_flatMap.1 hu
  exact encL_one x u hx
theorem lmCells_news {w : World} {B : Nat} {A : Option Addr} {l : List LmV} (h : LmsAt w B A l) : ∀ j u, (lmCells l)[j]? = some u → ∃ ad, A = some ad ∧ w.cell? (ad.add j) = some u := fun j u hj => by
  have hjl : j < l.length * 5 := by rw [← lmCells_len]; exact (List.getElem?_eq_some_iff.1 hj).1
  obtain ⟨x, hx⟩ : ∃ x, l[j / 5]? = some x := ⟨_, List.getElem?_eq_getElem (by omega)⟩
  obtain ⟨g, off, hA, _, c0, c1, c2, c3, c4, -⟩ := h (j / 5) x hx
  refine ⟨_, hA, ?_⟩
  have hadd : (⟨g, off, none⟩ : Addr).add j = ⟨g, off + j, none⟩ := by unfold Addr.add; split <;> simp_all
  rw [hadd]
  have key : ∀ m v, (encL x)[m]? = some v → j = j / 5 * 5 + m → v = u := fun m v hm he => by
    have h1 := lmCells_at l (j / 5) x hx m v hm
    rw [← he, hj] at h1
    injection h1 with h1
    exact h1.symm
  have hm : j = j / 5 * 5 + 0 ∨ j = j / 5 * 5 + 1 ∨ j = j / 5 * 5 + 2 ∨ j = j / 5 * 5 + 3 ∨ j = j / 5 * 5 + 4 := by omega
  rcases hm with e | e | e | e | e
  · rw [← key 0 _ rfl e, show off + j = off + j / 5 * 5 by omega]; exact c0
  · rw [← key 1 _ rfl e, show off + j = off + j / 5 * 5 + 1 by omega]; exact c1
  · rw [← key 2 _ rfl e, show off + j = off + j / 5 * 5 + 2 by omega]; exact c2
  · rw [← key 3 _ rfl e, show off + j = off + j / 5 * 5 + 3 by omega]; exact c3
  · rw [← key 4 _ rfl e, show off + j = off + j / 5 * 5 + 4 by omega]; exact c4
theorem lmCells_set : ∀ (l : List LmV) (i : Nat) (x : LmV), i < l.length → lmCells (l.set i x) = (((((lmCells l).set (i * 5) (.string x.1.id)).set (i * 5 + 1) (.int .i64 x.1.n)).set (i * 5 + 2) (.int .i64 x.1.u)).set (i * 5 + 3) (.int .i64 x.1.f)).set (i * 5 + 4) (.slice x.2.1 x.1.S.length x.2.2)
  | [], i, x, h => by simp at h
  | y :: l, 0, x, _ => rfl
  | y :: l, i + 1, x, h => by
    have ih := lmCells_set l i x (by simpa using h)
    have e : ∀ m, (i + 1) * 5 + m = i * 5 + m + 1 + 1 + 1 + 1 + 1 := fun m => by omega
    have e0 : (i + 1) * 5 = i * 5 + 1 + 1 + 1 + 1 + 1 := by omega
    rw [e, e, e, e, e0]
    show encL y ++ lmCells (l.set i x) = _
    rw [ih]
    rfl
theorem LmsAt.of_row2 {W : World} {base cap n : Nat} {A : Option Addr} {l : List LmV} (hl : l.length = n) (h : W.ownsRow base 66 5 (.slice A n cap) n (lmCells l)) (hs : ∀ x ∈ l, LmAt W W.heap.size x.2.1 x.1) : LmsAt W W.heap.size A l := by
  intro i x hi
  have hil := (List.getElem?_eq_some_iff.1 hi).1
  rcases h.2 with ⟨_, h0⟩ | ⟨g, cap', cur, hv, _, hh, _, _, _, h4⟩
  · omega
  · injection hv with hv _ _
    have at_ : ∀ j v, (lmCells l)[j]? = some v → W.cell? ⟨g, 0 + j, none⟩ = some v := fun j v hj => by
      rw [Nat.zero_add, cell_of_row W g j cur _ _ hh]
      have hj4 : j < n * 5 := by
        have := (List.getElem?_eq_some_iff.1 hj).1
        rw [lmCells_len, hl] at this
        exact this
      have h5 := congrArg (fun l : List Value => l[j]?) h4
      simp only [List.getElem?_take, hj4, if_true] at h5
      rw [hj] at h5
      simpa using h5
    have c0 := at_ _ _ (lmCells_at l i x hi 0 _ rfl)
    have c1 := at_ _ _ (lmCells_at l i x hi 1 _ rfl)
    have c2 := at_ _ _ (lmCells_at l i x hi 2 _ rfl)
    have c3 := at_ _ _ (lmCells_at l i x hi 3 _ rfl)
    have c4 := at_ _ _ (lmCells_at l i x hi 4 _ rfl)
    have e : ∀ m, 0 + (i * 5 + m) = 0 + i * 5 + m := fun m => by omega
    rw [e] at c0 c1 c2 c3 c4
    exact ⟨g, 0, hv, (Array.getElem?_eq_some_iff.1 hh).1, c0, c1, c2, c3, c4, hs x (List.mem_of_getElem? hi)⟩
theorem rtCells_set : ∀ (S : List Rt) (i : Nat) (t : Rt) (v : Int), S[i]? = some t → rtCells (S.set i (t.1, v)) = (rtCells S).set (i * 2 + 1) (.int .i64 v)
  | [], i, t, v, h => by simp at h
  | s :: S, 0, t, v, h => by
    have h : s = t := by simpa using h
    subst h
    rfl
  | s :: S, i + 1, t, v, h => by
    have ih := rtCells_set S i t v (by simpa using h)
    have e : (i + 1) * 2 + 1 = i * 2 + 1 + 1 + 1 := by omega
    rw [e]
    show encR2 s ++ rtCells (S.set i (t.1, v)) = _
    rw [ih]
    rfl
/-- What Clone leaves: the same limits in memory of the call's own. -/
def ClonePostL (w : World) (S : List LmV) (e : Ending) (w' : World) : Prop :=
  ∃ A' c', e = .returned (.slice A' S.length c') ∧ w'.ownsRow w.heap.size 66 5 (.slice A' S.length c') S.length (lmCells S) ∧ Below w.heap.size w w'

set_option maxHeartbeats 1000000 in
set_option maxRecDepth 100000 in
theorem cloneLm_any (w : World) (B : Nat) (A : Option Addr) (S : List LmV) (c : Nat) (h : LmsAt w B A S) (hB : B ≤ w.heap.size) (hl : S.length ≤ 1000000) :
    Calls Tryz.prog 27 #[.slice A S.length c] w (ClonePostL w S) := by
  obtain ⟨i0, hi0, hz0, hz1, hz2⟩ := info_parts Tryz.infoLimit
  have hw0 : w.ownsRow w.heap.size 66 5 (.slice none 0 0) 0 [] := World.ownsRow_nil _ _ _ _
  cases A with
  | none =>
    have hS : S = [] := by
      match S, h with
      | [], _ => rfl
      | s :: S, h => obtain ⟨_, _, hA, _⟩ := h 0 s rfl; cases hA
    subst hS
    clear h hl
    have hnil := fun (W : World) (n c : Nat) => Lib.run_eql_slice_nil (P := Tryz.prog) W 25 66 none n c 0 0 Tryz.underlying25
    go_enter Tryz.func27, Tryz.ntmps27
    go_wp2
    go_ret
    exact ⟨none, 0, rfl, hw0, Below.refl _ _⟩
  | some ad =>
    have own := World.ownsRow_lit (base := w.heap.size) (e := 66) (size := 5) w #[] 0 (Nat.le_refl _) (by unfold maxLen; omega) rfl
    have hst := h.below ((Below.refl B w).alloc hB (.cells #[] 66))
    have hbb := (Below.refl w.heap.size w).alloc (Nat.le_refl _) (.cells #[] 66)
    clear hw0 h
    have hnil := fun (W : World) (n c : Nat) => Lib.run_eql_slice_nil (P := Tryz.prog) W 25 66 (some ad) n c 0 0 Tryz.underlying25
    go_enter Tryz.func27, Tryz.ntmps27
    go_wp2_with (at_builtin; refine wpList_append_any rfl _ _ 25 rfl w.heap.size 66 i0 _ 5 64 Tryz.underlying25 hi0 hz0 hz1 hz2 rfl (by omega) (.slice (some ⟨w.heap.size, 0, none⟩) 0 0) 0 [] rfl own (some ad) S.length c (lmCells S) rfl (lmCells_len S) (lmCells_news hst) (lmCells_one S) (by unfold maxLen; omega) (by omega) (by simp) ?_; intro v4 w1 own4 gr4 l4)
    simp only [Nat.zero_add, List.nil_append] at own4
    have hb4 := hbb.grown gr4 (by simp) (fun x hx => (own.lt x hx).1)
    have hv : ∃ A' c', v4 = .slice A' S.length c' := by
      rcases own4.2 with ⟨hv, h0⟩ | ⟨g, cap, cur, hv, _⟩
      · exact ⟨none, 0, by rw [hv, h0]⟩
      · exact ⟨_, _, hv⟩
    obtain ⟨A', c', rfl⟩ := hv
    clear own hst hbb gr4 l4
    go_wp2
    go_ret
    exact ⟨A', c', rfl, own4, hb4⟩
end Go.Proofs.YtebdkmlganalaaaGreatDoor

namespace Go.Proofs.YtebdkmlganalaaaGreatDoor

instance memDec (n : ByteArray) (l : List ByteArray) : Decidable (n ∈ l) := decidable_of_iff (l.any (fun x => decide (x = n)) = true) (by rw [List.any_eq_true]; exact ⟨fun ⟨x, hx, he⟩ => of_decide_eq_true he ▸ hx, fun h => ⟨n, h, decide_eq_true rfl⟩⟩)
/-- A migration. -/
structure Mg where
  fr : ByteArray
  tn : ByteArray
  st : List Int
  rs : List (ByteArray × ByteArray)
  ts : List Lm
def Mg.zero : Mg := ⟨⟨#[]⟩, ⟨#[]⟩, [], [], []⟩
def stB (s : Int) : Bool := decide (-1 ≤ s ∧ s < 60)
def rnB (r : ByteArray × ByteArray) : Bool := nameB r.1 && nameB r.2
def tmB (t : Lm) : Bool := prB t && decide (t.S = [])
def mgB (g : Mg) : Bool := nameB g.fr && (nameB g.tn && (decide (g.st ≠ [] ∧ g.st.length ≤ 60) && (g.st.all stB && (difB (·.1) rnB g.rs && difB (·.id) tmB g.ts))))
theorem mgB_iff {g : Mg} : mgB g = true ↔ nameB g.fr = true ∧ nameB g.tn = true ∧ (g.st ≠ [] ∧ g.st.length ≤ 60) ∧ (∀ s ∈ g.st, -1 ≤ s ∧ s < 60) ∧ difB (·.1) rnB g.rs = true ∧ difB (·.id) tmB g.ts = true := by
  unfold mgB
  simp only [Bool.and_eq_true, decide_eq_true_eq, List.all_eq_true, stB]
def vdB (g : Mg) (p q : Pc) : Bool := mgB g && (pcB p && (pcB q && (decide (g.fr = p.name) && (decide (g.tn = q.name) && (decide (g.st.length = p.ss.length) && g.st.all fun s => decide (s < (q.ss.length : Int)))))))
theorem vdB_iff {g : Mg} {p q : Pc} : vdB g p q = true ↔ mgB g = true ∧ pcB p = true ∧ pcB q = true ∧ g.fr = p.name ∧ g.tn = q.name ∧ g.st.length = p.ss.length ∧ ∀ s ∈ g.st, s < (q.ss.length : Int) := by
  unfold vdB
  simp only [Bool.and_eq_true, decide_eq_true_eq, List.all_eq_true]

/-! Rights under new names. -/
def namedL (rs : List (ByteArray × ByteArray)) (n : ByteArray) : ByteArray :=
  match rs.find? fun r => decide (r.1 = n) with
  | some r => r.2
  | none => n
def putR (out : List Rt) (n : ByteArray) (s : Int) : List Rt :=
  if n ∈ out.map (·.1) then out.map (fun x => if x.1 = n then (x.1, min x.2 s) else x) else out ++ [(n, s)]
def mergeTo (rs : List (ByteArray × ByteArray)) (out : List Rt) (l : List Rt) : List Rt := l.foldl (fun out r => putR out (namedL rs r.1) r.2) out
def mergeR (rs : List (ByteArray × ByteArray)) (l : List Rt) : List Rt := mergeTo rs [] l
theorem mergeTo_snoc (rs : List (ByteArray × ByteArray)) (out l : List Rt) (r : Rt) : mergeTo rs out (l ++ [r]) = putR (mergeTo rs out l) (namedL rs r.1) r.2 := by unfold mergeTo; rw [List.foldl_append]; rfl
theorem mergeR_take {rs : List (ByteArray × ByteArray)} {l : List Rt} {k : Nat} {r : Rt} (h : l[k]? = some r) : mergeR rs (l.take (k + 1)) = putR (mergeR rs (l.take k)) (namedL rs r.1) r.2 := by
  rw [take_snoc' h]; exact mergeTo_snoc _ _ _ _
theorem putR_names (out : List Rt) (n : ByteArray) (s : Int) : (putR out n s).map (·.1) = if n ∈ out.map (·.1) then out.map (·.1) else out.map (·.1) ++ [n] := by
  unfold putR
  by_cases h : n ∈ out.map (·.1)
  · rw [if_pos h, if_pos h, List.map_map]
    apply List.map_congr_left
    intro x _
    show (if x.1 = n then (x.1, min x.2 s) else x).1 = x.1
    split <;> rfl
  · rw [if_neg h, if_neg h, List.map_append]
    rfl
theorem putR_nodup {out : List Rt} {n : ByteArray} {s : Int} (h : (out.map (·.1)).Nodup) : ((putR out n s).map (·.1)).Nodup := by
  rw [putR_names]
  by_cases hn : n ∈ out.map (·.1)
  · rw [if_pos hn]; exact h
  · rw [if_neg hn, List.nodup_append]
    refine ⟨h, by simp, fun a ha b hb => ?_⟩
    have : b = n := by simpa using hb
    rintro rfl
    exact hn (this ▸ ha)
theorem putR_len (out : List Rt) (n : ByteArray) (s : Int) : (putR out n s).length ≤ out.length + 1 := by
  unfold putR
  split
  · rw [List.length_map]; omega
  · rw [List.length_append]; simp
/-- What stands in a list of rights behind one more: an old one that is another, or the new one, its day the least. -/
theorem putR_mem {out : List Rt} {n : ByteArray} {s : Int} {x : Rt} (hx : x ∈ putR out n s) : x ∈ out ∨ x = (n, s) := by
  unfold putR at hx
  split at hx
  · obtain ⟨y, hy, rfl⟩ := List.mem_map.1 hx
    by_cases h : y.1 = n
    · rw [if_pos h]
      rcases Int.le_total y.2 s with h1 | h1
      · rw [Int.min_eq_left h1]; exact .inl hy
      · rw [Int.min_eq_right h1, h]; exact .inr rfl
    · rw [if_neg h]; exact .inl hy
  · rcases List.mem_append.1 hx with h | h
    · exact .inl h
    · exact .inr (by simpa using h)
theorem putR_old {out : List Rt} {n : ByteArray} {s : Int} {y : Rt} (hy : y ∈ out) : ∃ x ∈ putR out n s, x.1 = y.1 ∧ x.2 ≤ y.2 := by
  unfold putR
  by_cases h : n ∈ out.map (·.1)
  · rw [if_pos h]
    refine ⟨_, List.mem_map.2 ⟨y, hy, rfl⟩, ?_⟩
    by_cases h1 : y.1 = n
    · rw [if_pos h1]; exact ⟨rfl, Int.min_le_left _ _⟩
    · rw [if_neg h1]; exact ⟨rfl, Int.le_refl _⟩
  · rw [if_neg h]
    exact ⟨y, List.mem_append_left _ hy, rfl, Int.le_refl _⟩
theorem putR_new (out : List Rt) (n : ByteArray) (s : Int) : ∃ x ∈ putR out n s, x.1 = n ∧ x.2 ≤ s := by
  unfold putR
  by_cases h : n ∈ out.map (·.1)
  · rw [if_pos h]
    obtain ⟨y, hy, rfl⟩ := List.mem_map.1 h
    refine ⟨_, List.mem_map.2 ⟨y, hy, rfl⟩, ?_⟩
    rw [if_pos rfl]
    exact ⟨rfl, Int.min_le_right _ _⟩
  · rw [if_neg h]
    exact ⟨(n, s), List.mem_append_right _ (by simp), rfl, Int.le_refl _⟩
theorem mergeTo_nodup (rs : List (ByteArray × ByteArray)) : ∀ (l out : List Rt), (out.map (·.1)).Nodup → ((mergeTo rs out l).map (·.1)).Nodup
  | [], _, h => h
  | _ :: l, _, h => mergeTo_nodup rs l _ (putR_nodup h)
theorem mergeTo_len (rs : List (ByteArray × ByteArray)) : ∀ (l out : List Rt), (mergeTo rs out l).length ≤ out.length + l.length
  | [], _ => Nat.le_refl _
  | r :: l, out => by
    have h1 := mergeTo_len rs l (putR out (namedL rs r.1) r.2)
    have h2 := putR_len out (namedL rs r.1) r.2
    show (mergeTo rs (putR out (namedL rs r.1) r.2) l).length ≤ _
    simp only [List.length_cons]
    omega
theorem mergeTo_mem (rs : List (ByteArray × ByteArray)) : ∀ (l out : List Rt) {x : Rt}, x ∈ mergeTo rs out l → x ∈ out ∨ ∃ r ∈ l, x = (namedL rs r.1, r.2)
  | [], _, _, h => .inl h
  | r :: l, out, x, h => by
    rcases mergeTo_mem rs l _ h with h1 | ⟨q, hq, he⟩
    · rcases putR_mem h1 with h2 | h2
      · exact .inl h2
      · exact .inr ⟨r, by simp, h2⟩
    · exact .inr ⟨q, List.mem_cons_of_mem _ hq, he⟩
theorem mergeTo_old (rs : List (ByteArray × ByteArray)) : ∀ (l out : List Rt) {y : Rt}, y ∈ out → ∃ x ∈ mergeTo rs out l, x.1 = y.1 ∧ x.2 ≤ y.2
  | [], _, y, h => ⟨y, h, rfl, Int.le_refl _⟩
  | r :: l, out, y, h => by
    obtain ⟨z, hz, h1, h2⟩ := putR_old (n := namedL rs r.1) (s := r.2) h
    obtain ⟨x, hx, h3, h4⟩ := mergeTo_old rs l _ hz
    exact ⟨x, hx, h3.trans h1, by omega⟩
theorem mergeTo_all (rs : List (ByteArray × ByteArray)) : ∀ (l out : List Rt) {r : Rt}, r ∈ l → ∃ x ∈ mergeTo rs out l, x.1 = namedL rs r.1 ∧ x.2 ≤ r.2
  | q :: l, out, r, h => by
    rcases List.mem_cons.1 h with rfl | h1
    · obtain ⟨z, hz, h1, h2⟩ := putR_new out (namedL rs r.1) r.2
      obtain ⟨x, hx, h3, h4⟩ := mergeTo_old rs l _ hz
      exact ⟨x, hx, h3.trans h1, by omega⟩
    · exact mergeTo_all rs l _ h1
theorem mergeR_nodup (rs : List (ByteArray × ByteArray)) (l : List Rt) : ((mergeR rs l).map (·.1)).Nodup := mergeTo_nodup rs l [] (by simp)
theorem mergeR_len (rs : List (ByteArray × ByteArray)) (l : List Rt) : (mergeR rs l).length ≤ l.length := by have := mergeTo_len rs l []; simp only [List.length_nil, Nat.zero_add] at this; exact this
theorem mergeR_mem {rs : List (ByteArray × ByteArray)} {l : List Rt} {x : Rt} (h : x ∈ mergeR rs l) : ∃ r ∈ l, x = (namedL rs r.1, r.2) := by
  rcases mergeTo_mem rs l [] h with h1 | h1
  · cases h1
  · exact h1
theorem mergeR_all {rs : List (ByteArray × ByteArray)} {l : List Rt} {r : Rt} (h : r ∈ l) : ∃ x ∈ mergeR rs l, x.1 = namedL rs r.1 ∧ x.2 ≤ r.2 := mergeTo_all rs l [] h

/-! Apply and Then. -/
def apB (m : Mt) (g : Mg) (p q : Pc) (day : Int) : Bool := vdB g p q && (fmB m && (decide (m.pr = g.fr) && (decide (m.st < (p.ss.length : Int)) && isB day)))
def newSt (g : Mg) (s : Int) : Int := g.st[s.toNat]?.getD 0
def thenSt (b : Mg) (s : Int) : Int := if 0 ≤ s then newSt b s else s
def thenRs (a b : Mg) : List (ByteArray × ByteArray) := a.rs.map (fun r => (r.1, namedL b.rs r.2)) ++ b.rs.filter (fun r => decide (r.1 ∉ a.rs.map (·.1)))
def thenG (a b : Mg) : Mg := ⟨a.fr, b.tn, a.st.map (thenSt b), thenRs a b, a.ts ++ b.ts⟩
def thenE (a b : Mg) : Int :=
  if (mgB a && (mgB b && (decide (a.tn = b.fr) && a.st.all fun s => decide (s < (b.st.length : Int))))) = false then 1
  else if ¬ ((a.ts ++ b.ts).map (·.id)).Nodup then 9
  else if 60 < (thenRs a b).length ∨ 60 < (a.ts ++ b.ts).length then 2
  else 0
def thenM (a b : Mg) : Mg := if thenE a b = 0 then thenG a b else Mg.zero
end Go.Proofs.YtebdkmlganalaaaGreatDoor
