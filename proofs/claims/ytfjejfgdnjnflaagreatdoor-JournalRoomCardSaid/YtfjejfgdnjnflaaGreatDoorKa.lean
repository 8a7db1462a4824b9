/- A journal in memory; Open in plain words. No program in sight. -/
import Derived.Test.YtfjejfgdnjnflaaGreatDoorJy
namespace Go.Proofs.YtfjejfgdnjnflaaGreatDoor

/-- What a sector shows. -/
def Dk.vw (d : Dk) (i : Nat) : List UInt8 := (d.view i).data.toList
theorem Dk.vw_bs (d : Dk) (i : Nat) : d.view i = bs (d.vw i) := rfl
theorem lastOf_mem {q : List (Nat × ByteArray)} {i : Nat} {t : ByteArray} (h : lastOf q i = some t) : ∃ p ∈ q, p.2 = t := by
  unfold lastOf at h
  obtain ⟨p, hp, rfl⟩ := Option.map_eq_some_iff.1 h
  exact ⟨p, List.mem_reverse.1 (List.mem_of_find?_eq_some hp), rfl⟩
theorem Dk.vw_len {d : Dk} (h : d.Ok) {i : Nat} (hi : i < d.n) : (d.vw i).length = 64 := by
  unfold Dk.vw Dk.view
  cases hl : lastOf d.q i with
  | some t =>
    obtain ⟨p, hp, rfl⟩ := lastOf_mem hl
    have := (h.q p hp).2
    simp only [Option.getD_some, Array.length_toList]
    exact this
  | none =>
    simp only [Option.getD_none]
    show (d.sec i).length = 64
    unfold Dk.sec
    rw [List.length_take, List.length_drop, h.st]
    omega
/-- All sectors. -/
def Dk.vws (d : Dk) : List (List UInt8) := (List.range d.n).map d.vw
/-- The texts of the pieces, from a place on. -/
def foundP : Nat → List (List UInt8) → Option (List UInt8)
  | _, [] => some []
  | p, s :: r => (pieceOf p s).bind fun t => (foundP (p + 1) r).map fun u => t ++ u
/-- A head that is not in order is written anew. -/
def Dk.mend (d : Dk) (p : Nat) (v : List UInt8) (c : Nat) : Dk × Int :=
  if v = headL p c ∨ (c = 0 ∧ v = zeroL) then (d, 0)
  else if (d.puts p [zeroL]).2 = 0 ∧ 0 < c then (d.puts p [zeroL]).1.puts p [headL p c] else d.puts p [zeroL]
def cntM (a b : List UInt8) (room : Nat) : Int := max (cntL 0 a room) (cntL 1 b room)
/-- What the disk's sectors say: the journal's count and records. -/
noncomputable def readS (l : List (List UInt8)) : Option (Nat × List (List UInt8)) :=
  if cntM (l.getD 0 []) (l.getD 1 []) (l.length - 2) < 0 then none
  else (foundP 2 ((l.drop 2).take (cntM (l.getD 0 []) (l.getD 1 []) (l.length - 2)).toNat)).bind fun t => (parseR t).map fun rs => ((cntM (l.getD 0 []) (l.getD 1 []) (l.length - 2)).toNat, rs)
/-- The two heads mended. -/
def Dk.mends (d : Dk) (c : Nat) : Dk × Int :=
  if (d.mend 0 (d.vw 0) c).2 = 0 then (d.mend 0 (d.vw 0) c).1.mend 1 (d.vw 1) c else d.mend 0 (d.vw 0) c
/-- Open. -/
noncomputable def openS (d : Dk) : Dk × Option Jn × Int :=
  if d.off then (d, none, 25)
  else if d.n < 3 then (d, none, 1)
  else match readS d.vws with
    | none => (d, none, 26)
    | some (c, rs) => if (d.mends c).2 = 0 then ((d.mends c).1, some ⟨d.n, c, rs, false⟩, 0) else ((d.mends c).1, none, (d.mends c).2)

theorem foundP_app : ∀ (a b : List (List UInt8)) (p : Nat), foundP p (a ++ b) = (foundP p a).bind fun t => (foundP (p + a.length) b).map fun u => t ++ u
  | [], b, p => by
    simp only [List.nil_append, foundP, Option.bind_some, List.length_nil, Nat.add_zero]
    cases foundP p b <;> rfl
  | s :: r, b, p => by
    simp only [List.cons_append, foundP, foundP_app r b (p + 1), List.length_cons]
    rw [show p + 1 + r.length = p + (r.length + 1) by omega]
    cases pieceOf p s with
    | none => rfl
    | some t =>
      simp only [Option.bind_some]
      cases foundP (p + 1) r with
      | none => rfl
      | some u =>
        simp only [Option.bind_some, Option.map_some]
        cases foundP (p + (r.length + 1)) b with
        | none => rfl
        | some x => simp
theorem foundP_len : ∀ (a : List (List UInt8)) (p : Nat) (t : List UInt8), foundP p a = some t → t.length ≤ 46 * a.length
  | [], _, t, h => by injection h with h; subst h; simp
  | s :: r, p, t, h => by
    simp only [foundP] at h
    cases hp : pieceOf p s with
    | none => rw [hp] at h; cases h
    | some u =>
      rw [hp, Option.bind_some] at h
      cases hf : foundP (p + 1) r with
      | none => rw [hf] at h; cases h
      | some x =>
        rw [hf] at h
        injection h with h
        subst h
        have h1 := foundP_len r (p + 1) x hf
        have h2 := (pieceOf_some hp).2.1
        simp
        omega
theorem foundP_bad {p i : Nat} {l : List (List UInt8)} {s : List UInt8} (h : l[i]? = some s) (hn : pieceOf (p + i) s = none) : foundP p l = none := by
  obtain ⟨h1, h2⟩ := List.getElem?_eq_some_iff.1 h
  rw [← List.take_append_drop i l, foundP_app, List.length_take, Nat.min_eq_left (by omega), List.drop_eq_getElem_cons h1, h2]
  simp only [foundP, hn, Option.bind_none, Option.map_none]
  cases foundP p (l.take i) <;> rfl
theorem foundP_next {p i : Nat} {l : List (List UInt8)} {s t T : List UInt8} (h : l[i]? = some s) (hT : foundP p (l.take i) = some T) (hp : pieceOf (p + i) s = some t) : foundP p (l.take (i + 1)) = some (T ++ t) := by
  obtain ⟨h1, h2⟩ := List.getElem?_eq_some_iff.1 h
  rw [List.take_succ_eq_append_getElem h1, h2, foundP_app, hT, List.length_take, Nat.min_eq_left (by omega)]
  simp [foundP, hp]
theorem pieceOf_none {p : Nat} {s : List UInt8} (h : Lib.atoi ((s.drop 16).take 2) = none) : pieceOf p s = none := by unfold pieceOf; rw [h]
theorem pieceOf_at {p : Nat} {s : List UInt8} {n : Int} (h : Lib.atoi ((s.drop 16).take 2) = some n) : pieceOf p s = if 1 ≤ n ∧ n ≤ 46 ∧ secL p ((s.drop 18).take n.toNat) = s then some ((s.drop 18).take n.toNat) else none := by unfold pieceOf; rw [h]
theorem textR_rows : ∀ (l : List (List UInt8)), l.length ≤ (textR l).length
  | [] => Nat.le_refl _
  | r :: l => by
    have e : textR (r :: l) = recL r ++ textR l := by simp [textR]
    have := textR_rows l
    rw [e, List.length_append, List.length_cons]
    have e3 : 1 ≤ (recL r).length := by unfold recL; simp; omega
    omega
theorem cntM_le (a b : List UInt8) (room : Nat) : cntM a b room ≤ room := by
  unfold cntM
  have h1 : cntL 0 a room ≤ room := by rcases cntL_spec 0 a room with h | ⟨_, h⟩ | ⟨n, hn, _, h⟩ <;> omega
  have h2 : cntL 1 b room ≤ room := by rcases cntL_spec 1 b room with h | ⟨_, h⟩ | ⟨n, hn, _, h⟩ <;> omega
  omega
theorem Dk.vws_len (d : Dk) : d.vws.length = d.n := by simp [Dk.vws]
theorem Dk.vws_at (d : Dk) {i : Nat} (h : i < d.n) : d.vws[i]? = some (d.vw i) := by simp [Dk.vws, h]
end Go.Proofs.YtfjejfgdnjnflaaGreatDoor
