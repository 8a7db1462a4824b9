/- A journal in memory; Append in plain words. -/
import Derived.Test.YtfjejfgdnjnflaaGreatDoorJx
namespace Go.Proofs.YtfjejfgdnjnflaaGreatDoor
open Go.RowKit Go.Shelf

/-- The sectors of the pieces from a place on. -/
def fullS : Nat → List (List UInt8) → List (List UInt8)
  | _, [] => []
  | a, p :: r => secL a p :: fullS (a + 1) r
theorem fullS_len : ∀ (ps : List (List UInt8)) (a : Nat), (fullS a ps).length = ps.length
  | [], _ => rfl
  | _ :: r, a => by simp [fullS, fullS_len r]
theorem fullS_app : ∀ (ps qs : List (List UInt8)) (a : Nat), fullS a (ps ++ qs) = fullS a ps ++ fullS (a + ps.length) qs
  | [], _, _ => rfl
  | p :: r, qs, a => by
    simp only [List.cons_append, fullS, fullS_app r qs, List.length_cons]
    rw [show a + 1 + r.length = a + (r.length + 1) by omega]
/-- Writes one after the other, until one fails. -/
def Dk.steps (d : Dk) : List (Nat × List (List UInt8)) → Dk × Int
  | [] => (d, 0)
  | (p, l) :: r => if (d.puts p l).2 = 0 then Dk.steps (d.puts p l).1 r else d.puts p l
/-- What Append writes. -/
def writesS (cnt : Nat) (ps : List (List UInt8)) : List (Nat × List (List UInt8)) :=
  [(2 + cnt, List.replicate ps.length zeroL), (2 + cnt, fullS (2 + cnt) ps), (1, [headL 1 (cnt + ps.length)]), (0, [headL 0 (cnt + ps.length)])]
/-- Append. -/
def appendS (d : Dk) (x : Jn) (rs : List (List UInt8)) : Dk × Jn × Int :=
  if x.broken then (d, x, 12)
  else if rs.any (fun r => decide (20000 < r.length)) then (d, x, 2)
  else if (x.n : Int) - 2 - x.cnt < ((piecesL (textR rs)).length : Int) then (d, x, 27)
  else if rs = [] then (d, x, 0)
  else if (d.steps (writesS x.cnt (piecesL (textR rs)))).2 = 0 then
    ((d.steps (writesS x.cnt (piecesL (textR rs)))).1, { x with cnt := x.cnt + (piecesL (textR rs)).length, rs := x.rs ++ rs }, 0)
  else ((d.steps (writesS x.cnt (piecesL (textR rs)))).1, { x with broken := true }, (d.steps (writesS x.cnt (piecesL (textR rs)))).2)
theorem Dk.puts_q : ∀ (l : List (List UInt8)) (d : Dk) (p : Nat), (d.puts p l).1.q.length ≤ d.q.length + l.length
  | [], d, p => Nat.le_trans (Dk.sync_q d) (Nat.le_add_right _ _)
  | s :: r, d, p => by
    have h := Dk.write_q d p (bs s)
    unfold Dk.puts
    split
    · have := Dk.puts_q r (d.write p (bs s)).1 (p + 1)
      simp only [List.length_cons]
      omega
    · simp only [List.length_cons]
      omega
theorem Dk.puts_n : ∀ (l : List (List UInt8)) (d : Dk) (p : Nat), (d.puts p l).1.n = d.n
  | [], d, _ => Dk.sync_n d
  | s :: r, d, p => by
    unfold Dk.puts
    split
    · rw [Dk.puts_n r, Dk.write_n]
    · exact Dk.write_n d p (bs s)
theorem Dk.steps_n : ∀ (l : List (Nat × List (List UInt8))) (d : Dk), (d.steps l).1.n = d.n
  | [], _ => rfl
  | (p, s) :: r, d => by
    unfold Dk.steps
    split
    · rw [Dk.steps_n r, Dk.puts_n]
    · exact Dk.puts_n s d p
end Go.Proofs.YtfjejfgdnjnflaaGreatDoor
