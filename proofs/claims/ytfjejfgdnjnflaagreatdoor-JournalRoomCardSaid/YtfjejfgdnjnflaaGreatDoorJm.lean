/- The journal: write. -/
import Derived.Test.YtfjejfgdnjnflaaGreatDoorJl
import Derived.Test.YtfjejfgdnjnflaaGreatDoorJg
namespace Go.Proofs.YtfjejfgdnjnflaaGreatDoor
open Go.RowKit Go.Shelf

/-- The sectors written one after the other, and then synchronized. -/
def Dk.puts (d : Dk) (place : Nat) : List (List UInt8) → Dk × Int
  | [] => d.sync
  | s :: r => if (d.write place (bs s)).2 = 0 then Dk.puts (d.write place (bs s)).1 (place + 1) r else d.write place (bs s)
/-- A slice of texts that lies in the blocks of G. -/
def StrsIn (w : World) (G : Foot) (A : Option Addr) (l : List (List UInt8)) : Prop :=
  ∀ (i : Nat) (s : List UInt8), l[i]? = some s → ∃ g off, A = some ⟨g, off, none⟩ ∧ G g ∧ w.cell? ⟨g, off + i, none⟩ = some (.string (bs s))
theorem StrsIn.keep {w w' : World} {A : Option Addr} {l : List (List UInt8)} {G : Foot} (h : StrsIn w G A l) (hk : Keep G w w') : StrsIn w' G A l := fun i s hi => by
  obtain ⟨g, off, hA, hg, hc⟩ := h i s hi
  exact ⟨g, off, hA, hg, (World.cell?_of_block (a := ⟨g, off + i, none⟩) (hk.block g hg)).trans hc⟩
theorem StrsIn.mono {w : World} {A : Option Addr} {l : List (List UInt8)} {G H : Foot} (h : StrsIn w G A l) (hG : ∀ i, G i → H i) : StrsIn w H A l := fun i s hi => by
  obtain ⟨g, off, hA, hg, hc⟩ := h i s hi
  exact ⟨g, off, hA, hG g hg, hc⟩
theorem Blk.keep {w w' : World} {g : Nat} {t : TypeId} {cs : Array Value} {G : Foot} (h : Blk w g t cs) (hk : Keep G w w') (hg : G g) : Blk w' g t cs := (hk.block g hg).trans h
theorem Keep.trans {G : Foot} {a b c : World} (h : Keep G a b) (k : Keep G b c) : Keep G a c := ⟨Nat.le_trans h.size k.size, fun i hi => (k.block i hi).trans (h.block i hi)⟩
theorem Keep.refl (G : Foot) (w : World) : Keep G w w := ⟨Nat.le_refl _, fun _ _ => rfl⟩

set_option maxRecDepth 100000 in
set_option maxHeartbeats 4000000 in
theorem put_any {w0 w : World} {a : Nat} {d : Dk} {G : Foot} (L : Live w0 w a d G) (j : Nat) (v1 v2 v3 v4 : Value) (hj : Blk w j 53 #[.pointer (some ⟨a, 0, none⟩), v1, v2, v3, v4]) (hG : G j)
    (place : Nat) (hp : place ≤ 1000000) (A : Option Addr) (l : List (List UInt8)) (c : Nat) (hs : StrsIn w G A l) (hq : d.q.length + l.length < 4096) :
    Calls Tryz.prog 42 #[.pointer (some ⟨j, 0, none⟩), .int .i64 (place : Int), .slice A l.length c] w fun e w' =>
      e = .returned (.int .i64 (d.puts place l).2) ∧ Live w0 w' a (d.puts place l).1 G ∧ Keep G w w' := by
  obtain ⟨r, hr⟩ : ∃ r, d.puts place l = r := ⟨_, rfl⟩
  rw [hr]
  have HR := Lib.hid hr
  have hk := Keep.refl G w
  have HJ := Lib.hid hj
  have HS := Lib.hid hs
  have LL := Lib.hid L
  clear hr hj hs L
  go_enter Tryz.func42, Tryz.ntmps42
  go_wp2_with fail
  go_loopw [12] (fun i wr => ∃ (k : Nat) (d' : Dk), k ≤ l.length ∧ i = .int .i64 (k : Int) ∧ Live w0 wr a d' G ∧ Keep G w wr ∧ d'.q.length + (l.length - k) < 4096 ∧ Hid (d'.puts (place + k) (l.drop k) = r)) (fun i _ => l.length - (intOf i).toNat)
  case atStart => exact ⟨0, d, Nat.zero_le _, rfl, LL.out, hk, by omega, HR⟩
  case round =>
    clear hk HR LL
    obtain ⟨k, d', hkl, rfl, L, hk, hq', HR⟩ := hrel
    have hj := HJ.out.keep hk hG
    obtain ⟨x0, x1, x2⟩ := hj.all
    by_cases hlt : k < l.length
    · obtain ⟨s, hss⟩ : ∃ s, l[k]? = some s := ⟨_, List.getElem?_eq_getElem hlt⟩
      obtain ⟨g, off, hA, hg, hc⟩ := HS.out.keep hk k s hss
      subst hA
      have hdr : l.drop k = s :: l.drop (k + 1) := by
        obtain ⟨h1, h2⟩ := List.getElem?_eq_some_iff.1 hss
        rw [List.drop_eq_getElem_cons h1, h2]
      have hi0 : (0 : Int) ≤ (k : Int) := by omega
      have hi1 : (k : Int) < (l.length : Int) := by omega
      obtain ⟨pk, hpk⟩ : ∃ pk, place + k = pk := ⟨_, rfl⟩
      have hsum : ((place : Int) + (k : Int)) = (pk : Int) := by omega
      rw [hpk] at HR
      have hl5 : l.length < 4096 := by omega
      obtain ⟨x, hx⟩ : ∃ x, d'.write (pk : Int) (bs s) = x := ⟨_, rfl⟩
      have hwn := Dk.write_q d' (pk : Int) (bs s)
      have hw := L.lift fun F hF => write_any hF (show d'.q.length < 4096 by omega) (pk : Int) (bs s)
      rw [hx] at hw hwn
      rw [hdr] at HR
      have hrr := HR.out
      unfold Dk.puts at hrr
      rw [hx] at hrr
      have HW := Lib.hid hw
      have HRR := Lib.hid hrr
      have HPK := Lib.hid hpk
      clear hw hss hdr hx HR hrr hpk
      go_wp2_with fail
      refine HW.out.mono ?_
      rintro e w3 ⟨rfl, L3, hk3⟩
      have hk4 := hk.trans hk3
      clear hk hk3 L HW hc x0 x1 x2 hj hsum
      by_cases hz : x.2 = 0
      · rw [if_pos hz] at HRR
        have e1 : (x.2 == 0) = true := by simpa using hz
        have e2 : (x.2 != 0) = false := by simpa using hz
        have HRN := Lib.hid (show x.1.puts (place + (k + 1)) (l.drop (k + 1)) = r by rw [← HRR.out, ← HPK.out]; rfl)
        clear HRR hz
        go_wp2
        go_roundw
        case rel => exact ⟨k + 1, x.1, by omega, by go_num, L3, hk4, by omega, HRN⟩
        case measure => simp [intOf]; omega
      · rw [if_neg hz] at HRR
        have e1 : (x.2 == 0) = false := by simpa using hz
        have e2 : (x.2 != 0) = true := by simpa using hz
        obtain rfl : x = r := HRR.out
        clear HRR hz
        go_wp2
        go_ret
        exact ⟨rfl, L3, hk4⟩
    · obtain rfl : k = l.length := by omega
      have hrr := HR.out
      rw [List.drop_length] at hrr
      have hr2 : d'.sync = r := hrr
      have hsy := L.lift fun F hF => sync_any hF
      rw [hr2] at hsy
      have HSY := Lib.hid hsy
      clear hsy hrr hr2 HR
      go_wp2_with fail
      refine HSY.out.mono ?_
      rintro e w3 ⟨rfl, L3, hk3⟩
      have hk4 := hk.trans hk3
      clear hk hk3 L HSY x0 x1 x2 hj
      go_wp2
      go_ret
      exact ⟨rfl, L3, hk4⟩
end Go.Proofs.YtfjejfgdnjnflaaGreatDoor
