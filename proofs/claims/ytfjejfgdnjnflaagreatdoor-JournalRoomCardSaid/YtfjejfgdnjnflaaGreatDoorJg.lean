/- The journal's texts: split. -/
import Derived.Test.YtfjejfgdnjnflaaGreatDoorJe
import Derived.Test.YtfjejfgdnjnflaaGreatDoorBu
namespace Go.Proofs.YtfjejfgdnjnflaaGreatDoor
open Go.RowKit Go.Shelf

theorem Tryz.infoStr : (Tryz.prog.info? 9).map (fun i => (i.zero, i.size, i.bytes)) = some (some (Value.string ⟨#[]⟩), 1, 16) := by kernel_rfl
def sv (l : List UInt8) : Value := .string (bs l)
theorem sv_one (l : List (List UInt8)) : ∀ u ∈ l.map sv, u.oneCell' = true := by
  intro u hu
  obtain ⟨x, _, rfl⟩ := List.mem_map.1 hu
  rfl
/-- A slice of texts of the call's own. -/
def OwnStrs (w : World) (base : Nat) (v : Value) (l : List (List UInt8)) : Prop := w.ownsRow base 9 1 v l.length (l.map sv)
theorem OwnStrs.nil (w : World) (base : Nat) : OwnStrs w base (.slice none 0 0) [] := World.ownsRow_nil _ _ _ _
theorem OwnStrs.form {w : World} {base : Nat} {v : Value} {l : List (List UInt8)} (h : OwnStrs w base v l) : ∃ A c, v = .slice A l.length c := by
  rcases h.2 with ⟨hv, h0⟩ | ⟨g, cap, cur, hv, _⟩
  · exact ⟨none, 0, by rw [hv, h0]⟩
  · exact ⟨_, _, hv⟩
theorem ne_empty {l : List UInt8} (h : l ≠ []) : (bs l).toList.isEmpty = false ∧ ¬ (bs l).toList = [] := by
  rw [Lib.toList_data]
  show l.isEmpty = false ∧ ¬ l = []
  exact ⟨by cases l with | nil => exact absurd rfl h | cons x l => rfl, h⟩

set_option maxRecDepth 100000 in
set_option maxHeartbeats 4000000 in
theorem split_any (w : World) (t : List UInt8) (ht : t.length ≤ 1000000) : Calls Tryz.prog 47 #[.string (bs t)] w fun e w' => ∃ v, e = .returned v ∧ OwnStrs w' w.heap.size v (piecesL t) ∧ Below w.heap.size w w' := by
  obtain ⟨i0, hi0, hz0, hz1, hz2⟩ := info_parts Tryz.infoStr
  obtain ⟨P, hP⟩ : ∃ P, piecesL t = P := ⟨_, rfl⟩
  rw [hP]
  have hPl : P.length ≤ t.length := by
    rw [← hP]
    have h1 := pieces_flat t
    have h2 := pieces_small t
    generalize piecesL t = Q at *
    rw [← h1]
    clear h1 hP
    induction Q with
    | nil => simp
    | cons x Q ih =>
      have := ih (fun p hp => h2 p (List.mem_cons_of_mem _ hp))
      have := (h2 x List.mem_cons_self).1
      simp only [List.length_cons, List.flatten_cons, List.length_append]
      omega
  have HP := Lib.hid hP
  clear hP
  have hw0 : OwnStrs w w.heap.size (.slice none 0 0) [] := OwnStrs.nil _ _
  go_enter Tryz.func47, Tryz.ntmps47
  go_wp2_with fail
  go_loopw [0, 3] (fun s v wr => ∃ (m : List UInt8) (ps : List (List UInt8)) (A : Option Addr) (c : Nat), s = .string (bs m) ∧ v = .slice A ps.length c ∧ OwnStrs wr w.heap.size (.slice A ps.length c) ps ∧ Hid (ps ++ piecesL m = P) ∧ Below w.heap.size w wr) (fun s _ _ => strSize s)
  case atStart => exact ⟨t, [], none, 0, rfl, rfl, hw0, Lib.hid (by rw [HP.out]; rfl), Below.refl _ _⟩
  case round =>
    clear hw0 HP
    obtain ⟨m, ps, A, c, rfl, rfl, own, HM, hb⟩ := hrel
    have hsz := bs_size m
    by_cases h0 : m = []
    · subst h0
      have hfin : ps = P := by have := HM.out; rw [pieces_nil, List.append_nil] at this; exact this
      subst hfin
      have he : (bs []).toList = [] := by rw [Lib.toList_data]; rfl
      go_wp2
      go_ret
      exact ⟨_, rfl, own, hb⟩
    · obtain ⟨q1, q2⟩ := ne_empty h0
      have hnx : (ps ++ [m.take 46]) ++ piecesL (m.drop 46) = P := by
        rw [← HM.out, pieces_cons h0, List.append_assoc]; rfl
      have hpsl : ps.length + 1 ≤ P.length := by rw [← hnx]; simp
      obtain ⟨k, hk⟩ : ∃ k, min 46 m.length = k := ⟨_, rfl⟩
      have hmin := run_min2 (P := Tryz.prog) 46 (m.length : Int) (k : Int) (by omega)
      have htk : m.take 46 = m.take k := by rw [← hk, List.take_eq_take_min]
      have hdk : m.drop 46 = m.drop k := by
        by_cases h46 : 46 ≤ m.length
        · rw [show k = 46 by omega]
        · rw [List.drop_of_length_le (by omega), List.drop_of_length_le (by omega)]
      have hkp : 1 ≤ k := by have : 0 < m.length := List.length_pos_iff.2 h0; omega
      have hkm : k ≤ m.length := by omega
      have s1 := sl_to m k hkm
      have s2 := sl_from m k hkm
      have hml : (m.drop k).length = m.length - k := List.length_drop
      rw [htk, hdk] at hnx
      have HNX := Lib.hid hnx
      have HML := Lib.hid hml
      have HPL := Lib.hid hpsl
      have kn := Blk.new wr 9 #[sv (m.take k)]
      have hb2 := hb.alloc hb.size (.cells #[sv (m.take k)] 9)
      have own2 : OwnStrs (wr.alloc (.cells #[sv (m.take k)] 9)) w.heap.size (.slice A ps.length c) ps := World.ownsRow.alloc own _
      clear hnx hml hk htk hdk h0 hpsl
      go_wp2_with (at_builtin; refine wpList_append_lies _ rfl _ _ 26 rfl w.heap.size 9 i0 _ 1 16 Tryz.underlying26 hi0 hz0 hz1 hz2 rfl (by omega) (.slice A ps.length c) ps.length (ps.map sv) rfl own2 ⟨wr.heap.size, 0, none⟩ 1 1 [sv (m.take k)] rfl rfl (World.news_of_block kn) (sv_one [m.take k]) (by omega) (by have := HPL.out; unfold maxLen; omega) (by have := HPL.out; omega) (by have := hb.size; simp; omega) (wr.heap.size + 1) (by simp) ?_; intro gz cz Y own9 gr9 l9 z9)
      have hb3 := hb2.grown gr9 hb2.size (fun x hx => (World.ownsRow.lt own2 x hx).1)
      have hl1 : (ps ++ [m.take k]).length = ps.length + 1 := by simp
      have own3 : OwnStrs Y w.heap.size (.slice (some ⟨gz, 0, none⟩) (ps.length + 1) cz) (ps ++ [m.take k]) := by
        unfold OwnStrs
        rw [hl1, List.map_append]
        exact own9
      go_roundw
      case rel => exact ⟨m.drop k, ps ++ [m.take k], some ⟨gz, 0, none⟩, cz, rfl, by rw [hl1], by rw [hl1]; exact own3, HNX, hb3⟩
      case measure =>
        show (bs (m.drop k)).size < (bs m).size
        rw [bs_size, bs_size, HML.out]; omega
end Go.Proofs.YtfjejfgdnjnflaaGreatDoor
