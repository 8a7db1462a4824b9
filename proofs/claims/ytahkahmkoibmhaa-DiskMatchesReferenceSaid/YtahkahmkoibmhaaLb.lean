/- same, contents and do of the statements about the disk. -/
import Derived.Test.YtahkahmkoibmhaaLa
namespace Go.Proofs.Ytahkahmkoibmhaa
open Go.RowKit

/-- A slice of strings. -/
def StrsAt (w : World) (A : Option Addr) (l : List ByteArray) : Prop :=
  ∀ (i : Nat) (s : ByteArray), l[i]? = some s → ∃ g off, A = some ⟨g, off, none⟩ ∧ g < w.heap.size ∧ w.cell? ⟨g, off + i, none⟩ = some (.string s)
theorem StrsAt.below {w w' : World} {A : Option Addr} {l : List ByteArray} (h : StrsAt w A l) (hb : Below w.heap.size w w') : StrsAt w' A l := fun i a hi => by
  obtain ⟨g, off, hA, hg, hc⟩ := h i a hi
  exact ⟨g, off, hA, Nat.lt_of_lt_of_le hg hb.size, (hb.cell (p := ⟨g, off + i, none⟩) hg).trans hc⟩
theorem StrsAt.only {w w' : World} {A : Option Addr} {l : List ByteArray} {F : Foot} (h : StrsAt w A l) (hb : Only F w w') (hF : ∀ a, A = some a → ¬ F a.block) : StrsAt w' A l := fun i a hi => by
  obtain ⟨g, off, hA, hg, hc⟩ := h i a hi
  exact ⟨g, off, hA, Nat.lt_of_lt_of_le hg hb.size, (World.cell?_of_block (a := ⟨g, off + i, none⟩) (hb.block g hg (hF _ hA))).trans hc⟩
theorem StrsAt.of_own {w : World} {e : TypeId} {A : Option Addr} {n c : Nat} {l : List ByteArray} (h : w.ownsRow 0 e 1 (.slice A n c) n (l.map Value.string)) : StrsAt w A l := by
  intro i s hi
  have hlen := h.1
  simp at hlen
  have hil : i < n := by rw [← hlen]; exact (List.getElem?_eq_some_iff.1 hi).1
  rcases h.2 with ⟨_, h0⟩ | ⟨g, cap, cur, hv, _, hh, _⟩
  · omega
  · injection hv with hA h2 h3
    subst hA h3
    have := h.cellAt i (by omega)
    refine ⟨g, 0, rfl, ?_, ?_⟩
    · exact (Blk.lt (w := w) (g := g) (t := e) (cs := cur) hh)
    · rw [Nat.zero_add, this]; simp [hi]

def sameB (a b : List ByteArray) : Bool := a.map (·.data.toList) == b.map (·.data.toList)
theorem sameB_iff {a b : List ByteArray} : sameB a b = true ↔ a = b := by
  unfold sameB
  rw [beq_iff_eq]
  constructor
  · intro h
    have inj : ∀ x y : ByteArray, x.data.toList = y.data.toList → x = y := fun x y h => WideShapes.bytes_inj h
    exact List.map_inj_right (f := fun b : ByteArray => b.data.toList) inj |>.1 h
  · rintro rfl; rfl

set_option maxHeartbeats 400000 in
theorem same_any (w : World) (A B : Option Addr) (l m : List ByteArray) (c e : Nat) (hA : StrsAt w A l) (hB : StrsAt w B m) (hl : l.length ≤ 4611686018427387904) (hm : m.length ≤ 4611686018427387904) :
    Calls Try.prog 26 #[.slice A l.length c, .slice B m.length e] w fun e w' => e = .returned (.bool (sameB l m)) ∧ Below w.heap.size w w' := by
  obtain ⟨r, hr⟩ : ∃ r, sameB l m = r := ⟨_, rfl⟩
  rw [hr]
  have HR := Lib.hid hr
  clear hr
  by_cases hlm : l.length = m.length
  · have ht : ((l.length : Int) != (m.length : Int)) = false := by simp; omega
    have HL := Lib.hid hlm
    clear hlm
    go_enter Try.func26, Try.ntmps26
    go_wp2_with fail
    go_loopw [5] (fun v wr => ∃ k : Nat, k ≤ l.length ∧ v = .int .i64 (k : Int) ∧ l.take k = m.take k ∧ Below w.heap.size w wr) (fun v _ => l.length - (intOf v).toNat)
    case atStart => exact ⟨0, Nat.zero_le _, rfl, rfl, Below.refl _ _⟩
    case round =>
      obtain ⟨k, hk, rfl, hall, hb⟩ := hrel
      have HA := Lib.hid hall
      clear hall
      by_cases hlt : k < l.length
      · have hkm : k < m.length := by rw [← HL.out]; exact hlt
        obtain ⟨x, hx⟩ : ∃ a, l[k]? = some a := ⟨_, List.getElem?_eq_getElem hlt⟩
        obtain ⟨y, hy⟩ : ∃ a, m[k]? = some a := ⟨_, List.getElem?_eq_getElem hkm⟩
        obtain ⟨g, off, h1, _, c1⟩ := (hA.below hb) k x hx
        obtain ⟨g', off', h2, _, c2⟩ := (hB.below hb) k y hy
        subst h1 h2
        have HX := Lib.hid hx
        have HY := Lib.hid hy
        have k0 : (0 : Int) ≤ (k : Int) := by omega
        have k1 : (k : Int) < (l.length : Int) := by omega
        have k2 : (k : Int) < (m.length : Int) := by omega
        clear hx hy
        by_cases hxy : x = y
        · have h3 : (x.toList == y.toList) = true := by rw [hxy]; simp
          have HXY := Lib.hid hxy
          clear hxy
          go_wp2
          refine wp_region_tail 8 (by kernel_rfl) (by kernel_rfl) ?_
          simp only [List.take_succ_cons, List.take_zero, List.drop_succ_cons, List.drop_zero]
          repeat still_step
          refine wpStill_nil ?_
          go_wp2
          go_roundw
          case rel =>
            refine ⟨k + 1, by omega, by go_num, ?_, hb.drew⟩
            rw [List.take_succ_eq_append_getElem hlt, List.take_succ_eq_append_getElem hkm, HA.out]
            have e1 : l[k] = x := by have := HX.out; rw [List.getElem?_eq_getElem hlt] at this; exact Option.some.inj this
            have e2 : m[k] = y := by have := HY.out; rw [List.getElem?_eq_getElem hkm] at this; exact Option.some.inj this
            rw [e1, e2, HXY.out]
          case measure => simp [intOf]; omega
        · have h3 : (x.toList == y.toList) = false := by
            rw [beq_eq_false_iff_ne, ByteArray.toList_eq, ByteArray.toList_eq]
            exact fun h => hxy (WideShapes.bytes_inj h)
          have HXY := Lib.hid hxy
          clear hxy
          go_wp2
          refine wp_region_tail 8 (by kernel_rfl) (by kernel_rfl) ?_
          simp only [List.take_succ_cons, List.take_zero, List.drop_succ_cons, List.drop_zero]
          repeat still_step
          refine wpStill_nil ?_
          go_wp2
          go_ret
          refine ⟨?_, hb.drew⟩
          have : sameB l m = false := by
            rw [Bool.eq_false_iff]
            intro h
            have := sameB_iff.1 h
            subst this
            have := HX.out.symm.trans HY.out
            exact HXY.out (Option.some.inj this)
          rw [HR.out] at this
          subst this
          rfl
      · obtain rfl : k = l.length := by omega
        go_wp2
        go_ret
        refine ⟨?_, hb⟩
        have : sameB l m = true := by
          rw [sameB_iff]
          have := HA.out
          rwa [List.take_length, HL.out, List.take_length] at this
        rw [HR.out] at this
        subst this
        rfl
  · have ht : ((l.length : Int) != (m.length : Int)) = true := by simp; omega
    have HL := Lib.hid hlm
    clear hlm
    go_enter Try.func26, Try.ntmps26
    go_wp2
    go_ret
    refine ⟨?_, Below.refl _ _⟩
    have : sameB l m = false := by
      rw [Bool.eq_false_iff]
      intro h
      exact HL.out (by rw [sameB_iff.1 h])
    rw [HR.out] at this
    subst this
    rfl

theorem Dk.view_size {d : Dk} (h : d.Ok) (i : Nat) (hi : i < d.n) : (d.view i).size = 64 := by
  unfold Dk.view
  cases hq : lastOf d.q i with
  | none =>
    have := h.st
    show (d.sec i).toArray.size = 64
    simp [Dk.sec, this]
    omega
  | some t =>
    unfold lastOf at hq
    rw [Option.map_eq_some_iff] at hq
    obtain ⟨p, hp, rfl⟩ := hq
    exact (h.q p (List.mem_reverse.1 (List.mem_of_find?_eq_some hp))).2
theorem own_block {A : Option Addr} {k c g : Nat} (h : (Value.slice A k c).ownBlock = some g) : ∃ b, A = some b ∧ b.block = g := by
  cases A with
  | none => cases h
  | some b => injection h with h; exact ⟨b, rfl, h⟩
def Dk.views (d : Dk) : List ByteArray := (List.range d.n).map d.view
theorem Dk.views_len (d : Dk) : d.views.length = d.n := by simp [Dk.views]
theorem Dk.views_at (d : Dk) (i : Nat) (hi : i < d.n) : d.views[i]? = some (d.view i) := by simp [Dk.views, hi]
theorem DiskAt.ok {w : World} {a : Nat} {d : Dk} {F : Foot} (h : DiskAt w a d F) : d.Ok := by
  obtain ⟨_, _, _, _, h⟩ := h
  exact h.ok
theorem DiskAt.below {w w' : World} {a : Nat} {d : Dk} {F : Foot} (h : DiskAt w a d F) (hb : Below w.heap.size w w') : DiskAt w' a d F := by
  obtain ⟨b1, b2, qv, ga, h⟩ := h
  exact ⟨b1, b2, qv, ga, h.keep (Only.of_below hb (fun _ => False)) (by simp)⟩
theorem DiskAt.only {w w' : World} {a : Nat} {d : Dk} {F G : Foot} (h : DiskAt w a d F) (hb : Only G w w') (hd : ∀ i, F i → ¬ G i) : DiskAt w' a d F := by
  obtain ⟨b1, b2, qv, ga, h⟩ := h
  exact ⟨b1, b2, qv, ga, h.keep hb hd⟩
theorem DiskAt.lt {w : World} {a : Nat} {d : Dk} {F : Foot} (h : DiskAt w a d F) : ∀ i, F i → i < w.heap.size := by
  obtain ⟨b1, b2, qv, ga, h⟩ := h
  exact h.fl

theorem Try.infoStr : (Try.prog.info? 9).map (fun i => (i.zero, i.size, i.bytes)) = some (some (.string ⟨#[]⟩), 1, 16) := by kernel_rfl

set_option maxHeartbeats 800000 in
theorem contents_any (w : World) (a : Nat) (d : Dk) (F : Foot) (h : DiskAt w a d F) (ho : d.off = false) :
    Calls Try.prog 21 #[.pointer (some ⟨a, 0, none⟩), .int .i64 (d.n : Int)] w fun e w' =>
      ∃ A c, e = .returned (.tuple #[.slice A d.n c, .bool true]) ∧ Below w.heap.size w w' ∧ w'.ownsRow 0 9 1 (.slice A d.n c) d.n (d.views.map Value.string) ∧ (∀ b, A = some b → w.heap.size ≤ b.block) := by
  obtain ⟨i0, hi0, hz0, hz1, hz2⟩ := info_parts Try.infoStr
  have hn := h.ok.n2
  have HO := Lib.hid ho
  clear ho
  go_enter Try.func21, Try.ntmps21
  go_wp2_with fail
  go_loopw [6, 7] (fun v i wr => ∃ (k : Nat) (A : Option Addr) (c : Nat), k ≤ d.n ∧ i = .int .i64 (k : Int) ∧ v = .slice A k c ∧ wr.ownsRow 0 9 1 (.slice A k c) k ((d.views.take k).map Value.string) ∧ Below w.heap.size w wr ∧ (∀ b, A = some b → w.heap.size ≤ b.block)) (fun _ i _ => d.n - (intOf i).toNat)
  case atStart => exact ⟨0, none, 0, Nat.zero_le _, rfl, rfl, World.ownsRow_nil _ _ _ _, Below.refl _ _, fun b hb => by cases hb⟩
  case round =>
    obtain ⟨k, A, c, hk, rfl, rfl, hown, hb, hA⟩ := hrel
    by_cases hlt : k < d.n
    · have hD := h.below hb
      have e1 : d.read (k : Int) = (d.view k, 0) := by
        have hh : d.has (k : Int) = true := by simp [Dk.has]; omega
        unfold Dk.read
        rw [HO.out, hh]
        simp
      have hsz := Dk.view_size h.ok k hlt
      have hr := read_any hD (k : Int)
      rw [e1] at hr
      have HC := hr
      have hvk := Lib.hid (Dk.views_at d k hlt)
      generalize d.view k = x at *
      have hsz' : ((x.size : Int) != 64) = false := by simp; omega
      clear hr hsz e1
      go_wp2_with fail
      refine HC.mono ?_
      rintro e w1 ⟨rfl, hb1⟩
      have hown1 := (Only.of_below hb1 (fun _ => False)).owns hown (by simp)
      clear hown
      have hnew : (w1.alloc (.cells #[Value.string x] 9)).heap[w1.heap.size]? = some (.cells #[Value.string x] 9 (0, 0)) := Blk.new w1 _ _
      have hone : ∀ u ∈ [Value.string x], u.oneCell' = true := by intro u hu; simp at hu; subst hu; rfl
      go_wp2_with (at_builtin; refine wpList_append_lies _ rfl _ _ 39 rfl 0 9 i0 _ 1 16 Try.underlying39 hi0 hz0 hz1 hz2 rfl (by omega) (.slice A k c) k _ rfl (hown1.alloc _) ⟨w1.heap.size, 0, none⟩ 1 1 [Value.string x] rfl rfl (World.news_of_block hnew) hone (by omega) (by unfold maxLen; omega) (by omega) (by omega) (w1.heap.size + 1) (by simp) ?_; intro g cap w2 o2 g2 l2 z2)
      have s1 := hb.size
      have s2 := hb1.size
      have hrow : ∀ g, (Value.slice A k c).ownBlock = some g → w.heap.size ≤ g := fun g hg => by
        obtain ⟨b, hb, rfl⟩ := own_block hg
        exact hA b hb
      have hb2 : Below w.heap.size w w2 := ((hb.trans (hb1.mono s1)).alloc (by omega) _).grown g2 (by simp; omega) hrow
      go_roundw
      case rel =>
        refine ⟨k + 1, some ⟨g, 0, none⟩, cap, by omega, by go_num, rfl, ?_, hb2, fun b hbb => ?_⟩
        · rw [List.take_succ_eq_append_getElem (by rw [Dk.views_len]; exact hlt), List.map_append]
          have : d.views[k]'(by rw [Dk.views_len]; exact hlt) = x := by
            have := hvk.out
            rw [List.getElem?_eq_getElem (by rw [Dk.views_len]; exact hlt)] at this
            exact Option.some.inj this
          rw [this]
          exact o2
        · injection hbb with hbb
          subst hbb
          rcases l2 with l2 | l2
          · exact hrow g l2
          · show w.heap.size ≤ g
            omega
      case measure => simp [intOf]; omega
    · obtain rfl : k = d.n := by omega
      go_wp2
      go_ret2
      refine ⟨A, c, rfl, hb, ?_, hA⟩
      rw [List.take_of_length_le (by rw [Dk.views_len]; omega)] at hown
      exact hown
end Go.Proofs.Ytahkahmkoibmhaa
