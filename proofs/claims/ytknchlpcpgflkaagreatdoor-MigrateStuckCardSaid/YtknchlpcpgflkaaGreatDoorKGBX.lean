/- What the law on stuck stages reckons by itself: rounds over the moves from a stage; plain. What the law on stuck stages reckons by itself: its walk. -/
import Derived.Test.YtknchlpcpgflkaaGreatDoorKGAX
import Derived.Test.YtknchlpcpgflkaaGreatDoorKGAS
import Derived.Test.YtknchlpcpgflkaaGreatDoorKGAD
namespace Go.Proofs.YtknchlpcpgflkaaGreatDoor

def flipM (ms : List I2) : List I2 := ms.map fun m => (m.2, m.1)
theorem flipM_in {n : Nat} {ms : List I2} (h : MvIn n ms) : MvIn n (flipM ms) := fun m hm => by
  unfold flipM at hm
  obtain ⟨x, hx, rfl⟩ := List.mem_map.1 hm
  exact ⟨(h x hx).2, (h x hx).1⟩
/-- One move as the law takes it. -/
def fwd1 (v : List Bool) (m : I2) : List Bool := v.set m.2.toNat (v[m.2.toNat]?.getD false || v[m.1.toNat]?.getD false)
theorem fwd1_swp (v : List Bool) (m : I2) : fwd1 v m = swp1 v (m.2, m.1) := by
  unfold fwd1 swp1
  simp only
  by_cases h : v[m.1.toNat]?.getD false = true
  · rw [if_pos h, h, Bool.or_true]
  · rw [if_neg h, Bool.eq_false_iff.2 h, Bool.or_false]
    apply List.ext_getElem?
    intro j
    rw [List.getElem?_set]
    split
    case isTrue he =>
      subst he
      split
      case isTrue hl => rw [List.getElem?_eq_getElem hl]; rfl
      case isFalse hl => rw [List.getElem?_eq_none (by omega)]
    case isFalse => rfl
def fwd (ms : List I2) (v : List Bool) : List Bool := ms.foldl fwd1 v
theorem fwd_swp : ∀ (ms : List I2) (v : List Bool), fwd ms v = swp (flipM ms) v
  | [], _ => rfl
  | m :: ms, v => by
    show fwd ms (fwd1 v m) = swp (flipM ms) (swp1 v (m.2, m.1))
    rw [fwd_swp ms, fwd1_swp]
theorem fwd1_len (v : List Bool) (m : I2) : (fwd1 v m).length = v.length := by unfold fwd1; simp
theorem fwd_len : ∀ (ms : List I2) (v : List Bool), (fwd ms v).length = v.length
  | [], _ => rfl
  | m :: ms, v => (fwd_len ms (fwd1 v m)).trans (fwd1_len v m)
def fwdN (ms : List I2) : Nat → List Bool → List Bool
  | 0, v => v
  | k + 1, v => fwd ms (fwdN ms k v)
theorem fwdN_len (ms : List I2) : ∀ (k : Nat) (v : List Bool), (fwdN ms k v).length = v.length
  | 0, _ => rfl
  | k + 1, v => (fwd_len ms _).trans (fwdN_len ms k v)
theorem fwdN_swp (ms : List I2) : ∀ (k : Nat) (v : List Bool), fwdN ms k v = swpN (flipM ms) k v
  | 0, _ => rfl
  | k + 1, v => by
    show fwd ms (fwdN ms k v) = swp (flipM ms) (swpN (flipM ms) k v)
    rw [fwdN_swp ms k v, fwd_swp]
/-- A part of a round. -/
def fwdK (ms : List I2) (j : Nat) (v : List Bool) : List Bool := fwd (ms.take j) v
theorem fwdK_zero (ms : List I2) (v : List Bool) : fwdK ms 0 v = v := rfl
theorem fwdK_len (ms : List I2) (j : Nat) (v : List Bool) : (fwdK ms j v).length = v.length := fwd_len _ v
theorem fwdK_next {ms : List I2} {j : Nat} {m : I2} (h : ms[j]? = some m) (v : List Bool) : fwdK ms (j + 1) v = fwd1 (fwdK ms j v) m := by
  unfold fwdK fwd
  rw [List.take_add_one, h, List.foldl_append]
  rfl
theorem fwdK_all (ms : List I2) (v : List Bool) : fwdK ms ms.length v = fwd ms v := by unfold fwdK; rw [List.take_length]
/-- Where the rounds begin. -/
def strV (n : Nat) (s : Int) : List Bool := (List.replicate n false).set s.toNat true
theorem strV_len (n : Nat) (s : Int) : (strV n s).length = n := by unfold strV; simp
theorem strV_on {n : Nat} {s : Int} {i : Nat} : onAt (strV n s) i ↔ i < n ∧ i = s.toNat := by
  unfold onAt strV
  rw [List.getElem?_set]
  split
  case isTrue he =>
    subst he
    rw [List.length_replicate]
    split
    case isTrue hl => exact ⟨fun _ => ⟨hl, rfl⟩, fun _ => rfl⟩
    case isFalse hl => exact ⟨fun h => by simp at h, fun h => absurd h.1 hl⟩
  case isFalse he =>
    constructor
    · intro h
      rw [List.getElem?_replicate] at h
      split at h <;> simp at h
    · rintro ⟨_, rfl⟩
      exact absurd rfl he
def rchV (p : Pc) (s : Int) : List Bool := fwdN p.ms p.ss.length (strV p.ss.length s)
theorem rchV_len (p : Pc) (s : Int) : (rchV p s).length = p.ss.length := (fwdN_len _ _ _).trans (strV_len _ _)
/-- What the rounds keep: all that is set is reached. -/
def RchOn (ms : List I2) (s : Int) (v : List Bool) : Prop := ∀ i : Nat, onAt v i → Rch ms s (i : Int)
theorem RchOn.one {ms : List I2} {n : Nat} (hin : MvIn n ms) {s : Int} {v : List Bool} (h : RchOn ms s v) {m : I2} (hm : m ∈ ms) : RchOn ms s (swp1 v (m.2, m.1)) := by
  intro i hi
  obtain ⟨⟨h1, -⟩, h2, -⟩ := hin m hm
  rcases swp1_only hi with h' | ⟨rfl, h'⟩
  · exact h i h'
  · have := h _ h'
    simp only at this ⊢
    rw [Int.toNat_of_nonneg h1] at this
    rw [Int.toNat_of_nonneg h2]
    exact this.snoc hm
theorem RchOn.round {ms : List I2} {n : Nat} (hin : MvIn n ms) {s : Int} : ∀ (l : List I2) {v : List Bool}, (∀ m ∈ l, m ∈ ms) → RchOn ms s v → RchOn ms s (swp (flipM l) v)
  | [], _, _, h => h
  | m :: l, v, hl, h => by
    show RchOn ms s (swp (flipM l) (swp1 v (m.2, m.1)))
    exact RchOn.round hin l (fun x hx => hl x (List.mem_cons_of_mem _ hx)) (h.one hin (hl m (by simp)))
theorem RchOn.rounds {ms : List I2} {n : Nat} (hin : MvIn n ms) {s : Int} {v : List Bool} (h : RchOn ms s v) : ∀ k, RchOn ms s (swpN (flipM ms) k v)
  | 0 => h
  | k + 1 => RchOn.round hin ms (fun _ h => h) (RchOn.rounds hin h k)
theorem swpN_on (ms : List I2) {v : List Bool} {i : Nat} (h : onAt v i) : ∀ k, onAt (swpN ms k v) i
  | 0 => h
  | k + 1 => swp_on ms (swpN_on ms h k)
theorem rchV_iff {p : Pc} (hin : MvIn p.ss.length p.ms) {s : Int} (h0 : 0 ≤ s) (h1 : s < (p.ss.length : Int)) {t : Nat} (_ht : t < p.ss.length) : onAt (rchV p s) t ↔ Rch p.ms s (t : Int) := by
  unfold rchV
  rw [fwdN_swp]
  constructor
  · refine RchOn.rounds hin ?_ _ t
    intro i hi
    obtain ⟨-, rfl⟩ := strV_on.1 hi
    rw [Int.toNat_of_nonneg h0]
    exact .refl s
  · intro h
    have hs : onAt (swpN (flipM p.ms) p.ss.length (strV p.ss.length s)) s.toNat := swpN_on _ (strV_on.2 ⟨by omega, rfl⟩) _
    have hshut : ∀ m ∈ p.ms, onAt (swpN (flipM p.ms) p.ss.length (strV p.ss.length s)) m.1.toNat → onAt (swpN (flipM p.ms) p.ss.length (strV p.ss.length s)) m.2.toNat := by
      intro m hm ho
      have := swpN_shut (ms := flipM p.ms) (v := strV p.ss.length s) (by rw [strV_len]; exact flipM_in hin) (m.2, m.1) (by unfold flipM; exact List.mem_map.2 ⟨m, hm, rfl⟩)
      rw [strV_len] at this
      exact this ho
    have := h.fore (V := fun x => 0 ≤ x ∧ onAt (swpN (flipM p.ms) p.ss.length (strV p.ss.length s)) x.toNat) (fun m hm h => ⟨(hin m hm).2.1, hshut m hm h.2⟩) ⟨h0, hs⟩
    have h2 := this.2
    rwa [Int.toNat_natCast] at h2
/-- Whether a stage is set and no move begins there. -/
def lastB (p : Pc) (s : Int) (t : Nat) : Bool := (rchV p s)[t]?.getD false && p.ms.all fun m => decide (m.1 ≠ (t : Int))
def rchB (p : Pc) (s : Int) : Bool := decide (0 ≤ s) && (decide (s < (p.ss.length : Int)) && (List.range p.ss.length).any (lastB p s))
theorem lastB_iff {p : Pc} {s : Int} {t : Nat} : lastB p s t = true ↔ onAt (rchV p s) t ∧ ∀ m ∈ p.ms, m.1 ≠ (t : Int) := by
  unfold lastB onAt
  rw [Bool.and_eq_true, List.all_eq_true]
  constructor
  · rintro ⟨h1, h2⟩
    refine ⟨?_, fun m hm => of_decide_eq_true (h2 m hm)⟩
    cases hv : (rchV p s)[t]? with
    | none => rw [hv] at h1; simp at h1
    | some b => rw [hv] at h1; simp at h1; rw [h1]
  · rintro ⟨h1, h2⟩
    exact ⟨by rw [h1]; rfl, fun m hm => decide_eq_true (h2 m hm)⟩
theorem rchB_end {p : Pc} (hin : MvIn p.ss.length p.ms) (s : Int) : rchB p s = endB p s := by
  rw [Bool.eq_iff_iff, endB_iff]
  unfold rchB
  rw [Bool.and_eq_true, Bool.and_eq_true, decide_eq_true_eq, decide_eq_true_eq, List.any_eq_true]
  constructor
  · rintro ⟨h0, h1, t, ht, hl⟩
    have ht := List.mem_range.1 ht
    obtain ⟨ho, hm⟩ := lastB_iff.1 hl
    exact ⟨(t : Int), ⟨by omega, by omega, hm⟩, (rchV_iff hin h0 h1 ht).1 ho⟩
  · intro he
    obtain ⟨h0, h1⟩ := he.in_ hin
    obtain ⟨t, ⟨t0, t1, tm⟩, hr⟩ := he
    refine ⟨h0, h1, t.toNat, List.mem_range.2 (by omega), lastB_iff.2 ⟨(rchV_iff hin h0 h1 (by omega)).2 ?_, ?_⟩⟩
    · rwa [Int.toNat_of_nonneg t0]
    · rwa [Int.toNat_of_nonneg t0]
/-- No stage of the first k is a last one. -/
theorem any_step {f : Nat → Bool} {n k : Nat} (hk : k < n) (hf : f k = true) : (List.range n).any f = true := List.any_eq_true.2 ⟨k, List.mem_range.2 hk, hf⟩
theorem any_none {f : Nat → Bool} {n : Nat} (h : ∀ i, i < n → f i = false) : (List.range n).any f = false := by
  rw [Bool.eq_false_iff]
  intro he
  obtain ⟨i, hi, hf⟩ := List.any_eq_true.1 he
  rw [h i (List.mem_range.1 hi)] at hf
  cases hf
/-- What the law asks at a stage. -/
theorem stuck_has {g : Mg} {p q : Pc} (hv : vdB g p q = true) (i : Nat) (hi : i < g.st.length) : decide ((i : Int) ∈ stuckL g p q) = stkB g p q i := by
  rw [Bool.eq_iff_iff, decide_eq_true_eq]
  unfold stuckL
  rw [if_pos hv, stuckTo_mem]
  constructor
  · rintro ⟨j, h1, h2, h3⟩
    have : i = j := by omega
    subst this
    exact h3
  · exact fun h => ⟨i, hi, rfl, h⟩
theorem stuck_in {g : Mg} {p q : Pc} (hv : vdB g p q = true) {x : Int} (hx : x ∈ stuckL g p q) : 0 ≤ x ∧ x < (g.st.length : Int) := by
  unfold stuckL at hx
  rw [if_pos hv, stuckTo_mem] at hx
  obtain ⟨j, h1, rfl, -⟩ := hx
  omega
theorem stuck_up {g : Mg} {p q : Pc} {i : Nat} {x y : Int} (h1 : (stuckL g p q)[i]? = some x) (h2 : (stuckL g p q)[i + 1]? = some y) : x < y := by
  have hp : (stuckL g p q).Pairwise (· < ·) := by
    unfold stuckL
    split
    · exact stuckTo_up g p q _
    · exact .nil
  obtain ⟨l1, e1⟩ := List.getElem?_eq_some_iff.1 h1
  obtain ⟨l2, e2⟩ := List.getElem?_eq_some_iff.1 h2
  rw [← e1, ← e2]
  exact List.pairwise_iff_getElem.1 hp i (i + 1) l1 l2 (by omega)
end Go.Proofs.YtknchlpcpgflkaaGreatDoor

namespace Go.Proofs.YtknchlpcpgflkaaGreatDoor
open Go.RowKit Go.Shelf

theorem Tryz.infoBool : (Tryz.prog.info? 4).map (fun i => (i.zero, i.size, i.bytes)) = some (some (Value.bool false), 1, 1) := by kernel_rfl
theorem blk_bools {w : World} {g : Nat} {v : List Bool} (h : Blk w g 4 (v.map Value.bool).toArray) {i : Nat} {b : Bool} (hi : v[i]? = some b) : w.cell? ⟨g, i, none⟩ = some (.bool b) := by
  rw [h.cell]
  simp [hi]
theorem blk_bset {w : World} {g : Nat} {v : List Bool} (h : Blk w g 4 (v.map Value.bool).toArray) (i : Nat) (b : Bool) : Blk (w.setCell ⟨g, i, none⟩ (.bool b)) g 4 ((v.set i b).map Value.bool).toArray := by
  have := h.set_ i (.bool b)
  rw [List.setIfInBounds_toArray] at this
  rw [List.map_set]
  exact this
set_option maxRecDepth 100000 in
set_option maxHeartbeats 8000000 in
theorem reaches_any (w : World) (B : Nat) (p : Pc) (y : PcX) (h : PcAt w B p y) (hB : B ≤ w.heap.size) (hin : MvIn p.ss.length p.ms) (z1 : p.ss.length ≤ 1000000) (z2 : p.ms.length ≤ 1000000) (s : Int) :
    Calls Tryz.prog 19 #[.agg (pcC p y), .int .i64 s] w fun e w' => e = .returned (.bool (rchB p s)) ∧ Below w.heap.size w w' := by
  have hms := h.ms
  have hr1 : ¬ 0 ≤ s → rchB p s = false := fun h => by unfold rchB; rw [decide_eq_false h]; rfl
  have hr2 : ¬ s < (p.ss.length : Int) → rchB p s = false := fun h => by unfold rchB; rw [decide_eq_false h, Bool.false_and, Bool.and_false]
  have hr3 : 0 ≤ s → s < (p.ss.length : Int) → rchB p s = (List.range p.ss.length).any (lastB p s) := fun h0 h1 => by unfold rchB; rw [decide_eq_true h0, decide_eq_true h1, Bool.true_and, Bool.true_and]
  have hlb : ∀ t, lastB p s t = ((fwdN p.ms p.ss.length (strV p.ss.length s))[t]?.getD false && p.ms.all fun m => decide (m.1 ≠ (t : Int))) := fun t => rfl
  obtain ⟨r, hr⟩ : ∃ r, rchB p s = r := ⟨_, rfl⟩
  obtain ⟨lb, hlbe⟩ : ∃ f, lastB p s = f := ⟨_, rfl⟩
  rw [hlbe] at hr3 hlb
  rw [hr] at hr1 hr2 hr3 ⊢
  clear hr hlbe h
  obtain ⟨pn, pss, pms⟩ := p
  obtain ⟨a1, c1, a2, c2⟩ := y
  simp only at hms hr2 hr3 hlb z1 z2 hin
  obtain ⟨n, hn⟩ : ∃ n, pss.length = n := ⟨_, rfl⟩
  obtain ⟨M, hM⟩ : ∃ n, pms.length = n := ⟨_, rfl⟩
  have eP : pcC ⟨pn, pss, pms⟩ ⟨a1, c1, a2, c2⟩ = #[.string pn, .slice a1 n c1, .slice a2 M c2] := by unfold pcC; simp only [hn, hM]
  rw [eP]
  rw [hn] at hr2 hr3 hlb z1 hin
  rw [hM] at z2
  have mk := run_make_one (P := Tryz.prog) 101 4 (.bool false) 1 (by kernel_rfl) Tryz.infoBool rfl (n : Int) n rfl (by omega) (by omega)
  have hb := below_self_alloc w (.cells #[.string pn, .slice a1 n c1, .slice a2 M c2] 34)
  have kx := Blk.new w 34 #[.string pn, .slice a1 n c1, .slice a2 M c2]
  have hb1 := hb.alloc hb.size (.cells (Array.replicate n (.bool false)) 4)
  have kv := Blk.new1 w (.cells #[.string pn, .slice a1 n c1, .slice a2 M c2] 34) 4 (Array.replicate n (.bool false))
  have kx1 := kx.alloc (.cells (Array.replicate n (.bool false)) 4)
  rw [show (Array.replicate n (Value.bool false)) = ((List.replicate n false).map Value.bool).toArray from by simp] at kv
  have HIN := Lib.hid hin
  have HMS := Lib.hid hms
  have HR1 := Lib.hid hr1
  have HR2 := Lib.hid hr2
  have HR3 := Lib.hid hr3
  have HLB := Lib.hid hlb
  have HM := Lib.hid hM
  have HB1 := Lib.hid hb1
  have KX1 := Lib.hid kx1
  have KV := Lib.hid kv
  obtain ⟨t0, t1, t2⟩ := kx.all
  clear hin hms hr1 hr2 hr3 hlb hn hM hb1 kx1 kv eP
  go_enter Tryz.func19, Tryz.ntmps19
  go_upto_region 2 with fail
  clear mk hb kx t0 t1 t2
  try rw [show (w.alloc (.cells #[.string pn, .slice a1 n c1, .slice a2 M c2] 34)).heap.size = w.heap.size + 1 from by simp]
  replace KV : Hid (Blk ((w.alloc (.cells #[.string pn, .slice a1 n c1, .slice a2 M c2] 34)).alloc (.cells (Array.replicate n (.bool false)) 4)) (w.heap.size + 1) 4 ((List.replicate n false).map Value.bool).toArray) := Lib.hid (by have := KV.out; simpa using this)
  generalize ((w.alloc (.cells #[.string pn, .slice a1 n c1, .slice a2 M c2] 34)).alloc (.cells (Array.replicate n (.bool false)) 4)) = W1 at *
  by_cases h0 : 0 ≤ s
  case neg =>
    obtain rfl := HR1.out h0
    go_wp2
    go_ret
    exact ⟨rfl, HB1.out⟩
  by_cases h1 : s < (n : Int)
  case neg =>
    obtain rfl := HR2.out h1
    have n1 : ¬ s < 0 := by omega
    have n2 : (n : Int) ≤ s := by omega
    go_wp2
    go_ret
    exact ⟨rfl, HB1.out⟩
  have n1 : ¬ s < 0 := by omega
  have n2 : ¬ (n : Int) ≤ s := by omega
  have HR := Lib.hid (HR3.out h0 h1)
  obtain ⟨q, rfl⟩ : ∃ q : Nat, s = (q : Int) := ⟨s.toNat, by omega⟩
  have hqn : q < n := by omega
  have hqn1 : q < n * 1 := by omega
  have hqc := blk_bools KV.out (i := q) (b := false) (by rw [List.getElem?_replicate, if_pos hqn])
  obtain ⟨t0, t1, t2⟩ := KV.out.all
  clear HR1 HR2 HR3 t0
  go_upto_region 5 with fail
  have ho : Only (fun i => i = w.heap.size + 1) W1 (W1.setCell ⟨w.heap.size + 1, q, none⟩ (.bool true)) := (Only.refl (fun i => i = w.heap.size + 1) W1).setCell (p := ⟨w.heap.size + 1, q, none⟩) (.inl rfl) (.bool true)
  have HB2 := Lib.hid (HB1.out.trans (ho.below HB1.out.size (fun i hi => by omega)))
  have KX2 := Lib.hid (ho.blk KX1.out (by omega))
  have KV2 := Lib.hid (blk_bset KV.out q true)
  rw [show (List.replicate n false).set q true = strV n (q : Int) from by unfold strV; rw [Int.toNat_natCast]] at KV2
  clear ho hqc t1 t2 KX1 KV HB1
  generalize W1.setCell ⟨w.heap.size + 1, q, none⟩ (.bool true) = W2 at *
  go_wp2_with fail
  go_loopw [6] (fun v wr => ∃ k : Nat, k ≤ n ∧ v = .int .i64 (k : Int) ∧ Hid (Blk wr w.heap.size 34 #[.string pn, .slice a1 n c1, .slice a2 M c2]) ∧ Hid (Blk wr (w.heap.size + 1) 4 ((fwdN pms k (strV n (q : Int))).map Value.bool).toArray) ∧ Hid (Below w.heap.size w wr)) (fun v _ => n - (intOf v).toNat)
  case atStart => exact ⟨0, Nat.zero_le _, rfl, KX2, KV2, HB2⟩
  case round =>
    clear KX2 KV2 HB2
    obtain ⟨k, hk, rfl, KX, KV, HB⟩ := hrel
    by_cases hlt : k < n
    · obtain ⟨t0, t1, t2⟩ := KX.out.all
      obtain ⟨u, hu⟩ : ∃ u, fwdN pms k (strV n (q : Int)) = u := ⟨_, rfl⟩
      have hul : u.length = n := by rw [← hu, fwdN_len, strV_len]
      have hun : fwdN pms (k + 1) (strV n (q : Int)) = fwdK pms M u := by rw [← HM.out, fwdK_all, ← hu]; rfl
      rw [hu] at KV
      have HUL := Lib.hid hul
      have HUN := Lib.hid hun
      clear hu hul hun
      go_wp2_with fail
      go_loopw [7] (fun v wr => ∃ j : Nat, j ≤ M ∧ v = .int .i64 (j : Int) ∧ Hid (Blk wr w.heap.size 34 #[.string pn, .slice a1 n c1, .slice a2 M c2]) ∧ Hid (Blk wr (w.heap.size + 1) 4 ((fwdK pms j u).map Value.bool).toArray) ∧ Hid (Below w.heap.size w wr)) (fun v _ => M - (intOf v).toNat)
      case atStart => exact ⟨0, Nat.zero_le _, rfl, KX, KV, HB⟩
      case round =>
        clear KX KV HB t0 t1 t2
        obtain ⟨j, hj, rfl, KX, KV, HB⟩ := hrel
        obtain ⟨t0, t1, t2⟩ := KX.out.all
        by_cases hlj : j < M
        · obtain ⟨m, hm⟩ : ∃ m, pms[j]? = some m := ⟨_, List.getElem?_eq_getElem (by rw [HM.out]; exact hlj)⟩
          obtain ⟨⟨x0, x1⟩, y0, y1⟩ := HIN.out m (List.mem_of_getElem? hm)
          obtain ⟨g, off, hA, hg, c0, c1⟩ := (HMS.out.below (HB.out.mono hB)) j m hm
          subst hA
          have hnx := fwdK_next hm u
          obtain ⟨v, hv⟩ : ∃ v, fwdK pms j u = v := ⟨_, rfl⟩
          have hvl : v.length = n := by rw [← hv, fwdK_len]; exact HUL.out
          rw [hv] at hnx KV
          obtain ⟨x, y⟩ := m
          simp only at x0 x1 y0 y1 c0 c1
          obtain ⟨x, rfl⟩ : ∃ q : Nat, x = (q : Int) := ⟨x.toNat, by omega⟩
          obtain ⟨y, rfl⟩ : ∃ q : Nat, y = (q : Int) := ⟨y.toNat, by omega⟩
          obtain ⟨bx, hbx⟩ : ∃ b, v[x]? = some b := ⟨_, List.getElem?_eq_getElem (by omega)⟩
          obtain ⟨by_, hby⟩ : ∃ b, v[y]? = some b := ⟨_, List.getElem?_eq_getElem (by omega)⟩
          replace hnx : fwdK pms (j + 1) u = v.set y (by_ || bx) := by
            rw [hnx]
            show v.set ((y : Int).toNat) (v[(y : Int).toNat]?.getD false || v[(x : Int).toNat]?.getD false) = _
            rw [Int.toNat_natCast, Int.toNat_natCast, hbx, hby]
            rfl
          have HNX := Lib.hid hnx
          have jx : x < n * 1 := by omega
          have jy : y < n * 1 := by omega
          have ib0 : (0 : Int) ≤ (j : Int) := by omega
          have ib1 : (j : Int) < (M : Int) := by omega
          have HBX := Lib.hid hbx
          have HBY := Lib.hid hby
          clear hnx hv hm hvl hbx hby
          go_upto_region 12 with fail
          have KX3 := Lib.hid (KX.out.alloc (.cells #[.int .i64 (x : Int), .int .i64 (y : Int)] 76))
          have KV3 := KV.out.alloc (.cells #[.int .i64 (x : Int), .int .i64 (y : Int)] 76)
          have HB3 := Lib.hid (HB.out.alloc HB.out.size (.cells #[.int .i64 (x : Int), .int .i64 (y : Int)] 76))
          have KM := Blk.new wr 76 #[.int .i64 (x : Int), .int .i64 (y : Int)]
          obtain ⟨a0, a1, a2⟩ := KM.all
          obtain ⟨v0, v1, v2⟩ := KV3.all
          have qx := blk_bools KV3 HBX.out
          have qy := blk_bools KV3 HBY.out
          clear t0 t1 t2 c0 c1 v0 KX KV HB HBX HBY
          generalize wr.alloc (.cells #[.int .i64 (x : Int), .int .i64 (y : Int)] 76) = W3 at *
          generalize wr.heap.size = gm at *
          cases by_ with
          | true =>
            refine wp_region_tail 15 (by kernel_rfl) (by kernel_rfl) ?_
            simp only [List.take_succ_cons, List.take_zero, List.drop_succ_cons, List.drop_zero]
            repeat still_step
            refine wpStill_nil ?_
            go_wp2
            have ho : Only (fun i => i = w.heap.size + 1) W3 (W3.drew.setCell ⟨w.heap.size + 1, y, none⟩ (.bool true)) := (Only.refl (fun i => i = w.heap.size + 1) W3).drew.setCell (p := ⟨w.heap.size + 1, y, none⟩) (.inl rfl) (.bool true)
            have HB4 := Lib.hid (HB3.out.trans (ho.below HB3.out.size (fun i hi => by omega)))
            have KX4 := Lib.hid (ho.blk KX3.out (by omega))
            have KV4 := Lib.hid (blk_bset KV3.drew y true)
            clear ho
            go_roundw
            case rel => exact ⟨j + 1, by omega, by go_num, KX4, Lib.hid (by rw [HNX.out]; exact KV4.out), HB4⟩
            case measure => simp [intOf]; omega
          | false =>
            refine wp_region_tail 15 (by kernel_rfl) (by kernel_rfl) ?_
            simp only [List.take_succ_cons, List.take_zero, List.drop_succ_cons, List.drop_zero]
            repeat still_step
            refine wpStill_nil ?_
            go_wp2
            have ho : Only (fun i => i = w.heap.size + 1) W3 (W3.drew.setCell ⟨w.heap.size + 1, y, none⟩ (.bool bx)) := (Only.refl (fun i => i = w.heap.size + 1) W3).drew.setCell (p := ⟨w.heap.size + 1, y, none⟩) (.inl rfl) (.bool bx)
            have HB4 := Lib.hid (HB3.out.trans (ho.below HB3.out.size (fun i hi => by omega)))
            have KX4 := Lib.hid (ho.blk KX3.out (by omega))
            have KV4 := Lib.hid (blk_bset KV3.drew y bx)
            clear ho
            go_roundw
            case rel => exact ⟨j + 1, by omega, by go_num, KX4, Lib.hid (by rw [HNX.out]; exact KV4.out), HB4⟩
            case measure => simp [intOf]; omega
        · obtain rfl : j = M := by omega
          have nb : ¬ (j : Int) < (j : Int) := by omega
          go_wp2
          go_roundw
          case rel => exact ⟨k + 1, by omega, by go_num, KX, Lib.hid (by rw [HUN.out]; exact KV.out), HB⟩
          case measure => simp [intOf]; omega
    · obtain rfl : k = n := by omega
      have nb : ¬ (k : Int) < (k : Int) := by omega
      obtain ⟨u, hu⟩ : ∃ u, fwdN pms k (strV k (q : Int)) = u := ⟨_, rfl⟩
      have hul : u.length = k := by rw [← hu, fwdN_len, strV_len]
      rw [hu] at KV
      have hlb := HLB.out
      rw [hu] at hlb
      replace HLB := Lib.hid hlb
      have HUL := Lib.hid hul
      clear hu hul hlb
      go_wp2_with fail
      go_loopw [9] (fun v wr => ∃ t : Nat, t ≤ k ∧ v = .int .i64 (t : Int) ∧ Hid (∀ i, i < t → lb i = false) ∧ Hid (Blk wr w.heap.size 34 #[.string pn, .slice a1 k c1, .slice a2 M c2]) ∧ Hid (Blk wr (w.heap.size + 1) 4 (u.map Value.bool).toArray) ∧ Hid (Below w.heap.size w wr)) (fun v _ => k - (intOf v).toNat)
      case atStart => exact ⟨0, Nat.zero_le _, rfl, Lib.hid (fun i hi => absurd hi (Nat.not_lt_zero i)), KX, KV, HB⟩
      case round =>
        clear KX KV HB
        obtain ⟨t, ht, rfl, HN, KX, KV, HB⟩ := hrel
        by_cases hlt : t < k
        · obtain ⟨b, hb⟩ : ∃ b, u[t]? = some b := ⟨_, List.getElem?_eq_getElem (by rw [HUL.out]; exact hlt)⟩
          have hlb := HLB.out t
          rw [hb] at hlb
          replace hlb : lb t = (b && pms.all fun m => decide (m.1 ≠ (t : Int))) := hlb
          have HLT := Lib.hid hlb
          have qt := blk_bools KV.out hb
          obtain ⟨v0, v1, v2⟩ := KV.out.all
          obtain ⟨t0, t1, t2⟩ := KX.out.all
          have jt : t < k * 1 := by omega
          clear hlb hb v0
          go_wp2_with fail
          go_loopw [10, 11] (fun f v wr => ∃ j : Nat, j ≤ M ∧ f = .bool (b && (pms.take j).all fun m => decide (m.1 ≠ (t : Int))) ∧ v = .int .i64 (j : Int) ∧ Hid (Blk wr w.heap.size 34 #[.string pn, .slice a1 k c1, .slice a2 M c2]) ∧ Hid (Blk wr (w.heap.size + 1) 4 (u.map Value.bool).toArray) ∧ Hid (Below w.heap.size w wr)) (fun _ v _ => M - (intOf v).toNat)
          case atStart => exact ⟨0, Nat.zero_le _, by rw [List.take_zero, List.all_nil, Bool.and_true], rfl, KX, KV, HB⟩
          case round =>
            clear KX KV HB t0 t1 t2 v1 v2 qt
            obtain ⟨j, hj, rfl, rfl, KX, KV, HB⟩ := hrel
            obtain ⟨t0, t1, t2⟩ := KX.out.all
            by_cases hlj : j < M
            · obtain ⟨m, hm⟩ : ∃ m, pms[j]? = some m := ⟨_, List.getElem?_eq_getElem (by rw [HM.out]; exact hlj)⟩
              obtain ⟨g, off, hA, hg, c0, -⟩ := (HMS.out.below (HB.out.mono hB)) j m hm
              subst hA
              have hnx : (b && (pms.take (j + 1)).all fun m => decide (m.1 ≠ (t : Int))) = ((b && (pms.take j).all fun m => decide (m.1 ≠ (t : Int))) && decide (m.1 ≠ (t : Int))) := by
                rw [List.take_add_one, hm, List.all_append, Bool.and_assoc]
                congr 2
                simp
              obtain ⟨f, hf⟩ : ∃ f, (b && (pms.take j).all fun m => decide (m.1 ≠ (t : Int))) = f := ⟨_, rfl⟩
              rw [hf] at hnx ⊢
              have ib0 : (0 : Int) ≤ (j : Int) := by omega
              have ib1 : (j : Int) < (M : Int) := by omega
              cases f with
              | false =>
                rw [Bool.false_and] at hnx
                have HNX := Lib.hid hnx
                clear hnx hf hm c0
                go_wp2
                go_roundw
                case rel => exact ⟨j + 1, by omega, by rw [HNX.out], by go_num, KX, KV, HB⟩
                case measure => simp [intOf]; omega
              | true =>
                rw [Bool.true_and] at hnx
                by_cases he : m.1 = (t : Int)
                · have hnx2 := hnx.trans (decide_eq_false (fun h => h he))
                  have HNX := Lib.hid hnx2
                  clear hnx hnx2 hf hm
                  rw [he] at c0
                  clear he
                  go_wp2
                  go_roundw
                  case rel => exact ⟨j + 1, by omega, by rw [HNX.out], by go_num, KX, KV, HB⟩
                  case measure => simp [intOf]; omega
                · have hnx2 := hnx.trans (decide_eq_true he)
                  have HNX := Lib.hid hnx2
                  have hne : (m.1 != (t : Int)) = true := by simpa using he
                  have HNE := Lib.hid hne
                  clear hnx hnx2 hf hm hne
                  go_wp2
                  go_roundw
                  case rel => exact ⟨j + 1, by omega, by rw [HNX.out, HNE.out], by go_num, KX, KV, HB⟩
                  case measure => simp [intOf]; omega
            · obtain rfl : j = M := by omega
              have nb : ¬ (j : Int) < (j : Int) := by omega
              rw [show pms.take j = pms from List.take_of_length_le (by rw [HM.out]; exact Nat.le_refl _), ← HLT.out]
              cases hbt : lb t with
              | true =>
                have hr : r = true := HR.out.trans (any_step hlt hbt)
                subst hr
                clear hbt
                go_wp2
                go_ret
                exact ⟨rfl, HB.out⟩
              | false =>
                have HN2 : Hid (∀ i, i < t + 1 → lb i = false) := Lib.hid (fun i hi => by
                  by_cases h : i = t
                  · rw [h]; exact hbt
                  · exact HN.out i (by omega))
                clear hbt
                go_wp2
                go_roundw
                case rel => exact ⟨t + 1, by omega, by go_num, HN2, KX, KV, HB⟩
                case measure => simp [intOf]; omega
        · obtain rfl : t = k := by omega
          have nb : ¬ (t : Int) < (t : Int) := by omega
          have hr : r = false := HR.out.trans (any_none HN.out)
          subst hr
          go_wp2
          go_ret
          exact ⟨rfl, HB.out⟩
end Go.Proofs.YtknchlpcpgflkaaGreatDoor
