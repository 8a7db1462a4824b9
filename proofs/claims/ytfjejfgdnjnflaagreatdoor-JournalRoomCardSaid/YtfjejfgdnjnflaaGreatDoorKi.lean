/- A journal and its disk while a statement runs: what each call leaves. -/
import Derived.Test.YtfjejfgdnjnflaaGreatDoorKf
import Derived.Test.YtfjejfgdnjnflaaGreatDoorKb
namespace Go.Proofs.YtfjejfgdnjnflaaGreatDoor
open Go.RowKit Go.Shelf

/-- The journal j on the disk a; the blocks of K lie apart from both. -/
def Ses (w0 w : World) (a : Nat) (d : Dk) (j : Nat) (x : Jn) (K : Foot) : Prop :=
  ∃ J : Foot, Live w0 w a d (fun i => K i ∨ J i) ∧ JAt w w0.heap.size a j J x ∧ ∀ i, J i → w0.heap.size ≤ i ∧ ¬ K i

section
variable {w0 w w' : World} {a j : Nat} {d d' : Dk} {x : Jn} {K L : Foot}
theorem Ses.live (h : Ses w0 w a d j x K) : Live w0 w a d K := by
  obtain ⟨J, h1, _, _⟩ := h
  exact h1.less fun i hi => .inl hi
theorem Ses.ok (h : Ses w0 w a d j x K) : d.Ok := h.live.ok
theorem Ses.same (h : Ses w0 w a d j x K) (hb : Below w.heap.size w w') : Ses w0 w' a d j x K := by
  obtain ⟨J, h1, h2, h3⟩ := h
  exact ⟨J, h1.same hb, h2.keep (Keep.of_below hb h1.lt) (fun i hi => .inr hi), h3⟩
theorem Ses.more (h : Ses w0 w a d j x K) (hb : Below w.heap.size w w') (hL : ∀ i, L i → K i ∨ (w.heap.size ≤ i ∧ i < w'.heap.size)) : Ses w0 w' a d j x L := by
  obtain ⟨J, h1, h2, h3⟩ := h
  refine ⟨J, h1.more hb fun i hi => ?_, h2.keep (Keep.of_below hb h1.lt) (fun i hi => .inr hi), fun i hi => ⟨(h3 i hi).1, fun hl => ?_⟩⟩
  · rcases hi with hi | hi
    · rcases hL i hi with h4 | h4
      · exact .inl (.inl h4)
      · exact .inr h4
    · exact .inl (.inr hi)
  · rcases hL i hl with h4 | h4
    · exact (h3 i hi).2 h4
    · have := h1.lt i (.inr hi); omega
theorem Ses.less (h : Ses w0 w a d j x K) (hL : ∀ i, L i → K i) : Ses w0 w a d j x L := by
  obtain ⟨J, h1, h2, h3⟩ := h
  exact ⟨J, h1.less fun i hi => hi.imp (hL i) id, h2, fun i hi => ⟨(h3 i hi).1, fun hl => (h3 i hi).2 (hL i hl)⟩⟩
theorem Ses.lift {P : Program} {f : FuncId} {args : Array Value} {v : Value} (h : Ses w0 w a d j x K) (hc : ∀ F, DiskAt w a d F → Calls P f args w fun e w' => e = .returned v ∧ Stp w w' a d' F) :
    Calls P f args w fun e w' => e = .returned v ∧ Ses w0 w' a d' j x K ∧ Keep K w w' := by
  obtain ⟨J, h1, h2, h3⟩ := h
  refine (h1.lift hc).mono ?_
  rintro e w' ⟨he, h4, h5⟩
  exact ⟨he, ⟨J, h4, h2.keep h5 (fun i hi => .inr hi), h3⟩, h5.mono fun i hi => .inl hi⟩
theorem Ses.append (h : Ses w0 w a d j x K) (ht : Tbs w0) (A : Option Addr) (c : Nat) (rs : List (List UInt8)) (hs : StrsIn w K A rs) (hn : x.n ≤ 1000) (hc : x.cnt ≤ 1000) (hrl : rs.length ≤ 1000) (htot : total rs ≤ 500000) (hxl : x.rs.length ≤ 1000000) (hq : d.q.length ≤ 1000) :
    Calls Tryz.prog 13 #[.pointer (some ⟨j, 0, none⟩), .slice A rs.length c] w fun e w' =>
      e = .returned (.int .i64 (appendS d x rs).2.2) ∧ Ses w0 w' a (appendS d x rs).1 j (appendS d x rs).2.1 K ∧ Keep K w w' := by
  obtain ⟨J, h1, h2, h3⟩ := h
  refine (append_any (H := K) h1 ht h2 (fun i hi => .inr hi) (fun i hi => (h3 i hi).1) (fun i hi => ⟨.inl hi, fun hj => (h3 i hj).2 hi⟩) A c rs hs hn hc hrl htot hxl hq).mono ?_
  rintro e w' ⟨he, J', k1, k2, k3, k4⟩
  refine ⟨he, ⟨J', k2.less fun i hi => hi.imp (fun h => .inl h) id, k1, fun i hi => ?_⟩, k3.mono fun i hi => ⟨.inl hi, fun hj => (h3 i hj).2 hi⟩⟩
  rcases k4 i hi with h5 | h5
  · exact h3 i h5
  · refine ⟨by have := h1.below.size; omega, fun hk => ?_⟩
    have := h1.lt i (.inl hk)
    omega
theorem Ses.room (h : Ses w0 w a d j x K) (hn : x.n ≤ 1000000) (hc : x.cnt ≤ 1000000) :
    Calls Tryz.prog 14 #[.pointer (some ⟨j, 0, none⟩)] w fun e w' => e = .returned (.int .i64 ((x.n : Int) - 2 - x.cnt)) ∧ Below w.heap.size w w' := by
  obtain ⟨J, h1, h2, h3⟩ := h
  refine (room_any w _ a j J x h2 hn hc).mono ?_
  rintro e w' ⟨he, q, rfl⟩
  exact ⟨he, below_dN (Below.refl _ _) q⟩
theorem Ses.records (h : Ses w0 w a d j x K) (hl : x.rs.length ≤ 1000000) :
    Calls Tryz.prog 9 #[.pointer (some ⟨j, 0, none⟩)] w fun e w' => ∃ v, e = .returned v ∧ OwnStrs w' w.heap.size v x.rs ∧ Below w.heap.size w w' := by
  obtain ⟨J, h1, h2, h3⟩ := h
  exact records_any w _ a j J x h2 hl
/-- A journal opened before is still there behind later calls that keep its blocks. -/
theorem Ses.split (h : Ses w0 w a d j x K) : ∃ J : Foot, Live w0 w a d (fun i => K i ∨ J i) ∧ JAt w w0.heap.size a j J x ∧ ∀ i, J i → w0.heap.size ≤ i ∧ ¬ K i := h
/-- Open, where it finds a journal. -/
theorem Live.open_some (h : Live w0 w a d K) (ht : Tbs w0) (hq : d.q.length ≤ 1000) {d' : Dk} {x : Jn} {code : Int} (he : openS d = (d', some x, code)) :
    Calls Tryz.prog 7 #[.pointer (some ⟨a, 0, none⟩)] w fun e w' => ∃ (j : Nat) (A : Option Addr) (c B : Nat), e = .returned (.tuple #[.pointer (some ⟨j, 0, none⟩), .slice A x.rs.length c, .int .i64 code]) ∧
      Ses w0 w' a d' j x (fun i => K i ∨ (B ≤ i ∧ i < w'.heap.size)) ∧ OwnStrs w' B (.slice A x.rs.length c) x.rs ∧ w.heap.size ≤ B ∧ Keep K w w' := by
  refine (open_any h ht hq).mono ?_
  rw [he]
  rintro e w' ⟨h1, j, J, A, c, B, h2, h3, h4, h5, h6, h7⟩
  refine ⟨j, A, c, B, h2, ⟨J, h7.less fun i hi => ?_, h3, fun i hi => ⟨?_, fun hk => ?_⟩⟩, h4, h5, h1⟩
  · rcases hi with (hi | hi) | hi
    · exact .inl hi
    · exact .inr (.inr hi)
    · exact .inr (.inl hi)
  · have := h6 i hi
    have := h.below.size
    omega
  · have h8 := h6 i hi
    rcases hk with hk | hk
    · have := h.lt i hk; omega
    · omega
theorem Live.open_none (h : Live w0 w a d K) (ht : Tbs w0) (hq : d.q.length ≤ 1000) {d' : Dk} {code : Int} (he : openS d = (d', none, code)) :
    Calls Tryz.prog 7 #[.pointer (some ⟨a, 0, none⟩)] w fun e w' => e = .returned (.tuple #[.pointer none, .slice none 0 0, .int .i64 code]) ∧ Live w0 w' a d' K ∧ Keep K w w' := by
  refine (open_any h ht hq).mono ?_
  rw [he]
  rintro e w' ⟨h1, h2, h3⟩
  exact ⟨h2, h3, h1⟩
end

theorem OwnStrs.keep {w w' : World} {B : Nat} {v : Value} {l : List (List UInt8)} {K : Foot} (h : OwnStrs w B v l) (hk : Keep K w w') (hK : ∀ i, v.ownBlock = some i → K i) : OwnStrs w' B v l := h.keepb fun b e => hk.block b (hK b e)
theorem OwnStrs.below {w w' : World} {B : Nat} {v : Value} {l : List (List UInt8)} (h : OwnStrs w B v l) (hb : Below w.heap.size w w') : OwnStrs w' B v l := h.keepb fun b e => hb.block b (World.ownsRow.lt h b e).2
theorem OwnStrs.strsAt {w : World} {B : Nat} {A : Option Addr} {c n : Nat} {l : List (List UInt8)} (h : OwnStrs w B (.slice A n c) l) : StrsAt w w.heap.size A l := by
  obtain ⟨A', c', hv, h1, _⟩ := h.at
  obtain ⟨rfl, -, -⟩ : A = A' ∧ n = l.length ∧ c = c' := by simpa using hv
  exact h1
theorem OwnStrs.strsIn {w : World} {B : Nat} {A : Option Addr} {c n : Nat} {l : List (List UInt8)} {K : Foot} (h : OwnStrs w B (.slice A n c) l) (hK : ∀ i, B ≤ i → i < w.heap.size → K i) : StrsIn w K A l := fun i s hi => by
  obtain ⟨A', c', hv, h1, h2, h3⟩ := h.at
  obtain ⟨rfl, -, -⟩ : A = A' ∧ n = l.length ∧ c = c' := by simpa using hv
  obtain ⟨g, off, hA, hg, hc⟩ := h1 i s hi
  have := h2 g (h3 g off none hA)
  exact ⟨g, off, hA, hK g this.1 this.2, hc⟩

/-! Helpers of the statements. -/
set_option maxRecDepth 100000 in
set_option maxHeartbeats 4000000 in
theorem same_any (w : World) (A B : Option Addr) (c c' : Nat) (l m : List (List UInt8)) (h1 : StrsAt w w.heap.size A l) (h2 : StrsAt w w.heap.size B m) (hl : l.length ≤ 1000000) :
    Calls Tryz.prog 15 #[.slice A l.length c, .slice B m.length c'] w fun e w' => e = .returned (.bool (decide (l = m))) ∧ Below w.heap.size w w' := by
  obtain ⟨R, hR⟩ : ∃ r, decide (l = m) = r := ⟨_, rfl⟩
  rw [hR]
  have HR := Lib.hid hR
  clear hR
  by_cases hlen : l.length = m.length
  · have HA := Lib.hid h1
    have HB := Lib.hid h2
    have HLM := Lib.hid hlen
    have e0 : ((l.length : Int) != (m.length : Int)) = false := by simp [hlen]
    clear h1 h2 hlen
    go_enter Tryz.func15, Tryz.ntmps15
    go_wp2_with fail
    go_loopw [5] (fun v wr => ∃ k : Nat, k ≤ l.length ∧ v = .int .i64 (k : Int) ∧ Hid (l.take k = m.take k) ∧ Below w.heap.size w wr) (fun v _ => l.length - (intOf v).toNat)
    case atStart => exact ⟨0, Nat.zero_le _, rfl, Lib.hid rfl, Below.refl _ _⟩
    case round =>
      obtain ⟨k, hk, rfl, HE, hb⟩ := hrel
      by_cases hlt : k < l.length
      · obtain ⟨s, hs⟩ : ∃ s, l[k]? = some s := ⟨_, List.getElem?_eq_getElem hlt⟩
        obtain ⟨t, hts⟩ : ∃ t, m[k]? = some t := ⟨_, List.getElem?_eq_getElem (by have := HLM.out; omega)⟩
        obtain ⟨g1, o1, rfl, hg1, hc1⟩ := HA.out k s hs
        obtain ⟨g2, o2, rfl, hg2, hc2⟩ := HB.out k t hts
        have c1 := (hb.cell (p := ⟨g1, o1 + k, none⟩) hg1).trans hc1
        have c2 := (hb.cell (p := ⟨g2, o2 + k, none⟩) hg2).trans hc2
        have hki : (k : Int) < (l.length : Int) := by omega
        have hkm : (k : Int) < (m.length : Int) := by have := HLM.out; omega
        have hkm' : k < m.length := by omega
        have hk0 : (0 : Int) ≤ (k : Int) := by omega
        have HS := Lib.hid hs
        have HTS := Lib.hid hts
        clear hc1 hc2 hs hts
        by_cases hst : s = t
        · subst hst
          have hnx : l.take (k + 1) = m.take (k + 1) := by rw [List.take_add_one, List.take_add_one, HE.out, HS.out, HTS.out]
          have HNX := Lib.hid hnx
          clear hnx HE HS HTS
          go_wp2_with fail
          go_quiet (fail)
          all_goals (go_wp2_with fail; go_roundw)
          case rel => exact ⟨k + 1, by omega, by go_num, HNX, by first | exact below_dN hb _ | exact hb.drew⟩
          case measure => simp [intOf]; omega
        · have q := beq_bs hst
          have hne : decide (l = m) = false := decide_eq_false fun e => by
            have h3 := HS.out
            rw [e, HTS.out] at h3
            injection h3 with h3
            exact hst h3.symm
          obtain rfl : R = false := HR.out.symm.trans hne
          clear hst hne HE HR
          go_wp2_with fail
          go_quiet (fail)
          all_goals (go_wp2)
          all_goals go_ret
          all_goals exact ⟨rfl, by first | exact below_dN hb _ | exact hb.drew⟩
      · obtain rfl : k = l.length := by omega
        have hall : decide (l = m) = true := decide_eq_true (by
          have h3 := HE.out
          rw [List.take_length, HLM.out, List.take_length] at h3
          exact h3)
        obtain rfl : R = true := HR.out.symm.trans hall
        clear hall HR
        go_wp2
        go_ret
        exact ⟨rfl, hb⟩
  · have hne : decide (l = m) = false := decide_eq_false fun e => hlen (by rw [e])
    have e0 : ((l.length : Int) != (m.length : Int)) = true := by
      have : ¬ ((l.length : Int) = (m.length : Int)) := by omega
      simpa using this
    obtain rfl : R = false := HR.out.symm.trans hne
    clear hne hlen HR
    go_enter Tryz.func15, Tryz.ntmps15
    go_wp2
    go_ret
    exact ⟨rfl, Below.refl _ _⟩
theorem zeros_make (n : Nat) (hn : n ≤ 1000000) (W : World) : (Instr.makeSlice 56 (.int .i64 (n : Int)) (.int .i64 (n : Int))).run Tryz.prog W = .ok (.slice (some ⟨W.heap.size, 0, none⟩) n n) (W.alloc (.cells (List.replicate n (.int .u8 0)).toArray 5)) :=
  run_make_one (P := Tryz.prog) 56 5 (.int .u8 0) 1 (by kernel_rfl) Tryz.infoByte rfl (n : Int) n rfl (by omega) (by omega) W
theorem zeros_text (n : Nat) (W : World) (g : Nat) (h : Blk W g 5 (List.replicate n (.int .u8 0)).toArray) : (convert 56 9 (.slice (some ⟨g, 0, none⟩) n n)).run Tryz.prog W = .ok (.string (bs (List.replicate n 0))) W := by
  have e : (List.replicate n (Value.int .u8 0)).toArray = (bc (List.replicate n 0)).toArray := by simp [bc]
  rw [e] at h
  have := run_string_of_blk (P := Tryz.prog) W 56 9 5 g 5 (by kernel_rfl) (by kernel_rfl) (by kernel_rfl) 0 n n (List.replicate n 0) h (by simp)
  rw [this, List.drop_zero, List.take_of_length_le (by simp)]
  rfl
theorem lawText_any (w : World) (n : Nat) (hn : n ≤ 1000000) : Calls Tryz.prog 33 #[.int .i64 (n : Int)] w fun e w' => e = .returned (.string (bs (List.replicate n 0))) ∧ Below w.heap.size w w' := by
  have mk := zeros_make n hn w
  have kn := Blk.new w 5 (List.replicate n (.int .u8 0)).toArray
  have hb := (Below.refl w.heap.size w).alloc (Nat.le_refl _) (.cells (List.replicate n (.int .u8 0)).toArray 5)
  have cv := zeros_text n _ _ kn
  clear kn
  generalize w.alloc (.cells (List.replicate n (.int .u8 0)).toArray 5) = w2 at *
  go_enter Tryz.func33, Tryz.ntmps33
  go_wp2
  go_ret
  exact ⟨rfl, hb⟩
end Go.Proofs.YtfjejfgdnjnflaaGreatDoor
