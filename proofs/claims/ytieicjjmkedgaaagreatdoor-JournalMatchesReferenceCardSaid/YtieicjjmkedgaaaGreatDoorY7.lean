/- Part 7 of what the laws of this seat stand on: Kb, Ki, Kk, Open. -/
import Derived.Test.YtieicjjmkedgaaaGreatDoorY6
import Derived.RegionTactic
import Derived.Deep.CutRange
import Derived.Deep.DeepCutAuto
import Derived.Deep.RegionHeld3
import Derived.OwnWalk
import Derived.Deep.Slices
import Derived.Deep.Fields
import Derived.ChangeSame
import Derived.ChangeOld
import Derived.ProofKit
import Derived.OpenShut
import Derived.ShutString

/- A journal in memory; Open's walk, first part: the sectors are read. -/
namespace Go.Proofs.YtieicjjmkedgaaaGreatDoor
open Go.RowKit Go.Shelf

def slLen : Value → Nat
  | .slice _ n _ => n
  | _ => 0
theorem ownsRow_cap {w : World} {base : Nat} {e : TypeId} {size n c : Nat} {A : Option Addr} {xs : List Value} (h : w.ownsRow base e size (.slice A n c) n xs) : n ≤ c := by
  rcases h.2 with ⟨h1, h2⟩ | ⟨g, cap, cur, h1, _, _, h2, _⟩
  · omega
  · obtain ⟨-, rfl⟩ : A = some ⟨g, 0, none⟩ ∧ c = cap := by simpa using h1
    exact h2
theorem put_one {w0 W : World} {a : Nat} {d : Dk} {G : Foot} (L : Live w0 W a d G) (j : Nat) (v1 v2 v3 v4 : Value) (hj : Blk W j 58 #[.pointer (some ⟨a, 0, none⟩), v1, v2, v3, v4]) (hG : G j)
    (p : Nat) (hp : p ≤ 1000000) (s : List UInt8) (hq : d.q.length ≤ 4000) :
    Calls Tryz.prog 39 #[.pointer (some ⟨j, 0, none⟩), .int .i64 (p : Int), .slice (some ⟨W.heap.size, 0, none⟩) 1 1] (W.alloc (.cells #[.string (bs s)] 9)) fun e w' =>
      e = .returned (.int .i64 (d.puts p [s]).2) ∧ Live w0 w' a (d.puts p [s]).1 G ∧ Keep G W w' := by
  have hb : Below W.heap.size W (W.alloc (.cells #[.string (bs s)] 9)) := (Below.refl _ W).alloc (Nat.le_refl _) _
  have L2 : Live w0 (W.alloc (.cells #[.string (bs s)] 9)) a d (fun i => G i ∨ i = W.heap.size) := L.more hb fun i hi => by
    rcases hi with h | rfl
    · exact .inl h
    · exact .inr ⟨Nat.le_refl _, by simp⟩
  have kn := Blk.new W 9 #[.string (bs s)]
  refine (put_any L2 j v1 v2 v3 v4 (hj.alloc _) (.inl hG) p hp (some ⟨W.heap.size, 0, none⟩) [s] 1 (fun i x hx => ?_) (by simp; omega)).mono ?_
  · have h0 : i = 0 := by have := (List.getElem?_eq_some_iff.1 hx).1; simp at this; omega
    subst h0
    obtain rfl : s = x := by simpa using hx
    exact ⟨_, _, rfl, .inr rfl, kn.cell 0⟩
  · rintro e w' ⟨he, h1, h2⟩
    exact ⟨he, h1.less fun i hi => .inl hi, (Keep.of_below hb L.lt).trans (h2.mono fun i hi => .inl hi)⟩
/-- What Open leaves. -/
def OpenPost (w0 w : World) (a : Nat) (G : Foot) (r : Dk × Option Jn × Int) (e : Ending) (w' : World) : Prop :=
  Keep G w w' ∧ match r.2.1 with
  | none => e = .returned (.tuple #[.pointer none, .slice none 0 0, .int .i64 r.2.2]) ∧ Live w0 w' a r.1 G
  | some x => ∃ (j : Nat) (J : Foot) (A : Option Addr) (c B : Nat), e = .returned (.tuple #[.pointer (some ⟨j, 0, none⟩), .slice A x.rs.length c, .int .i64 r.2.2]) ∧ JAt w' w0.heap.size a j J x ∧ OwnStrs w' B (.slice A x.rs.length c) x.rs ∧
      w.heap.size ≤ B ∧ (∀ i, J i → w.heap.size ≤ i ∧ i < B) ∧ Live w0 w' a r.1 (fun i => G i ∨ J i ∨ (B ≤ i ∧ i < w'.heap.size))

set_option maxRecDepth 100000 in
set_option maxHeartbeats 8000000 in
theorem open_any {w0 w : World} {a : Nat} {d : Dk} {G : Foot} (L : Live w0 w a d G) (ht : Tbs w0) (hq : d.q.length ≤ 1000) :
    Calls Tryz.prog 8 #[.pointer (some ⟨a, 0, none⟩)] w (OpenPost w0 w a G (openS d)) := by
  have hdo := L.ok
  have hn1 := hdo.n1
  have hn2 := hdo.n2
  have hvl : ∀ i, i < d.n → (d.vw i).length = 64 := fun i hi => Dk.vw_len hdo hi
  obtain ⟨R, hR⟩ : ∃ R, openS d = R := ⟨_, rfl⟩
  rw [hR]
  have HR := Lib.hid hR
  have HT := Lib.hid ht
  have HL := Lib.hid L
  have HV := Lib.hid hvl
  have hrd : ∀ (wr : World) (s : Int), Below w.heap.size w wr → Calls Tryz.prog 27 #[.pointer (some ⟨a, 0, none⟩), .int .i64 s] wr fun e w' => e = .returned (.tuple #[.string (d.read s).1, .int .i64 (d.read s).2]) ∧ Below wr.heap.size wr w' := fun wr s hb => (HL.out.same hb).look fun F hF => read_any hF s
  have HRD := Lib.hid hrd
  clear hR ht L hvl hrd hdo
  obtain ⟨i0, hi0, hz0, hz1, hz2⟩ := info_parts Tryz.infoStr
  go_enter Tryz.func8, Tryz.ntmps8
  go_wp2_with fail
  go_loopw [5] (fun v wr => ∃ (k : Nat) (A : Option Addr) (c : Nat), k ≤ d.n ∧ v = .slice A k c ∧ OwnStrs wr w.heap.size (.slice A (d.vws.take k).length c) (d.vws.take k) ∧ Below w.heap.size w wr) (fun v _ => d.n - slLen v)
  case atStart => exact ⟨0, none, 0, Nat.zero_le _, rfl, by rw [List.take_zero]; exact OwnStrs.nil _ _, Below.refl _ _⟩
  case round =>
    obtain ⟨k, A, c, hk, rfl, own, hb⟩ := hrel
    by_cases ho : d.off = true
    · have hrd := HRD.out wr (k : Int) hb
      rw [show d.read (k : Int) = (ByteArray.empty, 25) by unfold Dk.read; rw [if_pos ho]] at hrd
      have hfin : (d, none, 25) = R := by rw [← HR.out]; unfold openS; rw [if_pos ho]
      have HRD2 := Lib.hid hrd
      subst hfin
      clear hrd ho own
      go_wp2_with fail
      refine HRD2.out.mono ?_
      rintro e w2 ⟨rfl, b2⟩
      have hb2 := hb.trans (b2.mono hb.size)
      go_wp2
      go_ret3
      exact ⟨Keep.of_below hb2 HL.out.lt, rfl, HL.out.same hb2⟩
    · have ho' : d.off = false := by simpa using ho
      by_cases hlt : k < d.n
      · have hrd := HRD.out wr (k : Int) hb
        have hhas : d.has (k : Int) = true := by simp [Dk.has]; omega
        rw [show d.read (k : Int) = (bs (d.vw k), 0) by unfold Dk.read; rw [if_neg (by simpa using ho'), if_neg (by simp [hhas])]; rfl] at hrd
        have hnx : d.vws.take (k + 1) = d.vws.take k ++ [d.vw k] := by rw [List.take_add_one, Dk.vws_at d hlt]; rfl
        have hlk : (d.vws.take k).length = k := by rw [List.length_take, Dk.vws_len]; omega
        rw [hlk] at own
        have HRD2 := Lib.hid hrd
        have HNX := Lib.hid hnx
        have HO := Lib.hid ho'
        clear hrd hnx ho ho' hhas HR
        generalize d.vws.take k = P at *
        generalize d.vw k = V at *
        subst hlk
        go_wp2_with fail
        refine HRD2.out.mono ?_
        rintro e w2 ⟨rfl, b2⟩
        have hb2 := hb.trans (b2.mono hb.size)
        have own2 := (Only.of_below b2 (fun _ => False)).owns own (fun _ _ h => h)
        have kn := Blk.new w2 9 #[sv V]
        have hb3 := hb2.alloc hb2.size (.cells #[sv V] 9)
        have own3 : OwnStrs (w2.alloc (.cells #[sv V] 9)) w.heap.size (.slice A P.length c) P := World.ownsRow.alloc own2 _
        clear HRD2 b2 own own2 hb2 hb
        go_wp2_with (at_builtin; refine wpList_append_lies _ rfl _ _ 30 rfl w.heap.size 9 i0 _ 1 16 Tryz.underlying30 hi0 hz0 hz1 hz2 rfl (by omega) (.slice A P.length c) P.length (P.map sv) rfl own3 ⟨w2.heap.size, 0, none⟩ 1 1 [sv V] rfl rfl (World.news_of_block kn) (sv_one [V]) (by omega) (by unfold maxLen; omega) (by omega) (by have := hb3.size; simpa using this) (w2.heap.size + 1) (by simp) ?_; intro gz cz Y own9 gr9 l9 z9)
        have hb4 := hb3.grown gr9 hb3.size (fun x hx => (World.ownsRow.lt own3 x hx).1)
        have hl1 : (P ++ [V]).length = P.length + 1 := by simp
        have own4 : OwnStrs Y w.heap.size (.slice (some ⟨gz, 0, none⟩) (P ++ [V]).length cz) (P ++ [V]) := by
          unfold OwnStrs
          rw [hl1, List.map_append]
          exact own9
        go_roundw
        case rel => exact ⟨P.length + 1, some ⟨gz, 0, none⟩, cz, by omega, rfl, by rw [HNX.out]; exact own4, hb4⟩
        case measure => simp [slLen]; omega
      · obtain rfl : k = d.n := by omega
        have hrd := HRD.out wr (d.n : Int) hb
        have hhas : d.has (d.n : Int) = false := by simp [Dk.has]
        rw [show d.read (d.n : Int) = (ByteArray.empty, 1) by unfold Dk.read; rw [if_neg (by simpa using ho'), if_pos hhas]] at hrd
        have hta : d.vws.take d.n = d.vws := List.take_of_length_le (by rw [Dk.vws_len]; exact Nat.le_refl _)
        rw [hta, Dk.vws_len] at own
        have HRD2 := Lib.hid hrd
        have HO := Lib.hid ho'
        clear hrd ho ho' hhas hta HRD hlt hk
        have hr := HR.out
        unfold openS at hr
        rw [if_neg (by simpa using HO.out)] at hr
        go_wp2_with fail
        refine HRD2.out.mono ?_
        rintro e w2 ⟨rfl, b2⟩
        have hb2 := hb.trans (b2.mono hb.size)
        have own2 := (Only.of_below b2 (fun _ => False)).owns own (fun _ _ h => h)
        clear HRD2 b2 own hb
        by_cases h3 : d.n < 3
        · rw [if_pos h3] at hr
          subst hr
          clear HR own2
          go_wp2
          go_ret3
          exact ⟨Keep.of_below hb2 HL.out.lt, rfl, HL.out.same hb2⟩
        · rw [if_neg h3] at hr
          have HR2 := Lib.hid hr
          clear hr HR
          have kj := Blk.new w2 58 #[.pointer (some ⟨a, 0, none⟩), .int .i64 (d.n : Int), .int .i64 0, .slice none 0 0, .bool false]
          have hb3 := hb2.alloc hb2.size (.cells #[.pointer (some ⟨a, 0, none⟩), .int .i64 (d.n : Int), .int .i64 0, .slice none 0 0, .bool false] 58)
          have own3 : OwnStrs (w2.alloc (.cells #[.pointer (some ⟨a, 0, none⟩), .int .i64 (d.n : Int), .int .i64 0, .slice none 0 0, .bool false] 58)) w.heap.size (.slice A d.n c) d.vws := World.ownsRow.alloc own2 _
          have hjw : w.heap.size ≤ w2.heap.size := hb2.size
          have hjA : some w2.heap.size ≠ (Value.slice A d.n c).ownBlock := OwnStrs.ne own3 kj (by decide)
          go_upto_region 12 with fail
          clear own2 hb2
          generalize w2.alloc (.cells #[.pointer (some ⟨a, 0, none⟩), .int .i64 (d.n : Int), .int .i64 0, .slice none 0 0, .bool false] 58) = w3 at *
          generalize w2.heap.size = j at *
          obtain ⟨v0, hv0⟩ : ∃ v, d.vw 0 = v := ⟨_, rfl⟩
          obtain ⟨v1, hv1⟩ : ∃ v, d.vw 1 = v := ⟨_, rfl⟩
          have e0 : (d.vws.map sv)[0]? = some (.string (bs v0)) := by rw [List.getElem?_map, Dk.vws_at d (by omega), hv0]; rfl
          have e1 : (d.vws.map sv)[1]? = some (.string (bs v1)) := by rw [List.getElem?_map, Dk.vws_at d (by omega), hv1]; rfl
          have lv0 : v0.length = 64 := by rw [← hv0]; exact HV.out 0 (by omega)
          have lv1 : v1.length = 64 := by rw [← hv1]; exact HV.out 1 (by omega)
          have g0 : d.vws.getD 0 [] = v0 := by rw [List.getD_eq_getElem?_getD, Dk.vws_at d (by omega), hv0]; rfl
          have g1 : d.vws.getD 1 [] = v1 := by rw [List.getD_eq_getElem?_getD, Dk.vws_at d (by omega), hv1]; rfl
          have hln := Dk.vws_len d
          obtain ⟨gA, cA, hvA, -⟩ := World.ownsRow.form own3 (by omega)
          obtain ⟨rfl, -, rfl⟩ : A = some ⟨gA, 0, none⟩ ∧ d.n = d.vws.length ∧ c = cA := by simpa using hvA
          clear hvA
          obtain ⟨m0, hm0⟩ : ∃ x, cntL 0 v0 (d.n - 2) = x := ⟨_, rfl⟩
          obtain ⟨m1, hm1⟩ : ∃ x, cntL 1 v1 (d.n - 2) = x := ⟨_, rfl⟩
          obtain ⟨cm, hcm⟩ : ∃ x, x = max m0 m1 := ⟨_, rfl⟩
          have hcM : cntM v0 v1 (d.n - 2) = cm := by unfold cntM; rw [hm0, hm1, ← hcm]
          have hcle : cm ≤ (d.n : Int) - 2 := by have := cntM_le v0 v1 (d.n - 2); rw [hcM] at this; omega
          have q0 := fun W hW => count_any W hW 0 (by decide) v0 lv0 (d.n - 2) (by omega)
          have q1 := fun W hW => count_any W hW 1 (by decide) v1 lv1 (d.n - 2) (by omega)
          rw [hm0] at q0
          rw [hm1] at q1
          have hsub : ((d.n - 2 : Nat) : Int) = (d.n : Int) - 2 := by omega
          rw [hsub] at q0 q1
          have hmx := run_max2 (P := Tryz.prog) m0 m1 cm hcm
          have hwr : IntKind.i64.wrap ((d.n : Int) - 2) = (d.n : Int) - 2 := IntWalk.i64_in _ (by omega)
          have Q0 := Lib.hid q0
          have Q1 := Lib.hid q1
          have HE0 := Lib.hid e0
          have HE1 := Lib.hid e1
          have HCM := Lib.hid hcM
          have HG0 := Lib.hid g0
          have HG1 := Lib.hid g1
          have HLN := Lib.hid hln
          have HV0 := Lib.hid hv0
          have HV1 := Lib.hid hv1
          clear e0 e1 q0 q1 hm0 hm1 hcM g0 g1 hln hv0 hv1 hsub hcm lv0 lv1
          go_cut [] from 44 to 61 (fun wx => Blk wx j 58 #[.pointer (some ⟨a, 0, none⟩), .int .i64 (d.n : Int), .int .i64 cm, .slice none 0 0, .bool false] ∧ OwnStrs wx w.heap.size (.slice (some ⟨gA, 0, none⟩) d.n c) d.vws ∧ Below w.heap.size w wx)
          case first =>
            have b0n : 0 < d.n := by omega
            have b1n : 1 < d.n := by omega
            have b1i : (1 : Int) < (d.n : Int) := by omega
            have own3' : w3.ownsRow w.heap.size 9 1 (.slice (some ⟨gA, 0, none⟩) d.n c) d.n (d.vws.map sv) := by have q := own3; unfold OwnStrs at q; rw [HLN.out] at q; exact q
            refine wp_region_hold (fun W => Blk W j 58 #[.pointer (some ⟨a, 0, none⟩), .int .i64 (d.n : Int), .int .i64 0, .slice none 0 0, .bool false] ∧ W.ownsRow w.heap.size 9 1 (.slice (some ⟨gA, 0, none⟩) d.n c) d.n (d.vws.map sv)) [0, 1, 2, 3, 4, 5, 6, 8, 9, 10, 11, 12, 13] [7, 14, 15] [16, 17, 18] (by kernel_rfl) (by kernel_rfl) (fun _ d _ _ _ h => by cases d <;> exact h) ⟨kj, own3'⟩ ?_
            simp only [pick, List.drop_succ_cons, List.drop_zero, List.head?_cons, Option.toList_some, List.cons_append, List.nil_append, List.append_nil]
            repeat (refine wpHeld_step ?_ rfl ?_ ?_; rotate_left; · (intro W hW; have s0 := hW.2.cellAt 0 (by omega); have s1 := hW.2.cellAt 1 (by omega); rw [HE0.out] at s0; rw [HE1.out] at s1; go_simp; with_reducible rfl))
            refine wpHeld_nil ?_
            simp only [wpEarly]
            go_wp2_with fail
            have hTd : Tbs w3.drew := HT.out.below (HL.out.below.trans (hb3.drew.mono HL.out.below.size))
            have kjd := kj.drew
            have ownd : w3.drew.ownsRow w.heap.size 9 1 (.slice (some ⟨gA, 0, none⟩) d.n c) d.n (d.vws.map sv) := own3'
            have hbd := hb3.drew
            refine (Q0.out _ hTd).mono ?_
            rintro e w4 ⟨rfl, b4⟩
            have kj4 := kjd.below b4 kjd.lt
            have own4 := (Only.of_below b4 (fun _ => False)).owns ownd (fun _ _ h => h)
            have hb4 := hbd.trans (b4.mono hbd.size)
            have hT4 := hTd.below b4
            clear b4 kjd ownd hbd hTd kj own3 own3' hb3
            go_wp2_with fail
            refine ⟨⟨kj4, own4⟩, ?_⟩
            go_wp2_with fail
            refine (Q1.out _ hT4).mono ?_
            rintro e w5 ⟨rfl, b5⟩
            have kj5 := kj4.below b5 kj4.lt
            have own5 := (Only.of_below b5 (fun _ => False)).owns own4 (fun _ _ h => h)
            have hb5 := hb4.trans (b5.mono hb4.size)
            clear b5 kj4 own4 hb4 hT4
            go_wp2_with fail
            refine ⟨⟨kj5, own5⟩, ?_⟩
            go_wp2_with fail
            refine ⟨⟨kj5, own5⟩, ?_⟩
            obtain ⟨x0, x1, x2⟩ := kj5.all
            go_wp2_with fail
            go_meet
            refine ⟨kj5.set_ 2 _, ?_, hb5.setCell (p := ⟨j, 2, none⟩) hjw _⟩
            have own6 : OwnStrs w5 w.heap.size (.slice (some ⟨gA, 0, none⟩) d.n c) d.vws := by unfold OwnStrs; rw [HLN.out]; exact own5
            exact own6.keepb fun b e => Below.heap_setCell w5 ⟨j, 2, none⟩ _ b (fun e2 => hjA (by have e3 : b = j := e2; rw [← e3]; exact e.symm))
          case rest =>
            obtain ⟨kjc, ownc, hbc⟩ := hcut
            clear kj own3 hb3 Q0 Q1 hmx hwr
            obtain ⟨x0, x1, x2⟩ := kjc.all
            have hr := HR2.out
            unfold readS at hr
            rw [HG0.out, HG1.out, HLN.out, HCM.out] at hr
            by_cases hneg : cm < 0
            · have d1 : decide (cm < 0) = true := decide_eq_true hneg
              rw [if_pos hneg] at hr
              simp only at hr
              subst hr
              clear HR2 hneg
              go_wp2
              go_ret3
              exact ⟨Keep.of_below hbc HL.out.lt, rfl, HL.out.same hbc⟩
            · have d1 : decide (cm < 0) = false := decide_eq_false hneg
              rw [if_neg hneg] at hr
              obtain ⟨k, rfl⟩ := Int.eq_ofNat_of_zero_le (Int.not_lt.1 hneg)
              rw [Int.toNat_natCast] at hr
              have HR3 := Lib.hid hr
              have hkn : k + 2 ≤ d.n := by omega
              have hcap : d.n ≤ c := by have q := ownc; unfold OwnStrs at q; rw [HLN.out] at q; exact ownsRow_cap q
              have hsum : IntKind.i64.wrap (2 + (k : Int)) = 2 + (k : Int) := IntWalk.i64_in _ (by omega)
              have hsl := run_slice_in (P := Tryz.prog) 30 9 (by kernel_rfl) (by kernel_rfl) gA 0 d.n c 2 (2 + (k : Int)) 2 (2 + k) rfl (by omega) (by omega) (by omega) (by omega)
              rw [show 2 + k - 2 = k by omega, show 0 + 2 = 2 by omega] at hsl
              clear HR2 hneg hr hcle HCM HG0 HG1 HE0 HE1
              go_wp2_with fail
              have kbw := Blk.new wc 62 #[.pointer none, .slice none 0 0]
              have hbB0 := (Below.refl wc.heap.size wc).alloc (Nat.le_refl _) (.cells #[.pointer none, .slice none 0 0] 62)
              have bl0 := Bld.fresh (B := wc.heap.size) (Nat.le_refl _) kbw
              obtain ⟨l, hl⟩ : ∃ l, (d.vws.drop 2).take k = l := ⟨_, rfl⟩
              have hll : l.length = k := by rw [← hl, List.length_take, List.length_drop, HLN.out]; omega
              have hli : ∀ i, i < k → l[i]? = some (d.vw (2 + i)) := fun i hi => by rw [← hl, List.getElem?_take_of_lt hi, List.getElem?_drop, Dk.vws_at d (by omega)]
              have hr := HR3.out
              rw [hl] at hr
              have HR4 := Lib.hid hr
              have HLL := Lib.hid hll
              have HLI := Lib.hid hli
              have BL0 := Lib.hid bl0
              have KJ := Lib.hid kjc
              have OW := Lib.hid ownc
              clear hr hll hli hl HR3 bl0 kbw x0 x1 x2 kjc ownc
              go_loopw [75] (fun v wr => ∃ (i : Nat) (T : List UInt8), i ≤ k ∧ v = .int .i64 (i : Int) ∧ Hid (foundP 2 (l.take i) = some T) ∧ Hid (Bld wc.heap.size wc.heap.size T wr) ∧ Below wc.heap.size wc wr) (fun v _ => k - (intOf v).toNat)
              case atStart => exact ⟨0, [], Nat.zero_le _, rfl, Lib.hid (by rw [List.take_zero]; rfl), BL0, hbB0⟩
              case round =>
                clear BL0 hbB0
                obtain ⟨i, T, hik, rfl, HF, HB, hbB⟩ := hrel
                have hwr := hbc.trans (hbB.mono hbc.size)
                have hTr : Tbs wr := HT.out.below (HL.out.below.trans (hwr.mono HL.out.below.size))
                have HTR := Lib.hid hTr
                by_cases hlt : i < k
                · have hsg := HLI.out i hlt
                  have hsl2 := HV.out (2 + i) (by omega)
                  have hcell : wr.cell? ⟨gA, 2 + i, none⟩ = some (.string (bs (d.vw (2 + i)))) := by
                    have q := (Only.of_below hbB (fun _ => False)).owns OW.out (fun _ _ h => h)
                    have q2 := World.ownsRow.cellAt (by rw [HLN.out] at q; exact q) (2 + i) (by omega)
                    rw [q2, List.getElem?_map, Dk.vws_at d (by omega)]
                    rfl
                  generalize d.vw (2 + i) = s at *
                  have hi0 : (0 : Int) ≤ (i : Int) := by omega
                  have hi1 : (i : Int) < (k : Int) := by omega
                  have s1 : ∀ W : World, (Instr.slice 9 (.string (bs s)) (some (.int .i64 16)) (some (.int .i64 18)) none).run Tryz.prog W = .ok (.string (bs ((s.drop 16).take 2))) W := sl_mid s 16 18 (by decide) (by omega)
                  have hl2 : ((s.drop 16).take 2).length ≤ 18 := by rw [List.length_take]; omega
                  have HSG := Lib.hid hsg
                  clear hsg hTr
                  cases ha : Lib.atoi ((s.drop 16).take 2) with
                  | none =>
                    have hfin : (d, none, 26) = R := by rw [← HR4.out, foundP_bad HSG.out (pieceOf_none ha)]; rfl
                    subst hfin
                    have HNO := Lib.hid (atoi_no wr HTR.out _ hl2 ha)
                    clear ha
                    generalize (s.drop 16).take 2 = D at *
                    go_wp2_with fail
                    refine HNO.out.mono ?_
                    rintro e w6 ⟨t, v, rfl, b6⟩
                    have hb6 := hwr.trans (b6.mono hwr.size)
                    clear s1 b6
                    go_wp2
                    go_ret3
                    exact ⟨Keep.of_below hb6 HL.out.lt, rfl, HL.out.same hb6⟩
                  | some n =>
                    have hpo := pieceOf_at (p := 2 + i) ha
                    have HYE := Lib.hid (atoi_yes wr _ n hl2 ha)
                    clear ha
                    generalize (s.drop 16).take 2 = D at *
                    by_cases h1 : 1 ≤ n
                    · by_cases h46 : n ≤ 46
                      · obtain ⟨m, rfl⟩ := Int.eq_ofNat_of_zero_le (show 0 ≤ n by omega)
                        rw [Int.toNat_natCast] at hpo
                        have hm1 : 1 ≤ m := by omega
                        have hm46 : m ≤ 46 := by omega
                        have dm1 : decide ((m : Int) < 1) = false := decide_eq_false (by omega)
                        have dm2 : decide (46 < (m : Int)) = false := decide_eq_false (by omega)
                        have s2 : ∀ W : World, (Instr.slice 9 (.string (bs s)) (some (.int .i64 18)) (some (.int .i64 (18 + (m : Int)))) none).run Tryz.prog W = .ok (.string (bs ((s.drop 18).take m))) W := fun W => by
                          have q := sl_mid s 18 (18 + m) (by omega) (by omega) W
                          rw [show 18 + m - 18 = m by omega, show ((18 + m : Nat) : Int) = 18 + (m : Int) by omega] at q
                          exact q
                        have hpl : ((s.drop 18).take m).length = m := by rw [List.length_take, List.length_drop]; omega
                        have hse := fun W hW => sector_any W hW (2 + i) (by omega) ((s.drop 18).take m) (by omega)
                        rw [show ((2 + i : Nat) : Int) = 2 + (i : Int) by omega] at hse
                        have a1 : IntKind.i64.wrap (2 + (i : Int)) = 2 + (i : Int) := IntWalk.i64_in _ (by omega)
                        have a2 : IntKind.i64.wrap (18 + (m : Int)) = 18 + (m : Int) := IntWalk.i64_in _ (by omega)
                        generalize (s.drop 18).take m = P at *
                        generalize secL (2 + i) P = Z at *
                        have HSE := Lib.hid hse
                        clear hse
                        by_cases hz : Z = s
                        · rw [if_pos ⟨by omega, by omega, hz⟩] at hpo
                          subst hz
                          have HN := Lib.hid (foundP_next HSG.out HF.out hpo)
                          have hTl := foundP_len _ _ _ HN.out
                          rw [List.length_take, HLL.out, List.length_append] at hTl
                          clear hpo
                          have HPL := Lib.hid hpl
                          clear hpl h1 h46
                          go_wp2_with fail
                          refine HYE.out.mono ?_
                          rintro e w6 ⟨rfl, b6⟩
                          clear s1
                          go_wp2_with fail
                          refine (HSE.out _ (HTR.out.below b6)).mono ?_
                          rintro e w7 ⟨rfl, b7⟩
                          have b67 := b6.trans (b7.mono b6.size)
                          have hbs := hbB.size
                          have b67s := b67.size
                          have HW := Lib.hid (writeString_any wc.heap.size wc.heap.size T P w7 (HB.out.below b67) (by omega) (by omega))
                          have hb7 := hbB.trans (b67.mono hbs)
                          clear b6 b7 b67
                          go_wp2_with fail
                          refine HW.out.mono ?_
                          rintro e w8 ⟨rfl, hB8, b8⟩
                          have hb8 := hb7.trans b8
                          clear b8 hb7
                          go_wp2
                          go_roundw
                          case rel => exact ⟨i + 1, T ++ P, by omega, by go_num, HN, Lib.hid hB8, hb8⟩
                          case measure => simp [intOf]; omega
                        · rw [if_neg (fun h => hz h.2.2)] at hpo
                          have hfin : (d, none, 26) = R := by rw [← HR4.out, foundP_bad HSG.out hpo]; rfl
                          subst hfin
                          have q3 := beq_bs hz
                          clear hz hpo h1 h46
                          go_wp2_with fail
                          refine HYE.out.mono ?_
                          rintro e w6 ⟨rfl, b6⟩
                          have hb6 := hwr.trans (b6.mono hwr.size)
                          clear s1
                          go_wp2_with fail
                          refine (HSE.out _ (HTR.out.below b6)).mono ?_
                          rintro e w7 ⟨rfl, b7⟩
                          have hb7 := hb6.trans (b7.mono hb6.size)
                          clear b6 b7 hb6
                          go_wp2
                          go_ret3
                          exact ⟨Keep.of_below hb7 HL.out.lt, rfl, HL.out.same hb7⟩
                      · rw [if_neg (fun h => h46 h.2.1)] at hpo
                        have hfin : (d, none, 26) = R := by rw [← HR4.out, foundP_bad HSG.out hpo]; rfl
                        subst hfin
                        have dm1 : decide (n < 1) = false := decide_eq_false (by omega)
                        have dm2 : decide (46 < n) = true := decide_eq_true (by omega)
                        clear hpo h1 h46
                        go_wp2_with fail
                        refine HYE.out.mono ?_
                        rintro e w6 ⟨rfl, b6⟩
                        have hb6 := hwr.trans (b6.mono hwr.size)
                        clear s1 b6
                        go_wp2
                        go_ret3
                        exact ⟨Keep.of_below hb6 HL.out.lt, rfl, HL.out.same hb6⟩
                    · rw [if_neg (fun h => h1 h.1)] at hpo
                      have hfin : (d, none, 26) = R := by rw [← HR4.out, foundP_bad HSG.out hpo]; rfl
                      subst hfin
                      have dm1 : decide (n < 1) = true := decide_eq_true (by omega)
                      clear hpo h1
                      go_wp2_with fail
                      refine HYE.out.mono ?_
                      rintro e w6 ⟨rfl, b6⟩
                      have hb6 := hwr.trans (b6.mono hwr.size)
                      clear s1 b6
                      go_wp2
                      go_ret3
                      exact ⟨Keep.of_below hb6 HL.out.lt, rfl, HL.out.same hb6⟩
                · obtain rfl : i = k := by omega
                  have hff := HF.out
                  rw [List.take_of_length_le (by rw [HLL.out]; exact Nat.le_refl _)] at hff
                  have hr := HR4.out
                  rw [hff, Option.bind_some] at hr
                  have HR5 := Lib.hid hr
                  have hTl := foundP_len _ _ _ hff
                  rw [HLL.out] at hTl
                  clear hr HR4 HF hff HLI HLL
                  have HSTR := Lib.hid (string_any wc.heap.size wc.heap.size T wr HB.out hbB.size)
                  have HPA := Lib.hid (fun W hW => parse_any W hW T (by omega))
                  go_wp2_with fail
                  refine HSTR.out.mono ?_
                  rintro e w6 ⟨rfl, b6⟩
                  have hbB6 := hbB.trans b6
                  clear HSTR HB b6
                  have hw6 := hbc.trans (hbB6.mono hbc.size)
                  have hbs6 := hbB6.size
                  go_wp2_with fail
                  refine (HPA.out _ (HT.out.below (HL.out.below.trans (hw6.mono HL.out.below.size)))).mono ?_
                  rintro e w7 ⟨b7, hpp⟩
                  have hbB7 := hbB6.trans (b7.mono hbs6)
                  have hw7 := hbc.trans (hbB7.mono hbc.size)
                  have hs7 := b7.size
                  have hjl := KJ.out.lt
                  have kj7 := KJ.out.below hbB7 hjl
                  have ow7 : OwnStrs w7 w.heap.size (.slice (some ⟨gA, 0, none⟩) d.n c) d.vws := OW.out.keepb fun b e => hbB7.block b (World.ownsRow.lt OW.out b e).2
                  obtain ⟨x0, x1, x2⟩ := kj7.all
                  have hr := HR5.out
                  clear HPA hbB6 hw6 hbB HR5 hbB7 KJ OW HLN
                  cases hpr : parseR T with
                  | none =>
                    rw [hpr] at hpp hr
                    simp only at hpp
                    subst hpp
                    have hfin : (d, none, 26) = R := hr
                    subst hfin
                    clear hr hpr ow7
                    go_wp2
                    go_ret3
                    have hb8 := hw7.setCell (p := ⟨j, 3, none⟩) hjw (.slice none 0 0)
                    exact ⟨Keep.of_below hb8 HL.out.lt, rfl, HL.out.same hb8⟩
                  | some rs =>
                    rw [hpr] at hpp hr
                    obtain ⟨Ar, cr, rfl, orr⟩ := hpp
                    have hr2 : (if (d.mends i).2 = 0 then ((d.mends i).1, some (⟨d.n, i, rs, false⟩ : Jn), (0 : Int)) else ((d.mends i).1, none, (d.mends i).2)) = R := hr
                    clear hr
                    have hrl : rs.length ≤ 1000000 := by
                      have q := (parse_some hpr).1
                      have q2 := textR_rows rs
                      rw [← q] at q2
                      omega
                    go_wp2_with fail
                    have kq := kj7.set_ 3 (.slice Ar rs.length cr)
                    have hwq := hw7.setCell (p := ⟨j, 3, none⟩) hjw (.slice Ar rs.length cr)
                    have owq : OwnStrs (w7.setCell ⟨j, 3, none⟩ (.slice Ar rs.length cr)) w.heap.size (.slice (some ⟨gA, 0, none⟩) d.n c) d.vws :=
                      ow7.keepb fun b e => Below.heap_setCell w7 ⟨j, 3, none⟩ _ b (fun e2 => hjA (by have e3 : b = j := e2; rw [← e3]; exact e.symm))
                    have orq : OwnStrs (w7.setCell ⟨j, 3, none⟩ (.slice Ar rs.length cr)) w6.heap.size (.slice Ar rs.length cr) rs :=
                      orr.keepb fun b e => Below.heap_setCell w7 ⟨j, 3, none⟩ _ b (fun e2 => by
                        have e3 : b = j := e2
                        have e4 := (World.ownsRow.lt orr b e).1
                        omega)
                    have hj6 : j < w6.heap.size := by omega
                    have hsq : (w7.setCell ⟨j, 3, none⟩ (.slice Ar rs.length cr)).heap.size = w7.heap.size := by simp [World.setCell]
                    generalize w7.setCell ⟨j, 3, none⟩ (.slice Ar rs.length cr) = wq at *
                    obtain ⟨GG, hGG⟩ : ∃ GG : Foot, GG = fun x => G x ∨ (w.heap.size ≤ x ∧ x < wq.heap.size) := ⟨_, rfl⟩
                    have hLq : Live w0 wq a d GG := by rw [hGG]; exact HL.out.more hwq (fun x hx => hx)
                    have hGn : ∀ x, w.heap.size ≤ x → x < wq.heap.size → GG x := fun x h1 h2 => by rw [hGG]; exact .inr ⟨h1, h2⟩
                    have hG0 : ∀ x, G x → GG x := fun x h1 => by rw [hGG]; exact .inl h1
                    have hGj : GG j := hGn j hjw kq.lt
                    have hgA : GG gA := by
                      have q := World.ownsRow.lt owq gA rfl
                      exact hGn gA q.1 q.2
                    obtain ⟨RM, hRM⟩ : ∃ x, d.mends i = x := ⟨_, rfl⟩
                    rw [hRM] at hr2
                    have hRM2 := hRM
                    unfold Dk.mends at hRM2
                    have HR6 := Lib.hid hr2
                    have HRM := Lib.hid hRM2
                    have HRN := Lib.hid hRM
                    have HLQ := Lib.hid hLq
                    have HGN := Lib.hid hGn
                    have HG0 := Lib.hid hG0
                    have KQ := Lib.hid kq
                    have OWQ := Lib.hid owq
                    have ORQ := Lib.hid orq
                    have hTq : Tbs wq := HT.out.below hLq.below
                    clear hr2 hRM hRM2 hLq hGn hG0 kq owq orq kj7 ow7 orr x0 x1 x2 hw7 hbc b7 hTl hGG hpr
                    go_loopw [119] (fun v wr => ∃ (p : Nat) (d' : Dk), p ≤ 2 ∧ v = .int .i64 (p : Int) ∧ Live w0 wr a d' GG ∧ Keep GG wq wr ∧ d'.q.length ≤ 1000 + 2 * p ∧ Hid ((p = 0 → d' = d) ∧ (p = 1 → d.mend 0 (d.vw 0) i = (d', 0)) ∧ (p = 2 → d.mends i = (d', 0)))) (fun v _ => 2 - (intOf v).toNat)
                    case atStart => exact ⟨0, d, by omega, rfl, HLQ.out, Keep.refl _ _, by omega, Lib.hid ⟨fun _ => rfl, fun h => by omega, fun h => by omega⟩⟩
                    case round =>
                      clear HLQ
                      obtain ⟨p, d', hp2, rfl, Lr, hkr, hqr, HM⟩ := hrel
                      have hjr := KQ.out.keep hkr hGj
                      have hTr : Tbs wr := HT.out.below Lr.below
                      have HTR := Lib.hid hTr
                      by_cases hlt : p < 2
                      · have hcell : wr.cell? ⟨gA, p, none⟩ = some (.string (bs (d.vw p))) := by
                          have hgb : ∀ b, (Value.slice (some ⟨gA, 0, none⟩) d.n c).ownBlock = some b → wr.heap[b]? = wq.heap[b]? := fun b e => by
                            obtain rfl : gA = b := by simpa [Value.ownBlock] using e
                            exact hkr.block gA hgA
                          have q := OWQ.out.keepb hgb
                          have hln := Dk.vws_len d
                          have q2 := World.ownsRow.cellAt (by unfold OwnStrs at q; rw [hln] at q; exact q) p (by omega)
                          rw [q2, List.getElem?_map, Dk.vws_at d (by omega)]
                          rfl
                        obtain ⟨M, hM⟩ : ∃ x, d'.mend p (d.vw p) i = x := ⟨_, rfl⟩
                        have hMz : M.2 = 0 → ((p + 1 = 0 → M.1 = d) ∧ (p + 1 = 1 → d.mend 0 (d.vw 0) i = (M.1, 0)) ∧ (p + 1 = 2 → d.mends i = (M.1, 0))) := fun hz => by
                          refine ⟨fun h => by omega, fun h => ?_, fun h => ?_⟩
                          · obtain rfl : p = 0 := by omega
                            have q := HM.out.1 rfl
                            rw [q] at hM
                            rw [hM, ← hz]
                          · obtain rfl : p = 1 := by omega
                            unfold Dk.mends
                            rw [HM.out.2.1 rfl, if_pos rfl, hM, ← hz]
                        have hMn : M.2 ≠ 0 → RM = M := fun hz => by
                          rw [← HRM.out]
                          rcases (show p = 0 ∨ p = 1 by omega) with rfl | rfl
                          · have q := HM.out.1 rfl
                            rw [q] at hM
                            rw [hM, if_neg hz]
                          · rw [HM.out.2.1 rfl, if_pos rfl]
                            exact hM
                        unfold Dk.mend at hM
                        have hvl := HV.out p (by omega)
                        have hhd := fun W hW => head_place_any W hW p (by omega) i (by omega)
                        generalize d.vw p = V at *
                        have hHl := headL_len p i
                        generalize headL p i = H at *
                        have HMZ := Lib.hid hMz
                        have HMN := Lib.hid hMn
                        have HM2 := Lib.hid hM
                        have HHD := Lib.hid (hhd wr hTr)
                        clear hMz hMn hM HM hhd hTr
                        obtain ⟨x0, x1, x2⟩ := hjr.all
                        go_wp2_with fail
                        refine HHD.out.mono ?_
                        rintro e wh ⟨rfl, bh⟩
                        have hkh := hkr.trans (Keep.of_below bh Lr.lt)
                        have Lh := Lr.same bh
                        have hjh := hjr.below bh hjr.lt
                        have hch : wh.cell? ⟨gA, p, none⟩ = some (.string (bs V)) := (bh.cell (p := ⟨gA, p, none⟩) (World.block_lt_of_cell? _ _ hcell)).trans hcell
                        clear x0 x1 x2 hjr hcell hkr Lr bh HTR HHD
                        obtain ⟨x0, x1, x2⟩ := hjh.all
                        go_upto_region 32 with fail
                        go_cut [148] from 128 to 147 (fun v wx => v = .bool (decide (V = H ∨ (i = 0 ∧ V = zeroL))) ∧ Below wh.heap.size wh wx)
                        case first =>
                          have hpn : p < d.n := by omega
                          have hp0 : (0 : Int) ≤ (p : Int) := by omega
                          have hpi : (p : Int) < (d.n : Int) := by omega
                          by_cases hVH : V = H
                          · subst hVH
                            go_quiet (fail)
                            all_goals (go_wp2_with fail; go_meet)
                            all_goals exact ⟨by simp, by first | exact below_dN (Below.refl _ _) _ | exact (Below.refl _ wh).drew⟩
                          · have q3 := beq_bs hVH
                            by_cases hi0' : i = 0
                            · subst hi0'
                              have hX : ∀ W, Below wh.heap.size wh W → W.cell? ⟨gA, p, none⟩ = some (.string (bs V)) ∧ W.cell? ⟨j, 2, none⟩ = some (.int .i64 ((0 : Nat) : Int)) := fun W hW => ⟨(hW.cell (p := ⟨gA, p, none⟩) (World.block_lt_of_cell? _ _ hch)).trans hch, (hW.cell (p := ⟨j, 2, none⟩) (World.block_lt_of_cell? _ _ (x0 2))).trans (x0 2)⟩
                              have hzz := fun W => zero_any W
                              have e0 : (((0 : Nat) : Int) == 0) = true := rfl
                              clear HR6 HRM HRN HMZ HMN HM2
                              generalize zeroL = Z at *
                              by_cases hVZ : V = Z
                              · subst hVZ
                                go_region_held3 (fun w' => w'.cell? ⟨gA, p, none⟩ = some (.string (bs V)) ∧ w'.cell? ⟨j, 2, none⟩ = some (.int .i64 ((0 : Nat) : Int))) (first | exact hX _ (Below.refl _ _) | exact hX _ (Below.refl _ _).drew | exact hX _ bz) (first | (go_at_call 38; refine (hzz _).mono ?_; rintro e w1 ⟨rfl, b1⟩; have bz : Below wh.heap.size wh w1 := below_drew b1))
                                all_goals (go_wp2_with fail; go_meet)
                                all_goals exact ⟨by simp, bz⟩
                              · have q4 := beq_bs hVZ
                                go_region_held3 (fun w' => w'.cell? ⟨gA, p, none⟩ = some (.string (bs V)) ∧ w'.cell? ⟨j, 2, none⟩ = some (.int .i64 ((0 : Nat) : Int))) (first | exact hX _ (Below.refl _ _) | exact hX _ (Below.refl _ _).drew | exact hX _ bz) (first | (go_at_call 38; refine (hzz _).mono ?_; rintro e w1 ⟨rfl, b1⟩; have bz : Below wh.heap.size wh w1 := below_drew b1))
                                all_goals (go_wp2_with fail; go_meet)
                                all_goals exact ⟨by simp [hVH, hVZ], bz⟩
                            · have e0 : ((i : Int) == 0) = false := by simpa using hi0'
                              go_quiet (fail)
                              all_goals (go_wp2_with fail; go_meet)
                              all_goals exact ⟨by simp [hVH, hi0'], by first | exact below_dN (Below.refl _ _) _ | exact (Below.refl _ wh).drew⟩
                        case rest =>
                          obtain ⟨rfl, hbx⟩ := hcut
                          have hkx := hkh.trans (Keep.of_below hbx Lh.lt)
                          have Lx := Lh.same hbx
                          have hjx := hjh.below hbx hjh.lt
                          have hTx : Tbs wc := HT.out.below Lx.below
                          obtain ⟨wy, rfl⟩ : ∃ q : World, q = wc := ⟨wc, rfl⟩
                          clear x0 x1 x2 hjh hch hkh Lh hbx
                          by_cases hin : V = H ∨ (i = 0 ∧ V = zeroL)
                          · rw [show decide (V = H ∨ (i = 0 ∧ V = zeroL)) = true by simpa using hin]
                            have hm := HM2.out
                            rw [if_pos hin] at hm
                            subst hm
                            have HNN := Lib.hid (HMZ.out rfl)
                            clear HMZ HMN HM2 hin
                            go_wp2_with fail
                            go_roundw
                            case rel => exact ⟨p + 1, d', by omega, by go_num, Lx, hkx, by omega, HNN⟩
                            case measure => simp [intOf]; omega
                          · rw [show decide (V = H ∨ (i = 0 ∧ V = zeroL)) = false by simpa using hin]
                            have hm := HM2.out
                            rw [if_neg hin] at hm
                            have HM3 := Lib.hid hm
                            clear hin hm HM2
                            obtain ⟨x0, x1, x2⟩ := hjx.all
                            go_wp2_with fail
                            refine (zero_any _).mono ?_
                            rintro e w8 ⟨rfl, b8⟩
                            have Lz := Lx.same b8
                            have hkz := hkx.trans (Keep.of_below b8 Lx.lt)
                            have hjz := hjx.below b8 hjx.lt
                            have HP1 := Lib.hid (put_one Lz j _ _ _ _ hjz hGj p (by omega) zeroL (by omega))
                            have hq1 := Dk.puts_q [zeroL] d' p
                            simp only [List.length_cons, List.length_nil] at hq1
                            obtain ⟨D1, hD1⟩ : ∃ x, d'.puts p [zeroL] = x := ⟨_, rfl⟩
                            rw [hD1] at HM3 HP1 hq1
                            clear x0 x1 x2 hjx hkx Lx b8
                            go_wp2_with fail
                            refine HP1.out.mono ?_
                            rintro e w9 ⟨rfl, L9, k9⟩
                            have hk9 := hkz.trans k9
                            have hj9 := hjz.keep k9 hGj
                            obtain ⟨x0, x1, x2⟩ := hj9.all
                            clear HP1 Lz hkz hjz k9 hD1
                            by_cases hE : D1.2 = 0
                            · have e1 : (D1.2 == 0) = true := by simpa using hE
                              have e2 : (D1.2 != 0) = false := by simpa using hE
                              by_cases hi : 0 < i
                              · have d3 : decide (0 < (i : Int)) = true := decide_eq_true (by omega)
                                have d4 : decide (0 < i) = true := decide_eq_true hi
                                have hm := HM3.out
                                rw [if_pos ⟨hE, hi⟩] at hm
                                have HP2 := Lib.hid (put_one L9 j _ _ _ _ hj9 hGj p (by omega) H (by omega))
                                have hq2 := Dk.puts_q [H] D1.1 p
                                simp only [List.length_cons, List.length_nil] at hq2
                                rw [hm] at HP2 hq2
                                clear HM3 hE hm
                                go_wp2_with fail
                                refine HP2.out.mono ?_
                                rintro e wA ⟨rfl, LA, kA⟩
                                have hkA := hk9.trans kA
                                clear HP2 L9 hk9 kA x0 x1 x2 hj9 e1 e2
                                by_cases hE2 : M.2 = 0
                                · have e1 : (M.2 == 0) = true := by simpa using hE2
                                  have e2 : (M.2 != 0) = false := by simpa using hE2
                                  have HNN := Lib.hid (HMZ.out hE2)
                                  clear HMZ HMN hE2
                                  go_wp2_with fail
                                  go_roundw
                                  case rel => exact ⟨p + 1, _, by omega, by go_num, LA, hkA, by omega, HNN⟩
                                  case measure => simp [intOf]; omega
                                · have e1 : (M.2 == 0) = false := by simpa using hE2
                                  have e2 : (M.2 != 0) = true := by simpa using hE2
                                  have hfin := HR6.out
                                  rw [HMN.out hE2, if_neg hE2] at hfin
                                  subst hfin
                                  clear HMZ HMN HR6 HRM HRN hE2
                                  go_wp2
                                  go_ret3
                                  exact ⟨(Keep.of_below hwq HL.out.lt).trans (hkA.mono HG0.out), rfl, LA.less HG0.out⟩
                              · have d3 : decide (0 < (i : Int)) = false := decide_eq_false (by omega)
                                have d4 : decide (0 < i) = false := decide_eq_false hi
                                have hm := HM3.out
                                rw [if_neg (fun h => hi h.2)] at hm
                                subst hm
                                have HNN := Lib.hid (HMZ.out hE)
                                clear HMZ HMN HM3 hi hE
                                go_wp2_with fail
                                go_roundw
                                case rel => exact ⟨p + 1, _, by omega, by go_num, L9, hk9, by omega, HNN⟩
                                case measure => simp [intOf]; omega
                            · have e1 : (D1.2 == 0) = false := by simpa using hE
                              have e2 : (D1.2 != 0) = true := by simpa using hE
                              have hm := HM3.out
                              rw [if_neg (fun h => hE h.1)] at hm
                              subst hm
                              have hfin := HR6.out
                              rw [HMN.out hE, if_neg hE] at hfin
                              subst hfin
                              clear HMZ HMN HM3 HR6 HRM HRN hE
                              go_wp2
                              go_ret3
                              exact ⟨(Keep.of_below hwq HL.out.lt).trans (hk9.mono HG0.out), rfl, L9.less HG0.out⟩
                      · obtain rfl : p = 2 := by omega
                        have hfin := HR6.out
                        rw [← HRN.out, HM.out.2.2 rfl, if_pos rfl] at hfin
                        subst hfin
                        have horr : OwnStrs wr w6.heap.size (.slice Ar rs.length cr) rs := ORQ.out.keepb fun b e => by
                          have q := World.ownsRow.lt ORQ.out b e
                          exact hkr.block b (HGN.out b (by omega) q.2)
                        have horl := World.ownsRow.lt ORQ.out
                        have HCL := Lib.hid (clone_any wr w6.heap.size Ar cr rs horr hrl)
                        have HOR := Lib.hid horr
                        obtain ⟨x0, x1, x2⟩ := hjr.all
                        have hsz := hkr.size
                        have hw0 := hwq.size
                        clear horr HM HRM HRN HR6 hTr HTR
                        go_wp2_with fail
                        refine HCL.out.mono ?_
                        rintro e wB ⟨v, rfl, oB, bB⟩
                        obtain ⟨Ac, cc, rfl⟩ := oB.form
                        clear HCL
                        go_wp2
                        go_ret3
                        refine ⟨((Keep.of_below hwq HL.out.lt).trans (hkr.mono HG0.out)).trans (Keep.of_below bB (fun x hx => Lr.lt x (HG0.out x hx))), j, fun x => x = j ∨ (Value.slice Ar rs.length cr).ownBlock = some x, Ac, cc, wr.heap.size, rfl, ?_, oB, by omega, ?_, ?_⟩
                        · refine ⟨Ar, cr, hjr.below bB x2, (HOR.out.mono (by have := HL.out.below.size; omega)).keepb fun b e => bB.block b (World.ownsRow.lt HOR.out b e).2, .inl rfl, fun g e => ⟨.inr e, ?_⟩⟩
                          have q := horl g e
                          omega
                        · intro x hx
                          rcases hx with rfl | hx
                          · exact ⟨hjw, x2⟩
                          · have q := horl x hx
                            exact ⟨by omega, by omega⟩
                        · refine Lr.more bB fun x hx => ?_
                          rcases hx with h | (rfl | h) | h
                          · exact .inl (HG0.out x h)
                          · exact .inl hGj
                          · have q := horl x h
                            exact .inl (HGN.out x (by omega) q.2)
                          · exact .inr h
end Go.Proofs.YtieicjjmkedgaaaGreatDoor

/- A journal and its disk while a statement runs: what each call leaves. -/
namespace Go.Proofs.YtieicjjmkedgaaaGreatDoor
open Go.RowKit Go.Shelf

/-- The journal j on the disk a; the blocks of K lie apart from both. -/
def Ses (w0 w : World) (a : Nat) (d : Dk) (j : Nat) (x : Jn) (K : Foot) : Prop :=
  ∃ J : Foot, Live w0 w a d (fun i => K i ∨ J i) ∧ JAt w w0.heap.size a j J x ∧ ∀ i, J i → w0.heap.size ≤ i ∧ ¬ K i

section
variable {w0 w w' : World} {a j : Nat} {d d' : Dk} {x : Jn} {K L : Foot}
theorem Ses.live (h : Ses w0 w a d j x K) : Live w0 w a d K := by
  obtain ⟨J, h1, _, _⟩ := h
  exact h1.less fun i hi => .inl hi
theorem Ses.ok (h : Ses w0 w a d j x K) : d.Ok := h.live.ok
theorem Ses.same (h : Ses w0 w a d j x K) (hb : Below w.heap.size w w') : Ses w0 w' a d j x K := by
  obtain ⟨J, h1, h2, h3⟩ := h
  exact ⟨J, h1.same hb, h2.keep (Keep.of_below hb h1.lt) (fun i hi => .inr hi), h3⟩
theorem Ses.more (h : Ses w0 w a d j x K) (hb : Below w.heap.size w w') (hL : ∀ i, L i → K i ∨ (w.heap.size ≤ i ∧ i < w'.heap.size)) : Ses w0 w' a d j x L := by
  obtain ⟨J, h1, h2, h3⟩ := h
  refine ⟨J, h1.more hb fun i hi => ?_, h2.keep (Keep.of_below hb h1.lt) (fun i hi => .inr hi), fun i hi => ⟨(h3 i hi).1, fun hl => ?_⟩⟩
  · rcases hi with hi | hi
    · rcases hL i hi with h4 | h4
      · exact .inl (.inl h4)
      · exact .inr h4
    · exact .inl (.inr hi)
  · rcases hL i hl with h4 | h4
    · exact (h3 i hi).2 h4
    · have := h1.lt i (.inr hi); omega
theorem Ses.less (h : Ses w0 w a d j x K) (hL : ∀ i, L i → K i) : Ses w0 w a d j x L := by
  obtain ⟨J, h1, h2, h3⟩ := h
  exact ⟨J, h1.less fun i hi => hi.imp (hL i) id, h2, fun i hi => ⟨(h3 i hi).1, fun hl => (h3 i hi).2 (hL i hl)⟩⟩
theorem Ses.lift {P : Program} {f : FuncId} {args : Array Value} {v : Value} (h : Ses w0 w a d j x K) (hc : ∀ F, DiskAt w a d F → Calls P f args w fun e w' => e = .returned v ∧ Stp w w' a d' F) :
    Calls P f args w fun e w' => e = .returned v ∧ Ses w0 w' a d' j x K ∧ Keep K w w' := by
  obtain ⟨J, h1, h2, h3⟩ := h
  refine (h1.lift hc).mono ?_
  rintro e w' ⟨he, h4, h5⟩
  exact ⟨he, ⟨J, h4, h2.keep h5 (fun i hi => .inr hi), h3⟩, h5.mono fun i hi => .inl hi⟩
theorem Ses.append (h : Ses w0 w a d j x K) (ht : Tbs w0) (A : Option Addr) (c : Nat) (rs : List (List UInt8)) (hs : StrsIn w K A rs) (hn : x.n ≤ 1000) (hc : x.cnt ≤ 1000) (hrl : rs.length ≤ 1000) (htot : total rs ≤ 500000) (hxl : x.rs.length ≤ 1000000) (hq : d.q.length ≤ 1000) :
    Calls Tryz.prog 25 #[.pointer (some ⟨j, 0, none⟩), .slice A rs.length c] w fun e w' =>
      e = .returned (.int .i64 (appendS d x rs).2.2) ∧ Ses w0 w' a (appendS d x rs).1 j (appendS d x rs).2.1 K ∧ Keep K w w' := by
  obtain ⟨J, h1, h2, h3⟩ := h
  refine (append_any (H := K) h1 ht h2 (fun i hi => .inr hi) (fun i hi => (h3 i hi).1) (fun i hi => ⟨.inl hi, fun hj => (h3 i hj).2 hi⟩) A c rs hs hn hc hrl htot hxl hq).mono ?_
  rintro e w' ⟨he, J', k1, k2, k3, k4⟩
  refine ⟨he, ⟨J', k2.less fun i hi => hi.imp (fun h => .inl h) id, k1, fun i hi => ?_⟩, k3.mono fun i hi => ⟨.inl hi, fun hj => (h3 i hj).2 hi⟩⟩
  rcases k4 i hi with h5 | h5
  · exact h3 i h5
  · refine ⟨by have := h1.below.size; omega, fun hk => ?_⟩
    have := h1.lt i (.inl hk)
    omega
theorem Ses.room (h : Ses w0 w a d j x K) (hn : x.n ≤ 1000000) (hc : x.cnt ≤ 1000000) :
    Calls Tryz.prog 13 #[.pointer (some ⟨j, 0, none⟩)] w fun e w' => e = .returned (.int .i64 ((x.n : Int) - 2 - x.cnt)) ∧ Below w.heap.size w w' := by
  obtain ⟨J, h1, h2, h3⟩ := h
  refine (room_any w _ a j J x h2 hn hc).mono ?_
  rintro e w' ⟨he, q, rfl⟩
  exact ⟨he, below_dN (Below.refl _ _) q⟩
theorem Ses.records (h : Ses w0 w a d j x K) (hl : x.rs.length ≤ 1000000) :
    Calls Tryz.prog 11 #[.pointer (some ⟨j, 0, none⟩)] w fun e w' => ∃ v, e = .returned v ∧ OwnStrs w' w.heap.size v x.rs ∧ Below w.heap.size w w' := by
  obtain ⟨J, h1, h2, h3⟩ := h
  exact records_any w _ a j J x h2 hl
/-- A journal opened before is still there behind later calls that keep its blocks. -/
theorem Ses.split (h : Ses w0 w a d j x K) : ∃ J : Foot, Live w0 w a d (fun i => K i ∨ J i) ∧ JAt w w0.heap.size a j J x ∧ ∀ i, J i → w0.heap.size ≤ i ∧ ¬ K i := h
/-- Open, where it finds a journal. -/
theorem Live.open_some (h : Live w0 w a d K) (ht : Tbs w0) (hq : d.q.length ≤ 1000) {d' : Dk} {x : Jn} {code : Int} (he : openS d = (d', some x, code)) :
    Calls Tryz.prog 8 #[.pointer (some ⟨a, 0, none⟩)] w fun e w' => ∃ (j : Nat) (A : Option Addr) (c B : Nat), e = .returned (.tuple #[.pointer (some ⟨j, 0, none⟩), .slice A x.rs.length c, .int .i64 code]) ∧
      Ses w0 w' a d' j x (fun i => K i ∨ (B ≤ i ∧ i < w'.heap.size)) ∧ OwnStrs w' B (.slice A x.rs.length c) x.rs ∧ w.heap.size ≤ B ∧ Keep K w w' := by
  refine (open_any h ht hq).mono ?_
  rw [he]
  rintro e w' ⟨h1, j, J, A, c, B, h2, h3, h4, h5, h6, h7⟩
  refine ⟨j, A, c, B, h2, ⟨J, h7.less fun i hi => ?_, h3, fun i hi => ⟨?_, fun hk => ?_⟩⟩, h4, h5, h1⟩
  · rcases hi with (hi | hi) | hi
    · exact .inl hi
    · exact .inr (.inr hi)
    · exact .inr (.inl hi)
  · have := h6 i hi
    have := h.below.size
    omega
  · have h8 := h6 i hi
    rcases hk with hk | hk
    · have := h.lt i hk; omega
    · omega
theorem Live.open_none (h : Live w0 w a d K) (ht : Tbs w0) (hq : d.q.length ≤ 1000) {d' : Dk} {code : Int} (he : openS d = (d', none, code)) :
    Calls Tryz.prog 8 #[.pointer (some ⟨a, 0, none⟩)] w fun e w' => e = .returned (.tuple #[.pointer none, .slice none 0 0, .int .i64 code]) ∧ Live w0 w' a d' K ∧ Keep K w w' := by
  refine (open_any h ht hq).mono ?_
  rw [he]
  rintro e w' ⟨h1, h2, h3⟩
  exact ⟨h2, h3, h1⟩
end

theorem OwnStrs.keep {w w' : World} {B : Nat} {v : Value} {l : List (List UInt8)} {K : Foot} (h : OwnStrs w B v l) (hk : Keep K w w') (hK : ∀ i, v.ownBlock = some i → K i) : OwnStrs w' B v l := h.keepb fun b e => hk.block b (hK b e)
theorem OwnStrs.below {w w' : World} {B : Nat} {v : Value} {l : List (List UInt8)} (h : OwnStrs w B v l) (hb : Below w.heap.size w w') : OwnStrs w' B v l := h.keepb fun b e => hb.block b (World.ownsRow.lt h b e).2
theorem OwnStrs.strsAt {w : World} {B : Nat} {A : Option Addr} {c n : Nat} {l : List (List UInt8)} (h : OwnStrs w B (.slice A n c) l) : StrsAt w w.heap.size A l := by
  obtain ⟨A', c', hv, h1, _⟩ := h.at
  obtain ⟨rfl, -, -⟩ : A = A' ∧ n = l.length ∧ c = c' := by simpa using hv
  exact h1
theorem OwnStrs.strsIn {w : World} {B : Nat} {A : Option Addr} {c n : Nat} {l : List (List UInt8)} {K : Foot} (h : OwnStrs w B (.slice A n c) l) (hK : ∀ i, B ≤ i → i < w.heap.size → K i) : StrsIn w K A l := fun i s hi => by
  obtain ⟨A', c', hv, h1, h2, h3⟩ := h.at
  obtain ⟨rfl, -, -⟩ : A = A' ∧ n = l.length ∧ c = c' := by simpa using hv
  obtain ⟨g, off, hA, hg, hc⟩ := h1 i s hi
  have := h2 g (h3 g off none hA)
  exact ⟨g, off, hA, hK g this.1 this.2, hc⟩

/-! Helpers of the statements. -/
set_option maxRecDepth 100000 in
set_option maxHeartbeats 4000000 in
theorem same_any (w : World) (A B : Option Addr) (c c' : Nat) (l m : List (List UInt8)) (h1 : StrsAt w w.heap.size A l) (h2 : StrsAt w w.heap.size B m) (hl : l.length ≤ 1000000) :
    Calls Tryz.prog 10 #[.slice A l.length c, .slice B m.length c'] w fun e w' => e = .returned (.bool (decide (l = m))) ∧ Below w.heap.size w w' := by
  obtain ⟨R, hR⟩ : ∃ r, decide (l = m) = r := ⟨_, rfl⟩
  rw [hR]
  have HR := Lib.hid hR
  clear hR
  by_cases hlen : l.length = m.length
  · have HA := Lib.hid h1
    have HB := Lib.hid h2
    have HLM := Lib.hid hlen
    have e0 : ((l.length : Int) != (m.length : Int)) = false := by simp [hlen]
    clear h1 h2 hlen
    go_enter Tryz.func10, Tryz.ntmps10
    go_wp2_with fail
    go_loopw [5] (fun v wr => ∃ k : Nat, k ≤ l.length ∧ v = .int .i64 (k : Int) ∧ Hid (l.take k = m.take k) ∧ Below w.heap.size w wr) (fun v _ => l.length - (intOf v).toNat)
    case atStart => exact ⟨0, Nat.zero_le _, rfl, Lib.hid rfl, Below.refl _ _⟩
    case round =>
      obtain ⟨k, hk, rfl, HE, hb⟩ := hrel
      by_cases hlt : k < l.length
      · obtain ⟨s, hs⟩ : ∃ s, l[k]? = some s := ⟨_, List.getElem?_eq_getElem hlt⟩
        obtain ⟨t, hts⟩ : ∃ t, m[k]? = some t := ⟨_, List.getElem?_eq_getElem (by have := HLM.out; omega)⟩
        obtain ⟨g1, o1, rfl, hg1, hc1⟩ := HA.out k s hs
        obtain ⟨g2, o2, rfl, hg2, hc2⟩ := HB.out k t hts
        have c1 := (hb.cell (p := ⟨g1, o1 + k, none⟩) hg1).trans hc1
        have c2 := (hb.cell (p := ⟨g2, o2 + k, none⟩) hg2).trans hc2
        have hki : (k : Int) < (l.length : Int) := by omega
        have hkm : (k : Int) < (m.length : Int) := by have := HLM.out; omega
        have hkm' : k < m.length := by omega
        have hk0 : (0 : Int) ≤ (k : Int) := by omega
        have HS := Lib.hid hs
        have HTS := Lib.hid hts
        clear hc1 hc2 hs hts
        by_cases hst : s = t
        · subst hst
          have hnx : l.take (k + 1) = m.take (k + 1) := by rw [List.take_add_one, List.take_add_one, HE.out, HS.out, HTS.out]
          have HNX := Lib.hid hnx
          clear hnx HE HS HTS
          go_wp2_with fail
          go_quiet (fail)
          all_goals (go_wp2_with fail; go_roundw)
          case rel => exact ⟨k + 1, by omega, by go_num, HNX, by first | exact below_dN hb _ | exact hb.drew⟩
          case measure => simp [intOf]; omega
        · have q := beq_bs hst
          have hne : decide (l = m) = false := decide_eq_false fun e => by
            have h3 := HS.out
            rw [e, HTS.out] at h3
            injection h3 with h3
            exact hst h3.symm
          obtain rfl : R = false := HR.out.symm.trans hne
          clear hst hne HE HR
          go_wp2_with fail
          go_quiet (fail)
          all_goals (go_wp2)
          all_goals go_ret
          all_goals exact ⟨rfl, by first | exact below_dN hb _ | exact hb.drew⟩
      · obtain rfl : k = l.length := by omega
        have hall : decide (l = m) = true := decide_eq_true (by
          have h3 := HE.out
          rw [List.take_length, HLM.out, List.take_length] at h3
          exact h3)
        obtain rfl : R = true := HR.out.symm.trans hall
        clear hall HR
        go_wp2
        go_ret
        exact ⟨rfl, hb⟩
  · have hne : decide (l = m) = false := decide_eq_false fun e => hlen (by rw [e])
    have e0 : ((l.length : Int) != (m.length : Int)) = true := by
      have : ¬ ((l.length : Int) = (m.length : Int)) := by omega
      simpa using this
    obtain rfl : R = false := HR.out.symm.trans hne
    clear hne hlen HR
    go_enter Tryz.func10, Tryz.ntmps10
    go_wp2
    go_ret
    exact ⟨rfl, Below.refl _ _⟩
theorem zeros_make (n : Nat) (hn : n ≤ 1000000) (W : World) : (Instr.makeSlice 49 (.int .i64 (n : Int)) (.int .i64 (n : Int))).run Tryz.prog W = .ok (.slice (some ⟨W.heap.size, 0, none⟩) n n) (W.alloc (.cells (List.replicate n (.int .u8 0)).toArray 5)) :=
  run_make_one (P := Tryz.prog) 49 5 (.int .u8 0) 1 (by kernel_rfl) Tryz.infoByte rfl (n : Int) n rfl (by omega) (by omega) W
theorem zeros_text (n : Nat) (W : World) (g : Nat) (h : Blk W g 5 (List.replicate n (.int .u8 0)).toArray) : (convert 49 9 (.slice (some ⟨g, 0, none⟩) n n)).run Tryz.prog W = .ok (.string (bs (List.replicate n 0))) W := by
  have e : (List.replicate n (Value.int .u8 0)).toArray = (bc (List.replicate n 0)).toArray := by simp [bc]
  rw [e] at h
  have := run_string_of_blk (P := Tryz.prog) W 49 9 5 g 5 (by kernel_rfl) (by kernel_rfl) (by kernel_rfl) 0 n n (List.replicate n 0) h (by simp)
  rw [this, List.drop_zero, List.take_of_length_le (by simp)]
  rfl
theorem lawText_any (w : World) (n : Nat) (hn : n ≤ 1000000) : Calls Tryz.prog 29 #[.int .i64 (n : Int)] w fun e w' => e = .returned (.string (bs (List.replicate n 0))) ∧ Below w.heap.size w w' := by
  have mk := zeros_make n hn w
  have kn := Blk.new w 5 (List.replicate n (.int .u8 0)).toArray
  have hb := (Below.refl w.heap.size w).alloc (Nat.le_refl _) (.cells (List.replicate n (.int .u8 0)).toArray 5)
  have cv := zeros_text n _ _ kn
  clear kn
  generalize w.alloc (.cells (List.replicate n (.int .u8 0)).toArray 5) = w2 at *
  go_enter Tryz.func29, Tryz.ntmps29
  go_wp2
  go_ret
  exact ⟨rfl, hb⟩
end Go.Proofs.YtieicjjmkedgaaaGreatDoor

/- head of the statements about the journal: the fixed examples. -/
namespace Go.Proofs.YtieicjjmkedgaaaGreatDoor
open Go.RowKit Go.Shelf

set_option maxRecDepth 100000 in
theorem append_nil (w : World) (v : Value) : Calls Tryz.prog 25 #[.pointer none, v] w fun e w' => e = .returned (.int .i64 1) ∧ Below w.heap.size w w' := by
  have hmf : ∀ (fn : Fn) (first cap : Array Value) (w : World), (Instr.makeFunc fn first cap).run Tryz.prog w = .ok (.func fn first cap) w := fun _ _ _ _ => rfl
  go_enter_defers Tryz.func25, Tryz.ntmps25
  go_wp2
  have hbel : Below w.heap.size w ((w.alloc (.cells #[.pointer none] 29)).alloc (.cells #[.int .i64 1] 31)) := ((Below.refl _ w).alloc (Nat.le_refl _) _).alloc (by simp) _
  simp [bodyPostD, Leaves, results, Tryz.results25, go_sem]
  exact hbel
theorem JAt.below {w w' : World} {base a j : Nat} {J : Foot} {x : Jn} (h : JAt w base a j J x) (hb : Below w.heap.size w w') : JAt w' base a j J x := by
  obtain ⟨A, c, h1, h2, h3, h4⟩ := h
  exact ⟨A, c, Blk.below h1 hb h1.lt, h2.below hb, h3, h4⟩
theorem lit_in (w : World) (l : List (List UInt8)) (K : Foot) : StrsIn (w.alloc (.cells (l.map sv).toArray 9)) (fun i => K i ∨ i = w.heap.size) (some ⟨w.heap.size, 0, none⟩) l := fun i s hi => by
  refine ⟨_, _, rfl, .inr rfl, ?_⟩
  have := (Blk.new w 9 (l.map sv).toArray).cell (0 + i)
  rw [this]
  simp [hi]
  rfl
theorem lit_at (w : World) (l : List (List UInt8)) : StrsAt (w.alloc (.cells (l.map sv).toArray 9)) (w.alloc (.cells (l.map sv).toArray 9)).heap.size (some ⟨w.heap.size, 0, none⟩) l :=
  (lit_in w l (fun _ => False)).at fun i hi => by
    rcases hi with h | rfl
    · exact h.elim
    · simp
theorem new6 (w : World) : Calls Tryz.prog 6 #[.int .i64 6] w fun e w' =>
    ∃ a, e = .returned (.pointer (some ⟨a, 0, none⟩)) ∧ Below w.heap.size w w' ∧ w.heap.size ≤ a ∧ DiskAt w' a (Dk.new 6) (fun i => w.heap.size ≤ i ∧ i < w'.heap.size) := new_yes w 6 (by decide) (by decide)
theorem new2 (w : World) : Calls Tryz.prog 6 #[.int .i64 2] w fun e w' =>
    ∃ a, e = .returned (.pointer (some ⟨a, 0, none⟩)) ∧ Below w.heap.size w w' ∧ w.heap.size ≤ a ∧ DiskAt w' a (Dk.new 2) (fun i => w.heap.size ≤ i ∧ i < w'.heap.size) := new_yes w 2 (by decide) (by decide)
theorem text200 (w : World) : Calls Tryz.prog 29 #[.int .i64 200] w fun e w' => e = .returned (.string (bs (List.replicate 200 0))) ∧ Below w.heap.size w w' := lawText_any w 200 (by omega)
theorem text20001 (w : World) : Calls Tryz.prog 29 #[.int .i64 20001] w fun e w' => e = .returned (.string (bs (List.replicate 20001 0))) ∧ Below w.heap.size w w' := lawText_any w 20001 (by omega)

set_option maxRecDepth 100000 in
set_option maxHeartbeats 8000000 in
theorem head_any (w : World) (ht : Tbs w) : Calls Tryz.prog 4 #[] w fun e w' => e = .returned (.bool true) ∧ Below w.heap.size w w' := by
  obtain ⟨d1, d2, d4, d5, d6, a1, a2, a3, f1, o2, r4, o4, r6, o6, q1, q2, q4, q5, q6⟩ := hd_all
  have t200 := fun W => text200 W
  have t20001 := fun W => text20001 W
  have l200 : total [List.replicate 200 (0 : UInt8)] ≤ 500000 := by show (List.replicate 200 (0 : UInt8)).length + 0 ≤ _; rw [List.length_replicate]; decide
  have l20001 : total [List.replicate 20001 (0 : UInt8)] ≤ 500000 := by show (List.replicate 20001 (0 : UInt8)).length + 0 ≤ _; rw [List.length_replicate]; decide
  generalize List.replicate 200 (0 : UInt8) = T200 at *
  generalize List.replicate 20001 (0 : UInt8) = T20001 at *
  have X200 := Lib.hid (And.intro t200 l200)
  have X20001 := Lib.hid (And.intro t20001 l20001)
  clear t200 t20001 l200 l20001
  have A1 := Lib.hid a1
  have A2 := Lib.hid a2
  have A3 := Lib.hid a3
  have F1 := Lib.hid f1
  have O2 := Lib.hid o2
  have R4 := Lib.hid r4
  have O4 := Lib.hid o4
  have R6 := Lib.hid r6
  have O6 := Lib.hid o6
  have Q := Lib.hid (And.intro q1 (And.intro q2 (And.intro q4 (And.intro q5 q6))))
  have HT := Lib.hid ht
  clear a1 a2 a3 f1 o2 r4 o4 r6 o6 q1 q2 q4 q5 q6 ht
  go_enter Tryz.func4, Tryz.ntmps4
  go_wp2_with fail
  refine (new6 w).mono ?_
  rintro e w1 ⟨a, rfl, b1, ga, hD⟩
  have L1 : Live w w1 a (Dk.new 6) (fun _ => False) := Live.of_new (Below.refl _ _) b1 hD
  clear b1 ga hD
  have p1 := L1.open_some HT.out (by show 0 ≤ 1000; omega) hd_open.2
  simp only [show (x6 0 []).rs = [] from rfl, List.length_nil] at p1
  have P1 := Lib.hid p1
  clear p1
  go_wp2_with fail
  refine P1.out.mono ?_
  rintro e w2 ⟨j, A, c, B, rfl, S2, o2, hB, k2⟩
  clear P1 L1 o2 k2 hB
  have hb3 : Below w2.heap.size w2 (w2.alloc (.cells #[.string ⟨#[97]⟩, .string ⟨#[98, 99]⟩] 9)) := (Below.refl _ w2).alloc (Nat.le_refl _) _
  have S3 := S2.more hb3 (L := fun i => False ∨ i = w2.heap.size) (fun i hi => .inr (by rcases hi with h | rfl; exact h.elim; simp))
  have i3 : StrsIn (w2.alloc (.cells #[.string ⟨#[97]⟩, .string ⟨#[98, 99]⟩] 9)) (fun i => False ∨ i = w2.heap.size) (some ⟨w2.heap.size, 0, none⟩) abL := lit_in w2 abL (fun _ => False)
  have P3 := Lib.hid (S3.append HT.out _ 2 abL i3 (by decide) (by decide) (by decide) (by decide) (by decide) (by show 0 ≤ 1000; omega))
  rw [A1.out] at P3
  clear S2 S3 i3 hb3
  go_wp2_with fail
  refine P3.out.mono ?_
  rintro e w4 ⟨rfl, S4, k4⟩
  clear P3 k4
  have p4 := S4.room (by decide) (by decide)
  rw [show (((x6 1 abL).n : Nat) : Int) - 2 - (((x6 1 abL).cnt : Nat) : Int) = 3 from rfl] at p4
  have P4 := Lib.hid p4
  clear p4
  go_wp2_with fail
  refine P4.out.mono ?_
  rintro e w5 ⟨rfl, b5⟩
  have S5 := S4.same b5
  clear P4 S4 b5
  go_wp2_with fail
  refine (X200.out.1 _).mono ?_
  rintro e w6 ⟨rfl, b6⟩
  have S6 := S5.same b6
  clear S5 b6
  have hb7 : Below w6.heap.size w6 (w6.alloc (.cells #[.string (bs T200)] 9)) := (Below.refl _ w6).alloc (Nat.le_refl _) _
  have S7 := S6.more hb7 (L := fun i => False ∨ i = w6.heap.size) (fun i hi => .inr (by rcases hi with h | rfl; exact h.elim; simp))
  have i7 : StrsIn (w6.alloc (.cells #[.string (bs T200)] 9)) (fun i => False ∨ i = w6.heap.size) (some ⟨w6.heap.size, 0, none⟩) [T200] := lit_in w6 [T200] (fun _ => False)
  have P7 := Lib.hid (S7.append HT.out _ 1 [T200] i7 (by decide) (by decide) (by simp) X200.out.2 (by decide) (by rw [Q.out.1]; decide))
  rw [A2.out] at P7
  clear S6 S7 i7 hb7
  go_wp2_with fail
  refine P7.out.mono ?_
  rintro e w8 ⟨rfl, S8, k8⟩
  clear P7 k8
  go_wp2_with fail
  refine (X20001.out.1 _).mono ?_
  rintro e w9 ⟨rfl, b9⟩
  have S9 := S8.same b9
  clear S8 b9
  have hb10 : Below w9.heap.size w9 (w9.alloc (.cells #[.string (bs T20001)] 9)) := (Below.refl _ w9).alloc (Nat.le_refl _) _
  have S10 := S9.more hb10 (L := fun i => False ∨ i = w9.heap.size) (fun i hi => .inr (by rcases hi with h | rfl; exact h.elim; simp))
  have i10 : StrsIn (w9.alloc (.cells #[.string (bs T20001)] 9)) (fun i => False ∨ i = w9.heap.size) (some ⟨w9.heap.size, 0, none⟩) [T20001] := lit_in w9 [T20001] (fun _ => False)
  have P10 := Lib.hid (S10.append HT.out _ 1 [T20001] i10 (by decide) (by decide) (by simp) X20001.out.2 (by decide) (by rw [Q.out.1]; decide))
  rw [A3.out] at P10
  clear S9 S10 i10 hb10
  go_wp2_with fail
  refine P10.out.mono ?_
  rintro e w11 ⟨rfl, S11, k11⟩
  clear P10 k11
  have P11 := Lib.hid (S11.lift fun F hF => fail_any hF 0 0)
  go_wp2_with fail
  refine P11.out.mono ?_
  rintro e w12 ⟨rfl, S12, k12⟩
  clear P11 k12 S11
  have p12 := S12.lift fun F hF => startany hF
  rw [F1.out] at p12
  have P12 := Lib.hid p12
  clear p12
  go_wp2_with fail
  refine P12.out.mono ?_
  rintro e w13 ⟨rfl, S13, k13⟩
  clear P12 k13 S12
  have p13 := (S13.live.less (H := fun _ => False) (fun _ h => h.elim)).open_some HT.out (by rw [Q.out.2.1]; decide) O2.out
  simp only [show (x6 1 abL).rs = abL from rfl] at p13
  have P13 := Lib.hid p13
  clear p13 S13
  go_wp2_with fail
  refine P13.out.mono ?_
  rintro e w14 ⟨jk, Am, cm, Bm, rfl, S14, om, hBm, k14⟩
  clear P13 k14
  obtain ⟨Jk, L14, jat, hJk⟩ := S14.split
  have hmK : ∀ i, (Value.slice Am abL.length cm).ownBlock = some i → (fun i => (False ∨ (Bm ≤ i ∧ i < w14.heap.size)) ∨ Jk i) i := fun i hi => .inl (.inr (World.ownsRow.lt om i hi))
  have hJK : ∀ i, Jk i → (fun i => (False ∨ (Bm ≤ i ∧ i < w14.heap.size)) ∨ Jk i) i := fun i hi => .inr hi
  generalize (fun i => (False ∨ (Bm ≤ i ∧ i < w14.heap.size)) ∨ Jk i) = KK at *
  clear S14 hBm hJk
  have p15 := L14.lift fun F hF => rot_any hF 0 5 1
  rw [R4.out] at p15
  have P15 := Lib.hid p15
  clear p15 L14
  go_wp2_with fail
  refine P15.out.mono ?_
  rintro e w15 ⟨rfl, L15, k15⟩
  clear P15
  have p16 := L15.open_some HT.out (by rw [Q.out.2.2.1]; decide) O4.out
  simp only [show (x6 1 abL).rs = abL from rfl] at p16
  have P16 := Lib.hid p16
  clear p16 L15
  go_wp2_with fail
  refine P16.out.mono ?_
  rintro e w16 ⟨j5, An, cn, Bn, rfl, S16, on, hBn, k16⟩
  have k1416 := k15.trans k16
  have hnK : ∀ i, (Value.slice An abL.length cn).ownBlock = some i → (fun i => KK i ∨ (Bn ≤ i ∧ i < w16.heap.size)) i := fun i hi => .inr (World.ownsRow.lt on i hi)
  have hKN : ∀ i, KK i → (fun i => KK i ∨ (Bn ≤ i ∧ i < w16.heap.size)) i := fun i hi => .inl hi
  have L16 := S16.live
  generalize (fun i => KK i ∨ (Bn ≤ i ∧ i < w16.heap.size)) = KN at *
  clear P16 k15 k16 hBn S16
  have p17 := L16.lift fun F hF => rot_any hF 2 40 1
  rw [R6.out] at p17
  have P17 := Lib.hid p17
  clear p17 L16
  go_wp2_with fail
  refine P17.out.mono ?_
  rintro e w17 ⟨rfl, L17, k17⟩
  clear P17
  have P18 := Lib.hid (L17.open_none HT.out (by rw [Q.out.2.2.2.2]; decide) O6.out)
  clear L17
  go_wp2_with fail
  refine P18.out.mono ?_
  rintro e w18 ⟨rfl, L18, k18⟩
  have k1618 := k17.trans k18
  clear P18 k17 k18
  go_wp2_with fail
  refine (new2 w18).mono ?_
  rintro e w19 ⟨a2, rfl, b19, ga2, hD2⟩
  have L19 : Live w18 w19 a2 (Dk.new 2) (fun _ => False) := Live.of_new (Below.refl _ _) b19 hD2
  have P20 := Lib.hid (L19.open_none (HT.out.below L18.below) (by show 0 ≤ 1000; omega) (new_few (by decide)))
  clear b19 ga2 hD2 L19
  go_wp2_with fail
  refine P20.out.mono ?_
  rintro e w20 ⟨rfl, L20, k20⟩
  have b20 := L20.below
  have hb20 : Below w.heap.size w w20 := L18.below.trans (b20.mono L18.below.size)
  have k1620 : Keep KN w16 w20 := k1618.trans (Keep.of_below b20 L18.lt)
  have k1420 : Keep KK w14 w20 := k1416.trans (k1620.mono hKN)
  have om20 := om.keep k1420 hmK
  have on20 := on.keep k1620 hnK
  have jat20 := jat.keep k1420 hJK
  clear P20 L20 k20 L18 b20 k1620 k1420 k1618 k1416 om on jat
  have b21 : Below w20.heap.size w20 (w20.alloc (.cells #[.string ⟨#[97]⟩, .string ⟨#[98, 99]⟩] 9)) := (Below.refl _ w20).alloc (Nat.le_refl _) _
  have l21 : StrsAt (w20.alloc (.cells #[.string ⟨#[97]⟩, .string ⟨#[98, 99]⟩] 9)) (w20.alloc (.cells #[.string ⟨#[97]⟩, .string ⟨#[98, 99]⟩] 9)).heap.size (some ⟨w20.heap.size, 0, none⟩) abL := lit_at w20 abL
  have om21 := om20.below b21
  have p21 := same_any _ Am _ cm 2 abL abL om21.strsAt l21 (by decide)
  rw [show decide (abL = abL) = true from decide_eq_true rfl] at p21
  have P21 := Lib.hid p21
  clear p21 l21
  go_wp2_with fail
  refine P21.out.mono ?_
  rintro e w22 ⟨rfl, b22⟩
  have b2022 := b21.trans (b22.mono b21.size)
  have hb22 := hb20.trans (b2022.mono hb20.size)
  have p23 := records_any w22 _ a jk Jk (x6 1 abL) (jat20.below b2022) (by decide)
  simp only [show (x6 1 abL).rs = abL from rfl] at p23
  have P23 := Lib.hid p23
  have om22 := om20.below b2022
  have on22 := on20.below b2022
  clear p23 P21 b21 b22 om21 om20 on20 jat20 b2022 hb20
  go_wp2_with fail
  refine P23.out.mono ?_
  rintro e w23 ⟨v, rfl, or, b23⟩
  obtain ⟨Ar, cr, rfl⟩ := or.form
  have om23 := om22.below b23
  have on23 := on22.below b23
  have hb23 := hb22.trans (b23.mono hb22.size)
  have p24 := same_any _ Ar Am cr cm abL abL or.strsAt om23.strsAt (by decide)
  rw [show decide (abL = abL) = true from decide_eq_true rfl] at p24
  have P24 := Lib.hid p24
  clear p24 P23 b23 om22 on22 or hb22
  go_wp2_with fail
  refine P24.out.mono ?_
  rintro e w24 ⟨rfl, b24⟩
  have om24 := om23.below b24
  have on24 := on23.below b24
  have hb24 := hb23.trans (b24.mono hb23.size)
  have p25 := same_any _ An Am cn cm abL abL on24.strsAt om24.strsAt (by decide)
  rw [show decide (abL = abL) = true from decide_eq_true rfl] at p25
  have P25 := Lib.hid p25
  clear p25 P24 b24 om23 on23 hb23
  go_wp2_with fail
  refine P25.out.mono ?_
  rintro e w25 ⟨rfl, b25⟩
  have hb25 := hb24.trans (b25.mono hb24.size)
  clear P25 b25 om24 on24 hb24
  go_wp2_with fail
  refine (append_nil _ _).mono ?_
  rintro e w26 ⟨rfl, b26⟩
  have hb26 := hb25.trans (b26.mono hb25.size)
  go_wp2
  go_ret
  exact ⟨rfl, hb26⟩
end Go.Proofs.YtieicjjmkedgaaaGreatDoor

/- Reading arguments: a slice of structs whose fields are one cell each. Over any program. -/
namespace Go.Proofs.YtieicjjmkedgaaaGreatDoor
open Go.RowKit Go.ChangeShapes Go.WideShapes Go.Deep

section
variable {H : Type} {enc : TypeId × Value → H} {P : Program} {w : World} {base : Nat} {spare : Nat → Bool} {held : Bool}

theorem spot_none {w : World} {a : Addr} {k : Nat} {v : Value} (h : w.cell? (a.add k) = some v) : a.add k = ⟨a.block, a.off + k, none⟩ := by
  have hs := World.cell?_spot h
  obtain ⟨b, o, s⟩ := a
  by_cases h0 : k = 0
  · subst h0
    have : s = none := by simpa [Addr.add] using hs
    subst this
    simp [Addr.add]
  · simp [Addr.add, h0]

theorem slice_len {t e : TypeId} {fuel len cap : Nat} {A : Option Addr} {x : DataW H × List MemPlace} (ht : P.underlying t = some (.slice e)) (h : DataW.trod enc P w base spare held fuel t [.slice A len cap] = some x) :
    len ≤ 9223372036854775807 := by
  rcases open_slice ht h with ⟨h0, _⟩ | ⟨a, len', cap', m, n, D, Pl, hcs, hb, hl, hm, _⟩
  · injection h0 with h0
    injection h0 with _ h1 _
    omega
  · injection hcs with hcs _
    injection hcs with hA hle hca
    subst hA hle hca
    unfold maxLen at hm
    omega

/-- The elements of a slice of structs, cell by cell. -/
theorem slice_structs {t e : TypeId} {fs : Array Field} {fuel len cap : Nat} {A : Option Addr} {x : DataW H × List MemPlace} (ht : P.underlying t = some (.slice e)) (he : P.underlying e = some (.struct fs))
    (hone : oneCellFields P fs = true) (hC : P.cellsOf e = fs.size) (h : DataW.trod enc P w base spare held fuel t [.slice A len cap] = some x) :
    ∀ i, i < len → ∃ (a : Addr) (n : Nat) (vs : List Value), A = some a ∧ vs.length = fs.size ∧ (∀ j v, vs[j]? = some v → w.cell? ⟨a.block, a.off + i * fs.size + j, none⟩ = some v ∧ a.block < w.heap.size) ∧
      (0 < fs.size → a.spot = none) ∧
      ∀ (j : Nat) (f : Field), fs[j]? = some f → ∃ v y, vs[j]? = some v ∧ DataW.trod enc P w base spare held n f.type [v] = some y := by
  intro i hi
  rcases open_slice ht h with ⟨h0, _⟩ | ⟨a, len', cap', m, n, D, Pl, hcs, hb, hl, hm, hmm, hx, hall⟩
  · injection h0 with h0
    injection h0 with _ h1 _
    omega
  · injection hcs with hcs _
    injection hcs with hA hle hca
    subst hA hle hca
    obtain ⟨cs', hc, ht'⟩ := hall i (by rw [hmm]; split <;> omega)
    rw [hC] at hc
    obtain ⟨ys, n', _, _, hlen, hyl, hf⟩ := DataW.trod_struct he ht'
    obtain ⟨_, hcl, hat⟩ := World.cells?_some hc
    have hcell : ∀ j v, cs'[j]? = some v → w.cell? ((a.add (i * fs.size)).add j) = some v := fun j v hv => by
      have hj : j < fs.size := by rw [← hcl]; exact (List.getElem?_eq_some_iff.1 hv).1
      rw [hat j hj, hv]
    refine ⟨a, n', cs', rfl, hcl, fun j v hv => ?_, fun h0 => ?_, fun j f hj => ?_⟩
    · have h1 := hcell j v hv
      rw [Go.Deep.add_add] at h1
      have h2 := spot_none h1
      rw [h2] at h1
      have h3 : a.off + (i * fs.size + j) = a.off + i * fs.size + j := by omega
      rw [h3] at h1
      refine ⟨h1, ?_⟩
      exact World.block_lt_of_cell? w ⟨a.block, a.off + i * fs.size + j, none⟩ h1
    · obtain ⟨cs0, hc0, _⟩ := hall 0 (by rw [hmm]; split <;> omega)
      rw [hC] at hc0
      obtain ⟨_, hcl0, hat0⟩ := World.cells?_some hc0
      have h1 := hat0 0 h0
      rw [List.getElem?_eq_getElem (by omega)] at h1
      rw [Go.Deep.add_add] at h1
      simpa [Addr.add] using World.cell?_spot h1
    · obtain ⟨ho, hk⟩ := hone_of hone j f hj
      have hjl : j < fs.size := (Array.getElem?_eq_some_iff.1 hj).1
      have h1 := hf j f hj
      rw [ho, hk] at h1
      have h2 : (cs'.drop j).take 1 = [cs'[j]'(by omega)] := by
        rw [List.drop_eq_getElem_cons (by omega)]
        rfl
      rw [h2] at h1
      exact ⟨_, ys[j]'(by omega), List.getElem?_eq_getElem (by omega), h1.trans (List.getElem?_eq_getElem (by omega))⟩
end

/-- A list made element by element. -/
theorem list_of {α : Type} {p : Nat → α → Prop} (n : Nat) (h : ∀ i, i < n → ∃ a, p i a) : ∃ l : List α, l.length = n ∧ ∀ i a, l[i]? = some a → p i a := by
  induction n with
  | zero => exact ⟨[], rfl, fun i a hi => by simp at hi⟩
  | succ n ih =>
    obtain ⟨l, hl, hp⟩ := ih (fun i hi => h i (by omega))
    obtain ⟨a, ha⟩ := h n (by omega)
    refine ⟨l ++ [a], by simp [hl], fun i b hi => ?_⟩
    rcases Nat.lt_or_ge i l.length with h1 | h1
    · rw [List.getElem?_append_left h1] at hi
      exact hp i b hi
    · have : i = l.length := by
        have := (List.getElem?_eq_some_iff.1 hi).1
        simp at this
        omega
      subst this
      simp at hi
      subst hi
      rw [hl]
      exact ha
end Go.Proofs.YtieicjjmkedgaaaGreatDoor
