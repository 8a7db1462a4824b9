/- The reference's walk, List and Patches. -/
import Derived.Test.YtbihklfcdpgcgaaGc
namespace Go.Proofs.Ytbihklfcdpgcgaa
open Go.RowKit

theorem rKids_st (w : World) (B : Nat) (A : Option Addr) (cap : Nat) (l : List Cl) (h : ClsAt w B A l) (hB : B ≤ w.heap.size) (hl : l.length ≤ 100000) (t : St2) :
    Calls Try.prog 45 #[.slice A l.length cap, .agg #[.int .i64 t.1, .int .i64 t.2]] w fun e w' => ∃ v, e = .returned v ∧ OwnCls w' w.heap.size v (kids l t) ∧ Below w.heap.size w w' := rKids_any w B A cap l h hB hl t
def RWalkAt (B : Nat) (A : Option Addr) (cap : Nat) (l : List Cl) (n : Nat) : Prop := ∀ (W : World) (t : St2), ClsAt W B A l → B ≤ W.heap.size → rank l t < n → (walkN n l t).length ≤ 1000000 →
  Calls Try.prog 39 #[.slice A l.length cap, .agg (stA t)] W fun e w' => ∃ v, e = .returned v ∧ OwnCls w' W.heap.size v (walkN n l t) ∧ Below W.heap.size W w'
set_option maxRecDepth 100000 in
set_option maxHeartbeats 16000000 in
theorem rWalk_step {B : Nat} {A : Option Addr} {cap : Nat} {l : List Cl} (ht : Tr l) (hl : l.length ≤ 100000) {n : Nat} (ih : RWalkAt B A cap l n) : RWalkAt B A cap l (n + 1) := by
  intro w t h hB hrk hlen
  have IH := Lib.hid ih
  have HT := Lib.hid ht
  have B0 := Lib.hid (below_self_alloc w (.cells (stA t) 29))
  have K0 := Lib.hid (Blk.new w 29 (stA t))
  have H0 := Lib.hid ((h.wide hB).below B0.out)
  have S0 := Lib.hid (show w.heap.size ≤ (w.alloc (.cells (stA t) 29)).heap.size by simp)
  have h1 := Lib.hid (rKids_st (w.alloc (.cells (stA t) 29)) w.heap.size A cap l H0.out S0.out hl t)
  obtain ⟨N, hN⟩ : ∃ N, l.length = N := ⟨_, rfl⟩
  have HH := Lib.hid h
  have HRK := Lib.hid hrk
  have HBB := Lib.hid hB
  obtain ⟨ST, hST⟩ : ∃ x, stA t = x := ⟨_, rfl⟩
  rw [hN] at hl h1 ⊢
  rw [hST] at B0 K0 H0 S0 h1 ⊢
  have HN := Lib.hid hN
  have HST := Lib.hid hST
  obtain ⟨i1, hi1, hy0, hy1, hy2⟩ := info_parts Try.infoCl
  have hw : walkN (n + 1) l t = upto l n (kids l t) := rfl
  rw [hw] at hlen ⊢
  obtain ⟨K, hK⟩ : ∃ K, kids l t = K := ⟨_, rfl⟩
  have HKK := Lib.hid hK
  rw [hK] at h1 hlen ⊢
  have HLEN := Lib.hid hlen
  clear h hB hrk hN hST hw hK ih ht hlen
  have s0 : (w.alloc (.cells ST 29)).cell? ⟨w.heap.size, 0, none⟩ = some (.int .i64 t.1) := (K0.out.cell 0).trans (by rw [← HST.out]; rfl)
  have s1 : (w.alloc (.cells ST 29)).cell? ⟨w.heap.size, 1, none⟩ = some (.int .i64 t.2) := (K0.out.cell 1).trans (by rw [← HST.out]; rfl)
  go_enter Try.func39, Try.ntmps39
  go_wp2_with fail
  generalize w.alloc (.cells ST 29) = w0 at *
  refine h1.out.mono ?_
  rintro e w1 ⟨v1, rfl, o1, b1⟩
  have HB1 := Lib.hid (B0.out.trans (b1.mono S0.out))
  have HK1 := Lib.hid o1
  obtain ⟨M, hM⟩ : ∃ M, K.length = M := ⟨_, rfl⟩
  obtain ⟨Ak, ck, hv⟩ := HK1.out.len
  rw [hM] at hv
  subst hv
  have HM := Lib.hid hM
  have HA1 := Lib.hid ((HH.out.wide HBB.out).below HB1.out)
  have hMl : M ≤ 100000 := by
    have h9 : K.length ≤ l.length := by
      rw [← HKK.out]
      unfold kids
      rw [(sortC_perm _).length_eq]
      exact List.length_filter_le _ _
    rw [hM, HN.out] at h9
    omega
  clear h1 B0 K0 o1 b1 s0 s1 hM S0
  go_wp2_with fail
  go_loopw [5, 7] (fun o i wr => ∃ j : Nat, j ≤ M ∧ i = .int .i64 (j : Int) ∧ Hid (Below w1.heap.size w1 wr) ∧ Hid (OwnCls wr w1.heap.size o (upto l n (K.take j)))) (fun _ i _ => M - (intOf i).toNat)
  case atStart => exact ⟨0, Nat.zero_le _, rfl, Lib.hid (Below.refl _ _), Lib.hid (World.ownsRow_nil _ _ _ _)⟩
  case round =>
    obtain ⟨j, hj, rfl, HBj, HOj⟩ := hrel
    by_cases hjM : j < M
    · obtain ⟨c, hc⟩ : ∃ c, K[j]? = some c := ⟨_, List.getElem?_eq_getElem (by rw [HM.out]; exact hjM)⟩
      have HKj := Lib.hid (HK1.out.below HBj.out)
      obtain ⟨gk, hgk⟩ : ∃ g, Ak = some ⟨g, 0, none⟩ := by
        rcases (own_A HKj.out).1 with h0 | h0
        · exfalso
          obtain ⟨g', o', h1, _⟩ := own_at HKj.out j c hc
          rw [h0] at h1
          cases h1
        · exact h0
      subst hgk
      have e1 : decide ((j : Int) < (M : Int)) = true := decide_eq_true (by omega)
      have hut := upto_take (L := l) (n := n) hc
      have hck : c ∈ kids l t := by rw [HKK.out]; exact List.mem_of_getElem? hc
      have hrc := rank_kid HT.out hck
      have hrn : rank l c.id < n := by have := HRK.out; omega
      have hbound : (upto l n (K.take (j + 1))).length ≤ 1000000 := Nat.le_trans upto_le HLEN.out
      rw [hut, List.length_append, List.length_append, List.length_singleton] at hbound
      have HUT := Lib.hid hut
      have HRN := Lib.hid hrn
      have HC := Lib.hid hc
      have HKN := Lib.hid hjM
      obtain ⟨X, hX⟩ : ∃ X, upto l n (K.take j) = X := ⟨_, rfl⟩
      have HX := HOj
      rw [hX] at HX hbound HUT
      obtain ⟨m, hm⟩ : ∃ m, X.length = m := ⟨_, rfl⟩
      obtain ⟨Y, hY⟩ : ∃ Y, walkN n l c.id = Y := ⟨_, rfl⟩
      obtain ⟨r, hr⟩ : ∃ r, Y.length = r := ⟨_, rfl⟩
      rw [hm, hY, hr] at hbound
      rw [hY] at HUT
      obtain ⟨Ao, co, hv⟩ := HX.out.len
      rw [hm] at hv
      subst hv
      have HMM := Lib.hid hm
      have HYY := Lib.hid hY
      have HR := Lib.hid hr
      have HOWN := Lib.hid ((own_row HX.out hm).alloc (.cells (clA c) 35))
      have HKC := Lib.hid (Blk.new wr 35 (clA c))
      have HENC := Lib.hid (show encC c = (clA c).toList from rfl)
      have HONE := Lib.hid (encC_one c)
      have B3 := Lib.hid (HBj.out.alloc HBj.out.size (.cells (clA c) 35))
      have hsz := HBj.out.size
      have HRW := Lib.hid (own_row HKj.out HM.out)
      have HFO := Lib.hid (fold_cl c)
      have hcz := clA_size c
      obtain ⟨CC, hCC⟩ : ∃ x, clA c = x := ⟨_, rfl⟩
      rw [hCC] at HOWN HKC HENC B3 hcz HFO
      have HCC := Lib.hid hCC
      clear hc hut hck hrc hrn hX hm hY hr hCC HX HOj
      go_upto_region 7 with (first
        | (refine load_row rfl (x := .tmp 20) rfl rfl HRW.out HM.out HC.out ?_; rw [HCC.out])
        | (refine wpList_new rfl (op := .buildSlice 42 1 #[(0, .tmp 21)]) rfl (.slice (some ⟨wr.heap.size, 0, none⟩) 1 1) (wr.alloc (.cells CC 35)) (by rw [← HCC.out]; kernel_rfl) ?_)
        | (at_builtin; refine wpList_append_lies _ rfl _ _ 42 rfl w1.heap.size 35 i1 _ 20 248 Try.underlying42 hi1 hy0 hy1 hy2 rfl (by omega) (.slice Ao m co) m (cls X) rfl HOWN.out ⟨wr.heap.size, 0, none⟩ 1 1 (encC c) rfl rfl (by rw [HENC.out]; exact World.news_of_block HKC.out) HONE.out (by omega) (by unfold maxLen; omega) (by omega) (by simp; omega) (wr.heap.size + 1) (by simp) ?_; intro g9 cap9 w9 o9 gr9 l9 z9; have HO9 := Lib.hid (own_snoc HMM.out o9); have HB9 := Lib.hid (B3.out.grown gr9 B3.out.size (fun y hy => (HOWN.out.lt y hy).1)); clear o9 gr9 l9))
      have HT9 := Lib.hid (HB1.out.trans (HB9.out.mono HB1.out.size))
      have HK9 := Lib.hid (own_row (HK1.out.below HB9.out) HM.out)
      have q0 : w9.cell? ⟨gk, j * 20, none⟩ = some (.int .i64 c.id.1) := (own_cell HK9.out HM.out HC.out (j := 0) rfl).1
      have q1 : w9.cell? ⟨gk, j * 20 + 1, none⟩ = some (.int .i64 c.id.2) := (own_cell HK9.out HM.out HC.out (j := 1) rfl).1
      have W9 := Lib.hid (show Calls Try.prog 39 #[.slice A N cap, .agg #[.int .i64 c.id.1, .int .i64 c.id.2]] w9 fun e w' => ∃ v, e = .returned v ∧ OwnCls w' w9.heap.size v Y ∧ Below w9.heap.size w9 w' from by
        have := IH.out w9 c.id (HH.out.below (HT9.out.mono HBB.out)) (Nat.le_trans HBB.out HT9.out.size) HRN.out (by rw [HYY.out, HR.out]; omega)
        rw [HYY.out, HN.out] at this
        exact this)
      clear HOWN HKC HENC HONE B3 HRW HFO HCC hcz
      go_wp2_with fail
      refine W9.out.mono ?_
      rintro e w10 ⟨v10, rfl, o10, b10⟩
      have HO10 := Lib.hid (own_row (HO9.out.below b10) (n := m + 1) (by rw [List.length_append, HMM.out]; rfl))
      have HB10 := Lib.hid (HB9.out.trans (b10.mono HB9.out.size))
      obtain ⟨Av, cv, hv, hAv⟩ := o10.form
      rw [HR.out] at hv
      subst hv
      have HNV := Lib.hid (cls_news hAv)
      have HLV := Lib.hid (show (cls Y).length = r * 20 by rw [cls_len, HR.out])
      have HOV := Lib.hid (cls_one Y)
      have hs10 := HB10.out.size
      clear o10 hAv b10 W9 HT9 HK9 q0 q1 HO9 HB9
      go_wp2_with (at_builtin; refine wpList_append_any rfl _ _ 42 rfl w1.heap.size 35 i1 _ 20 248 Try.underlying42 hi1 hy0 hy1 hy2 rfl (by omega) (.slice (some ⟨g9, 0, none⟩) (m + 1) cap9) (m + 1) (cls (X ++ [c])) rfl HO10.out Av r cv (cls Y) rfl HLV.out HNV.out HOV.out (by unfold maxLen; omega) (by omega) hs10 ?_; intro v11 w11 o11 gr11 l11; have HB11 := Lib.hid (HB10.out.grown gr11 hs10 (fun y hy => (HO10.out.lt y hy).1)); have HO11 := Lib.hid o11; clear o11 gr11 l11)
      have HZ := Lib.hid (show OwnCls w11 w1.heap.size v11 (upto l n (K.take (j + 1))) from by
        rw [HUT.out]
        unfold OwnCls
        have h1 : ((X ++ [c]) ++ Y).length = m + 1 + r := by rw [List.length_append, List.length_append, HMM.out, HR.out]; rfl
        have h2 : cls ((X ++ [c]) ++ Y) = cls (X ++ [c]) ++ cls Y := by unfold cls; rw [List.flatMap_append]
        rw [h1, h2]
        exact HO11.out)
      first
        | (go_roundw
           case rel => exact ⟨j + 1, HKN.out, by go_num, HB11, HZ⟩
           case measure =>
             have := HKN.out
             simp [intOf]
             omega)
        | (refine ⟨⟨j + 1, HKN.out, by go_num, HB11, HZ⟩, ?_⟩
           have := HKN.out
           simp [intOf]
           omega)
    · obtain rfl : j = M := by omega
      have HR := Lib.hid (show OwnCls wr w1.heap.size u5 (upto l n K) from by
        have := HOj.out
        rw [← HM.out, List.take_length] at this
        exact this)
      have hb := HB1.out.trans (HBj.out.mono HB1.out.size)
      have HBZ := Lib.hid hb
      clear HOj hb
      go_wp2
      go_ret
      exact ⟨_, rfl, HR.out.low HB1.out.size, HBZ.out⟩
theorem rWalk_all {B : Nat} {A : Option Addr} {cap : Nat} {l : List Cl} (ht : Tr l) (hl : l.length ≤ 100000) : ∀ n, RWalkAt B A cap l n
  | 0 => fun _ _ _ _ h _ => by omega
  | n + 1 => rWalk_step ht hl (rWalk_all ht hl n)
set_option maxRecDepth 100000 in
set_option maxHeartbeats 4000000 in
theorem rList_any (w : World) {base q n : Nat} {v : Value} {L : List Cl} (h : RP w base q v n L) (hn : n ≤ 100000) :
    Calls Try.prog 18 #[.pointer (some ⟨q, 0, none⟩)] w fun e w' => ∃ u, e = .returned u ∧ OwnCls w' w.heap.size u (walkS L) ∧ Below w.heap.size w w' := by
  obtain ⟨N, hN⟩ : ∃ N, L.length = N := ⟨_, rfl⟩
  obtain ⟨A, cap, hv⟩ := h.own.len
  rw [hN] at hv
  subst hv
  have hlen := h.len
  have c0 : w.cell? ⟨q, 0, none⟩ = some (.slice A N cap) := h.blk.cell 0
  have hrk : rank L z2 < L.length + 1 := Nat.lt_succ_of_le (rank_le L z2)
  have hwl : (walkN (L.length + 1) L z2).length ≤ 1000000 := by
    have := walk_len h.pg
    unfold walkS at this
    rw [this]
    omega
  have W := Lib.hid (show Calls Try.prog 39 #[.slice A N cap, .agg #[.int .i64 0, .int .i64 0]] w fun e w' => ∃ v, e = .returned v ∧ OwnCls w' w.heap.size v (walkS L) ∧ Below w.heap.size w w' from by
    have := rWalk_all (B := w.heap.size) (A := A) (cap := cap) h.pg.tr (by omega) (L.length + 1) w z2 (own_at h.own) (Nat.le_refl _) hrk hwl
    rw [hN] at this
    unfold walkS
    rw [hN]
    exact this)
  clear h hN hlen hrk hwl
  go_enter Try.func18, Try.ntmps18
  go_wp2_with fail
  refine W.out.mono ?_
  rintro e w1 ⟨v1, rfl, o1, b1⟩
  have HO := Lib.hid o1
  clear o1 W
  go_wp2
  go_ret
  exact ⟨_, rfl, HO.out, b1⟩
end Go.Proofs.Ytbihklfcdpgcgaa
