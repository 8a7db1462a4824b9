/- start: the clock of a limit. after, paused, open: what a clock tells. Reading arguments: a slice of structs whose fields are one cell each. Over any program. -/
import Derived.Test.YtebdkmlganalaaaGreatDoorKTopAccruedGBH
import Derived.Test.YtebdkmlganalaaaGreatDoorKTopAccruedGAA
import Derived.Deep.Slices
import Derived.Deep.Fields
import Derived.ChangeSame
import Derived.ChangeOld
import Derived.ProofKit
import Derived.OpenShut
import Derived.ShutString
namespace Go.Proofs.YtebdkmlganalaaaGreatDoor
open Go.RowKit Go.Shelf

/-- The stops behind f. -/
def trS (f : Int) (S : List Stp2) : List Stp2 := (S.map fun s => (max s.1 (f + 1), s.2)).filter fun s => decide (s.1 < s.2)
/-- Paused days of a limit. -/
def pzB (f : Int) (S : List Stp2) (x : Int) : Bool := decide (f < x) && anyS S x
theorem pzB_iff {f : Int} {S : List Stp2} {x : Int} : pzB f S x = true ↔ f < x ∧ ∃ s ∈ S, s.1 ≤ x ∧ x < s.2 := by
  unfold pzB
  rw [Bool.and_eq_true, decide_eq_true_eq, anyS_iff]
theorem trS_mem {f : Int} {S : List Stp2} {t : Stp2} : t ∈ trS f S ↔ ∃ s ∈ S, t = (max s.1 (f + 1), s.2) ∧ max s.1 (f + 1) < s.2 := by
  unfold trS
  rw [List.mem_filter, List.mem_map]
  constructor
  · rintro ⟨⟨s, hs, rfl⟩, h⟩
    exact ⟨s, hs, rfl, by simpa using h⟩
  · rintro ⟨s, hs, rfl, h⟩
    exact ⟨⟨s, hs, rfl⟩, by simpa using h⟩
theorem trS_any (f : Int) (S : List Stp2) : anyS (trS f S) = pzB f S := funext fun x => by
  have : anyS (trS f S) x = true ↔ pzB f S x = true := by
    rw [anyS_iff, pzB_iff]
    constructor
    · rintro ⟨t, ht, h1, h2⟩
      obtain ⟨s, hs, rfl, h3⟩ := trS_mem.1 ht
      simp only at h1 h2
      exact ⟨by omega, s, hs, by omega, h2⟩
    · rintro ⟨h0, s, hs, h1, h2⟩
      exact ⟨_, trS_mem.2 ⟨s, hs, rfl, by omega⟩, by show max s.1 (f + 1) ≤ x; omega, h2⟩
  cases h1 : anyS (trS f S) x <;> cases h2 : pzB f S x <;> simp_all
theorem trS_len (f : Int) (S : List Stp2) : (trS f S).length ≤ S.length := by
  unfold trS
  have := List.length_filter_le (fun s : Stp2 => decide (s.1 < s.2)) (S.map fun s => (max s.1 (f + 1), s.2))
  rwa [List.length_map] at this
theorem trS_at {f : Int} {S : List Stp2} {k : Nat} {s : Stp2} (h : S[k]? = some s) : trS f (S.take (k + 1)) = trS f (S.take k) ++ (if max s.1 (f + 1) < s.2 then [(max s.1 (f + 1), s.2)] else []) := by
  obtain ⟨hk, hs⟩ := List.getElem?_eq_some_iff.1 h
  unfold trS
  rw [List.take_succ_eq_append_getElem hk, hs, List.map_append, List.filter_append]
  congr 1
  simp only [List.map_cons, List.map_nil, List.filter_cons, List.filter_nil, decide_eq_true_eq]
theorem anyS_perm {J K : List Stp2} (h : J.Perm K) : anyS J = anyS K := anyS_congr fun x => by
  rw [anyS_iff, anyS_iff]
  exact ⟨fun ⟨s, h1, h2⟩ => ⟨s, h.mem_iff.1 h1, h2⟩, fun ⟨s, h1, h2⟩ => ⟨s, h.mem_iff.2 h1, h2⟩⟩
theorem joinS_len (l : List Stp2) : (joinS l).length ≤ l.length := by
  have : ∀ (l J : List Stp2), (l.foldl joinStep J).length ≤ J.length + l.length := by
    intro l
    induction l with
    | nil => intro J; simp
    | cons s l ih =>
      intro J
      have h1 := ih (joinStep J s)
      have h2 := joinStep_len J s
      show (l.foldl joinStep (joinStep J s)).length ≤ _
      rw [List.length_cons]
      omega
  have h := this l []
  rw [List.length_nil, Nat.zero_add] at h
  exact h
theorem sep_mem : ∀ {J : List Stp2} {lo : Int} {s : Stp2}, Sep lo J → s ∈ J → lo < s.1 ∧ s.1 < s.2
  | [], _, _, _, h => by cases h
  | t :: J, lo, s, hs, h => by
    obtain ⟨h1, h2, h3⟩ := hs
    rcases List.mem_cons.1 h with rfl | h
    · exact ⟨h1, h2⟩
    · have := sep_mem h3 h
      exact ⟨by omega, this.2⟩

/-- A clock in memory: it stands at f, its stops are J. -/
def ClockAt (w : World) (g : Nat) (f : Int) (J : List Stp2) : Prop := ∃ A c, Blk w g 145 #[.int .i64 f, .slice A J.length c] ∧ StopsAt w w.heap.size A J
/-- What a clock of a limit is like. -/
def GoodJ (f : Int) (S J : List Stp2) : Prop := Sep f J ∧ anyS J = pzB f S ∧ J.length ≤ 60 ∧ ∀ s ∈ J, f < s.1 ∧ s.1 < s.2 ∧ s.2 ≤ 1000000
def StartPost (w : World) (f : Int) (S : List Stp2) (e : Ending) (w' : World) : Prop :=
  ∃ g J, e = .returned (.pointer (some ⟨g, 0, none⟩)) ∧ ClockAt w' g f J ∧ GoodJ f S J ∧ Below w.heap.size w w'
theorem good_of {f : Int} {S T : List Stp2} (hS : ∀ s ∈ S, psB s = true) (hl : S.length ≤ 60) (hp : T.Perm (trS f S)) (hs : T.Pairwise (fun a b => a.1 ≤ b.1)) : GoodJ f S (joinS T) := by
  have hT : ∀ s ∈ T, f < s.1 ∧ s.1 < s.2 := fun s h => by
    obtain ⟨t, ht, rfl, h2⟩ := trS_mem.1 (hp.mem_iff.1 h)
    exact ⟨by show f < max t.1 (f + 1); omega, h2⟩
  obtain ⟨h1, h2⟩ := join_good hT hs
  have h3 : anyS (joinS T) = pzB f S := by rw [h2, anyS_perm hp, trS_any]
  refine ⟨h1, h3, ?_, fun s hm => ?_⟩
  · have a := joinS_len T
    have b := trS_len f S
    have c := hp.length_eq
    omega
  · obtain ⟨a, b⟩ := sep_mem h1 hm
    refine ⟨a, b, ?_⟩
    have : anyS (joinS T) (s.2 - 1) = true := anyS_iff.2 ⟨s, hm, by omega, by omega⟩
    rw [h3] at this
    obtain ⟨_, t, ht, _, h4⟩ := pzB_iff.1 this
    have := psB_iff.1 (hS t ht)
    omega

theorem StopsAt.only {w w' : World} {B : Nat} {A : Option Addr} {S : List Stp2} {F : Foot} (h : StopsAt w B A S) (hO : Only F w w') (hB : B ≤ w.heap.size) (hn : ∀ a, A = some a → ¬ F a.block) : StopsAt w' B A S := fun i s hi => by
  obtain ⟨g, off, hA, hg, h1, h2⟩ := h i s hi
  have hb := hO.block g (by omega) (hn _ hA)
  have hc : ∀ o, w'.cell? ⟨g, o, none⟩ = w.cell? ⟨g, o, none⟩ := fun o => by simp only [World.cell?, hb]
  exact ⟨g, off, hA, hg, (hc _).trans h1, (hc _).trans h2⟩
theorem joinS_at {T : List Stp2} {k : Nat} {s : Stp2} (h : T[k]? = some s) : joinS (T.take (k + 1)) = joinStep (joinS (T.take k)) s := by
  obtain ⟨hk, hs⟩ := List.getElem?_eq_some_iff.1 h
  unfold joinS
  rw [List.take_succ_eq_append_getElem hk, hs, List.foldl_append]
  rfl

set_option maxHeartbeats 4000000 in
set_option maxRecDepth 100000 in
theorem start_any (w : World) (L : Lm) (B : Nat) (A : Option Addr) (c : Nat) (h : StopsAt w B A L.S) (hB : B ≤ w.heap.size) (hp : prB L = true) :
    Calls Tryz.prog 40 #[.agg (L.cells A c)] w (StartPost w L.f L.S) := by
  obtain ⟨i0, hi0, hz0, hz1, hz2⟩ := info_parts Tryz.infoStop
  obtain ⟨-, hf, -, hl, hS⟩ := prB_iff.1 hp
  clear hp
  obtain ⟨id, n, u, f, S⟩ := L
  show Calls Tryz.prog 40 #[.agg #[.string id, .int .i64 n, .int .i64 u, .int .i64 f, .slice A S.length c]] w (StartPost w f S)
  obtain ⟨f0, f1⟩ := (isB_iff f).1 hf
  simp only at hl hS h
  clear hf
  have HH := Lib.hid h
  have HS := Lib.hid hS
  clear h hS
  go_enter Tryz.func40, Tryz.ntmps40
  go_wp2_with fail
  have k0 := ((Blk.new w 66 #[.string id, .int .i64 n, .int .i64 u, .int .i64 f, .slice A S.length c]).alloc (.cells #[.int .i64 f, .slice none 0 0] 145)).alloc (.cells #[.pointer (some ⟨w.heap.size + 1, 0, none⟩)] 96)
  have kc := (Blk.new1 w (.cells #[.string id, .int .i64 n, .int .i64 u, .int .i64 f, .slice A S.length c] 66) 145 #[.int .i64 f, .slice none 0 0]).alloc (.cells #[.pointer (some ⟨w.heap.size + 1, 0, none⟩)] 96)
  have k3 := Blk.new2 w (.cells #[.string id, .int .i64 n, .int .i64 u, .int .i64 f, .slice A S.length c] 66) (.cells #[.int .i64 f, .slice none 0 0] 145) 96 #[.pointer (some ⟨w.heap.size + 1, 0, none⟩)]
  have hb := (((Below.refl w.heap.size w).alloc (Nat.le_refl _) (.cells #[.string id, .int .i64 n, .int .i64 u, .int .i64 f, .slice A S.length c] 66)).alloc (by simp) (.cells #[.int .i64 f, .slice none 0 0] 145)).alloc (by simp; omega) (.cells #[.pointer (some ⟨w.heap.size + 1, 0, none⟩)] 96)
  generalize ((w.alloc (.cells #[.string id, .int .i64 n, .int .i64 u, .int .i64 f, .slice A S.length c] 66)).alloc (.cells #[.int .i64 f, .slice none 0 0] 145)).alloc (.cells #[.pointer (some ⟨w.heap.size + 1, 0, none⟩)] 96) = w1 at *
  generalize hg0 : w.heap.size = g0 at *
  have hgc : g0 ≤ g0 + 1 := by omega
  have hg3 : g0 ≤ g0 + 1 + 1 := by omega
  generalize g0 + 1 + 1 = g3 at *
  generalize g0 + 1 = gc at *
  have HG := Lib.hid hg0
  clear hg0
  have ow0 : w1.ownsRow g0 102 2 (.slice none 0 0) 0 (stopCells (trS f (S.take 0))) := World.ownsRow_nil _ _ _ _
  go_loopw [4, 17] (fun v i wr => ∃ (k : Nat) (A4 : Option Addr) (c4 : Nat), k ≤ S.length ∧ i = .int .i64 (k : Int) ∧ v = .slice A4 (trS f (S.take k)).length c4 ∧ wr.ownsRow g0 102 2 (.slice A4 (trS f (S.take k)).length c4) (trS f (S.take k)).length (stopCells (trS f (S.take k))) ∧
    Blk wr g0 66 #[.string id, .int .i64 n, .int .i64 u, .int .i64 f, .slice A S.length c] ∧ Blk wr gc 145 #[.int .i64 f, .slice none 0 0] ∧ Blk wr g3 96 #[.pointer (some ⟨gc, 0, none⟩)] ∧ Below g0 w wr) (fun _ i _ => S.length - (intOf i).toNat)
  case atStart => exact ⟨0, none, 0, Nat.zero_le _, rfl, rfl, ow0, k0, kc, k3, hb⟩
  case round =>
    clear ow0 k0 kc k3 hb
    obtain ⟨k, A4, c4, hk, rfl, rfl, own, k0, kc, k3, hb⟩ := hrel
    by_cases hlt : k < S.length
    · obtain ⟨s, hs⟩ : ∃ s, S[k]? = some s := ⟨_, List.getElem?_eq_getElem hlt⟩
      obtain ⟨gb, off, hA, hg, e0, e1⟩ := (HH.out.below (hb.mono hB)) k s hs
      subst hA
      obtain ⟨p0, p1, p2⟩ := psB_iff.1 (HS.out s (List.mem_of_getElem? hs))
      have HT := Lib.hid (trS_at (f := f) hs)
      clear hs
      obtain ⟨a, b⟩ := s
      simp only at p0 p1 p2 e0 e1
      obtain ⟨z, hz⟩ : ∃ z, z = max a (f + 1) := ⟨_, rfl⟩
      have hzb : 0 ≤ z ∧ z ≤ 1000001 := by omega
      have rm := fun ts ty W => run_max2 (P := Tryz.prog) a (f + 1) z hz ts ty W
      have hT := HT.out
      simp only [← hz] at hT
      have HZ := Lib.hid hz
      clear hz HT
      obtain ⟨q0, q1, q2⟩ := k0.all
      by_cases hzb2 : z < b
      · rw [if_pos hzb2] at hT
        have HT := Lib.hid hT
        clear hT
        have htl := trS_len f (S.take k)
        have htk : (S.take k).length ≤ k := List.length_take_le _ _
        have ownP := (own.alloc (.cells #[.int .i64 z, .int .i64 b] 102)).alloc (.cells #[.int .i64 z, .int .i64 b] 102)
        have kn := Blk.new1 wr (.cells #[.int .i64 z, .int .i64 b] 102) 102 #[.int .i64 z, .int .i64 b]
        have hbP := (hb.alloc (by omega) (.cells #[.int .i64 z, .int .i64 b] 102)).alloc (by simp; omega) (.cells #[.int .i64 z, .int .i64 b] 102)
        have k0P := (k0.alloc (.cells #[.int .i64 z, .int .i64 b] 102)).alloc (.cells #[.int .i64 z, .int .i64 b] 102)
        have kcP := (kc.alloc (.cells #[.int .i64 z, .int .i64 b] 102)).alloc (.cells #[.int .i64 z, .int .i64 b] 102)
        have k3P := (k3.alloc (.cells #[.int .i64 z, .int .i64 b] 102)).alloc (.cells #[.int .i64 z, .int .i64 b] 102)
        generalize hTL : (trS f (S.take k)).length = tl at *
        go_wp2_with (at_builtin; refine wpList_append_lies _ rfl _ _ 64 rfl g0 102 i0 _ 2 16 Tryz.underlying64 hi0 hz0 hz1 hz2 rfl (by omega) (.slice A4 tl c4) tl _ rfl ownP ⟨wr.heap.size + 1, 0, none⟩ 1 1 [.int .i64 z, .int .i64 b] rfl rfl (World.news_of_block kn) (stopCells_one [(z, b)]) (by omega) (by unfold maxLen; omega) (by omega) (by simp; omega) (wr.heap.size + 2) (by simp) ?_; intro gz cz Y own9 gr9 l9 z9)
        have k0Y := k0P.grown gr9 (fun he => own_blk_ne ownP k0P (by decide) he.symm)
        have kcY := kcP.grown gr9 (fun he => own_blk_ne ownP kcP (by decide) he.symm)
        have k3Y := k3P.grown gr9 (fun he => own_blk_ne ownP k3P (by decide) he.symm)
        have hbY := hbP.grown gr9 (by simp; omega) (fun x hx => (ownP.lt x hx).1)
        have hlen : (trS f (S.take (k + 1))).length = tl + 1 := by rw [HT.out]; simp [hTL]
        have hcl : stopCells (trS f (S.take (k + 1))) = stopCells (trS f (S.take k)) ++ [.int .i64 z, .int .i64 b] := by rw [HT.out, stopCells_app]; rfl
        clear k0P kcP k3P hbP gr9 ownP kn own k0 kc k3 hb q0 q1 q2 e0 e1
        go_roundw
        case rel => exact ⟨k + 1, some ⟨gz, 0, none⟩, cz, by omega, by go_num, by rw [hlen], by rw [hlen, hcl]; exact own9, k0Y, kcY, k3Y, hbY⟩
        case measure => simp [intOf]; omega
      · rw [if_neg hzb2, List.append_nil] at hT
        have HT := Lib.hid hT
        clear hT
        have hbP := hb.alloc (by omega) (.cells #[.int .i64 z, .int .i64 b] 102)
        have k0P := k0.alloc (.cells #[.int .i64 z, .int .i64 b] 102)
        have kcP := kc.alloc (.cells #[.int .i64 z, .int .i64 b] 102)
        have k3P := k3.alloc (.cells #[.int .i64 z, .int .i64 b] 102)
        have ownP := own.alloc (.cells #[.int .i64 z, .int .i64 b] 102)
        go_wp2
        go_roundw
        case rel => exact ⟨k + 1, A4, c4, by omega, by go_num, by rw [HT.out], by rw [HT.out]; exact ownP, k0P, kcP, k3P, hbP⟩
        case measure => simp [intOf]; omega
    · obtain rfl : k = S.length := by omega
      rw [List.take_length] at own
      have htl := trS_len f S
      have hts : ∀ t ∈ trS f S, -4000000 ≤ t.1 ∧ t.1 ≤ 4000000 := fun t ht => by
        obtain ⟨s, hs, rfl, h2⟩ := trS_mem.1 ht
        obtain ⟨p0, p1, p2⟩ := psB_iff.1 (HS.out s hs)
        show -4000000 ≤ max s.1 (f + 1) ∧ max s.1 (f + 1) ≤ 4000000
        omega
      have HTS := Lib.hid hts
      have hgood : ∀ T' : List Stp2, T'.Perm (trS f S) → T'.Pairwise (fun a b => a.1 ≤ b.1) → GoodJ f S (joinS T') := fun T' h1 h2 => good_of HS.out hl h1 h2
      have HGD := Lib.hid hgood
      clear hts hgood
      go_wp2_with fail
      refine (sort_any wr g0 c4 A4 (trS f S) HTS.out (by omega) own).mono ?_
      rintro e w2 ⟨rfl, T, hperm, hpw, hst, hO⟩
      have hTl := hperm.length_eq
      have kc2 := hO.blk kc (fun ⟨a, ha, he⟩ => own_blk_ne own kc (by decide) (by rw [ha, he]; rfl))
      have k32 := hO.blk k3 (fun ⟨a, ha, he⟩ => own_blk_ne own k3 (by decide) (by rw [ha, he]; rfl))
      have hA4 : ∀ a, A4 = some a → a.block ≠ gc := fun a ha he => own_blk_ne own kc (by decide) (by rw [ha, ← he]; rfl)
      have hb2 := hb.trans (hO.below (B := g0) (Nat.le_of_lt k0.lt) (fun i ⟨a, ha, he⟩ => by rw [he]; exact (own.lt a.block (by rw [ha]; rfl)).1))
      have HGJ := Lib.hid (HGD.out T hperm hpw)
      have HA4 := Lib.hid hA4
      clear HGD HTS hO own kc k3 k0 hb hA4 hperm hpw
      go_wp2_with fail
      generalize hTT : (trS f S).length = tl at *
      have hTT2 : T.length ≤ 60 := by omega
      clear hTT
      have hg2 : g0 ≤ w2.heap.size := Nat.le_trans hgc (Nat.le_of_lt kc2.lt)
      have ow2 : w2.ownsRow w2.heap.size 102 2 (.slice none 0 0) 0 (stopCells (joinS (T.take 0))) := World.ownsRow_nil _ _ _ _
      generalize hgg : w2.heap.size = g2 at hst hg2 ow2
      have hgs : g2 ≤ w2.heap.size := by omega
      have ht1 : T.length ≤ tl := by omega
      have ht2 : tl ≤ T.length := by omega
      clear hgg hTl
      go_loopw [43] (fun i wx => ∃ (k : Nat) (A5 : Option Addr) (c5 : Nat), k ≤ tl ∧ i = .int .i64 (k : Int) ∧ Blk wx gc 145 #[.int .i64 f, .slice A5 (joinS (T.take k)).length c5] ∧ wx.ownsRow g2 102 2 (.slice A5 (joinS (T.take k)).length c5) (joinS (T.take k)).length (stopCells (joinS (T.take k))) ∧
        Blk wx g3 96 #[.pointer (some ⟨gc, 0, none⟩)] ∧ (∀ a, A5 = some a → g2 ≤ a.block) ∧ StopsAt wx g2 A4 T ∧ g2 ≤ wx.heap.size ∧ Below g0 w wx) (fun i _ => tl - (intOf i).toNat)
      case atStart => exact ⟨0, none, 0, Nat.zero_le _, rfl, kc2, ow2, k32, fun a ha => (by cases ha), hst, hgs, hb2⟩
      case round =>
        clear ow2 hst kc2 k32 hb2 hgs
        obtain ⟨k, A5, c5, hk5, rfl, kc, own, k3, hA5, hst, hsz, hb⟩ := hrel
        by_cases hlt5 : k < tl
        · obtain ⟨t, ht⟩ : ∃ t, T[k]? = some t := ⟨_, List.getElem?_eq_getElem (by omega)⟩
          obtain ⟨gb, off, hA, hg, e0, e1⟩ := hst k t ht
          subst hA
          have HJ := Lib.hid (joinS_at ht)
          have hjl := joinS_len (T.take k)
          have htk : (T.take k).length ≤ k := List.length_take_le _ _
          clear ht
          obtain ⟨a, b⟩ := t
          simp only at e0 e1
          have kc1 := kc.alloc (.cells #[.int .i64 a, .int .i64 b] 102)
          have k31 := k3.alloc (.cells #[.int .i64 a, .int .i64 b] 102)
          have own1 := own.alloc (.cells #[.int .i64 a, .int .i64 b] 102)
          have hb1 := hb.alloc (by omega) (.cells #[.int .i64 a, .int .i64 b] 102)
          have hst1 := hst.below ((Below.refl g2 wr).alloc hsz (.cells #[.int .i64 a, .int .i64 b] 102))
          have hsz1 : g2 ≤ (wr.alloc (.cells #[.int .i64 a, .int .i64 b] 102)).heap.size := by simp; omega
          go_wp2_with fail
          clear kc k3 own hb hst e0 e1
          generalize wr.alloc (.cells #[.int .i64 a, .int .i64 b] 102) = w3 at *
          refine (join_any w3 g2 g3 gc c5 f (joinS (T.take k)) (a, b) A5 k31 kc1 own1 (by omega) hsz1).mono ?_
          rintro e w4 ⟨rfl, A6, c6, kc6, own6, hO, hA6⟩
          have k36 := hO.blk k31 (fun hF => by
            rcases hF with h1 | ⟨y, hy, h1⟩
            · exact Blk.ne_ k31 kc1 (by decide) h1
            · exact own_blk_ne own1 k31 (by decide) (by rw [hy, h1]; rfl))
          have hst6 := hst1.only hO hsz1 (fun y hy hF => by
            rcases hF with h1 | ⟨v, hv, h1⟩
            · exact HA4.out y hy h1
            · injection hy with hy
              have := hA5 v hv
              rw [← hy] at h1
              simp only at h1
              omega)
          have hb6 := hb1.trans (hO.below (B := g0) (by omega) (fun y hF => by
            rcases hF with h1 | ⟨v, hv, h1⟩
            · omega
            · have := hA5 v hv; omega))
          have hsz6 := Nat.le_trans hsz1 hO.size
          clear kc1 k31 own1 hO hst1 hb1 hA5
          go_wp2
          go_roundw
          case rel => exact ⟨k + 1, A6, c6, by omega, by go_num, by rw [HJ.out]; exact kc6, by rw [HJ.out]; exact own6, k36, hA6, hst6, hsz6, hb6⟩
          case measure => simp [intOf]; omega
        · obtain rfl : k = tl := by omega
          have hTk : T.take k = T := List.take_of_length_le (by omega)
          rw [hTk] at kc own
          obtain ⟨x0, x1, x2⟩ := k3.all
          have hs2 := StopsAt.of_own own
          have HGJ2 := HGJ.out
          clear hst hA5 own hTk
          go_wp2
          go_ret
          exact ⟨gc, joinS T, rfl, ⟨A5, c5, kc, hs2⟩, HGJ2, by rw [HG.out]; exact hb⟩
end Go.Proofs.YtebdkmlganalaaaGreatDoor

namespace Go.Proofs.YtebdkmlganalaaaGreatDoor
open Go.RowKit Go.Shelf

theorem aftJ_app (n : Int) : ∀ (J K : List Stp2) (d : Int), aftJ n (J ++ K) d = aftJ n K (aftJ n J d)
  | [], _, _ => rfl
  | _ :: J, K, _ => aftJ_app n J K _
theorem aftJ_at {n : Int} {J : List Stp2} {k : Nat} {s : Stp2} (h : J[k]? = some s) (d : Int) :
    aftJ n (J.take (k + 1)) d = if s.1 ≤ aftJ n (J.take k) d ∧ 0 < n then aftJ n (J.take k) d + (s.2 - s.1) else aftJ n (J.take k) d := by
  obtain ⟨hk, hs⟩ := List.getElem?_eq_some_iff.1 h
  rw [List.take_succ_eq_append_getElem hk, hs, aftJ_app]
  rfl

set_option maxHeartbeats 1000000 in
theorem after_any (w : World) (g : Nat) (f n : Int) (J : List Stp2) (h : ClockAt w g f J) (f0 : 0 ≤ f) (f1 : f ≤ 1000000) (n0 : 0 ≤ n) (n1 : n ≤ 1000000) (hl : J.length ≤ 60) (hJ : ∀ s ∈ J, f < s.1 ∧ s.1 < s.2 ∧ s.2 ≤ 1000000) :
    Calls Tryz.prog 42 #[.pointer (some ⟨g, 0, none⟩), .int .i64 n] w fun e w' => e = .returned (.int .i64 (aftJ n J (f + n))) ∧ Below w.heap.size w w' := by
  obtain ⟨A, c, hk, hs⟩ := h
  have HS := Lib.hid hs
  have HJ := Lib.hid hJ
  clear hs hJ
  obtain ⟨x0, x1, x2⟩ := hk.all
  go_enter Tryz.func42, Tryz.ntmps42
  go_wp2_with fail
  clear x0 x1 hk
  go_loopw [5, 19] (fun v i wr => ∃ (k : Nat) (d : Int), k ≤ J.length ∧ i = .int .i64 (k : Int) ∧ v = .int .i64 d ∧ Hid (d = aftJ n (J.take k) (f + n)) ∧ 0 ≤ d ∧ d ≤ 2000000 + 1000000 * (k : Int) ∧ Below w.heap.size w wr) (fun _ i _ => J.length - (intOf i).toNat)
  case atStart => exact ⟨0, f + n, Nat.zero_le _, rfl, rfl, Lib.hid rfl, by omega, by omega, Below.refl _ _⟩
  case round =>
    obtain ⟨k, d, hk, rfl, rfl, hd, d0, d1, hb⟩ := hrel
    by_cases hlt : k < J.length
    · obtain ⟨s, hs⟩ : ∃ s, J[k]? = some s := ⟨_, List.getElem?_eq_getElem hlt⟩
      obtain ⟨gb, off, hA, hg, e0, e1⟩ := (HS.out.below hb) k s hs
      subst hA
      obtain ⟨j0, j1, j2⟩ := HJ.out s (List.mem_of_getElem? hs)
      have hat := aftJ_at (n := n) hs (f + n)
      rw [← hd.out] at hat
      clear hs
      obtain ⟨a, b⟩ := s
      simp only at hat j0 j1 j2 e0 e1
      have hb2 := hb.alloc hb.size (.cells #[.int .i64 a, .int .i64 b] 102)
      by_cases hc : a ≤ d
      · by_cases hn : 0 < n
        · rw [if_pos ⟨hc, hn⟩] at hat
          have HAT := Lib.hid hat.symm
          clear hat
          go_wp2
          go_roundw
          case rel => exact ⟨k + 1, d + (b - a), by omega, by go_num, by go_num, HAT, by omega, by omega, hb2⟩
          case measure => simp [intOf]; omega
        · rw [if_neg (fun h => hn h.2)] at hat
          have HAT := Lib.hid hat.symm
          clear hat
          go_wp2
          go_roundw
          case rel => exact ⟨k + 1, d, by omega, by go_num, rfl, HAT, by omega, by omega, hb2⟩
          case measure => simp [intOf]; omega
      · rw [if_neg (fun h => hc h.1)] at hat
        have HAT := Lib.hid hat.symm
        clear hat
        go_wp2
        go_roundw
        case rel => exact ⟨k + 1, d, by omega, by go_num, rfl, HAT, by omega, by omega, hb2⟩
        case measure => simp [intOf]; omega
    · obtain rfl : k = J.length := by omega
      have hdd := hd.out
      rw [List.take_length] at hdd
      have HD := Lib.hid hdd
      clear hdd hd
      go_wp2
      go_ret
      exact ⟨by rw [← HD.out]; rfl, hb⟩

theorem inst_any (W : World) (b : Nat) (day : Int) (s : Stp2) (hc : W.cell? ⟨b, 0, none⟩ = some (.int .i64 day)) :
    Calls Tryz.prog 87 (#[.agg (encStop s).toArray] ++ #[.pointer (some ⟨b, 0, none⟩)]) W fun e w' => e = .returned (.bool (inS s day)) ∧ Below W.heap.size W w' := by
  obtain ⟨x, y⟩ := s
  show Calls Tryz.prog 87 #[.agg #[.int .i64 x, .int .i64 y], .pointer (some ⟨b, 0, none⟩)] W fun e w' => e = .returned (.bool (decide (x ≤ day) && decide (day < y))) ∧ Below W.heap.size W w'
  have hlt := World.block_lt_of_cell? W ⟨b, 0, none⟩ hc
  have hc2 := ((Below.refl W.heap.size W).alloc (Nat.le_refl _) (.cells #[.int .i64 x, .int .i64 y] 102)).cell (p := ⟨b, 0, none⟩) hlt
  rw [hc] at hc2
  have hb := (Below.refl W.heap.size W).alloc (Nat.le_refl _) (.cells #[.int .i64 x, .int .i64 y] 102)
  by_cases h1 : x ≤ day
  · have d1 : decide (x ≤ day) = true := decide_eq_true h1
    rw [d1, Bool.true_and]
    go_enter Tryz.func87, Tryz.ntmps87
    go_wp2
    go_ret
    exact ⟨rfl, hb⟩
  · have d1 : decide (x ≤ day) = false := decide_eq_false h1
    rw [d1, Bool.false_and]
    go_enter Tryz.func87, Tryz.ntmps87
    go_wp2
    go_ret
    exact ⟨rfl, hb⟩

theorem paused_any (w : World) (g : Nat) (f day : Int) (J : List Stp2) (h : ClockAt w g f J) (hl : J.length ≤ 60) :
    Calls Tryz.prog 43 #[.pointer (some ⟨g, 0, none⟩), .int .i64 day] w fun e w' => e = .returned (.bool (anyS J day)) ∧ Below w.heap.size w w' := by
  have eg : ∀ args w, (callFunc 87 args).run Tryz.prog w = .ok (.enter 87 args) w := enters_of Tryz.func87 (by kernel_rfl) rfl
  obtain ⟨A, c, hk, hs⟩ := h
  have hk1 := hk.alloc (.cells #[.int .i64 day] 3)
  have hb := (Below.refl w.heap.size w).alloc (Nat.le_refl _) (.cells #[.int .i64 day] 3)
  have hs1 := hs.below hb
  have kd := Blk.new w 3 #[.int .i64 day]
  have hcon := contains_any (w.alloc (.cells #[.int .i64 day] 3)) w.heap.size A J c hs1 (by simp) (by omega) (fun s => inS s day) 87 #[.pointer (some ⟨w.heap.size, 0, none⟩)] eg
    (fun W s hW => inst_any W w.heap.size day s ((hW.cell (p := ⟨w.heap.size, 0, none⟩) kd.lt).trans (by rw [kd.cell 0]; rfl)))
  have e1 : (J.any fun s => inS s day) = anyS J day := rfl
  rw [e1] at hcon
  generalize anyS J day = r at *
  have HCON := Lib.hid hcon
  clear hcon e1 eg hs hs1
  obtain ⟨x0, x1, x2⟩ := hk1.all
  go_enter Tryz.func43, Tryz.ntmps43
  go_wp2_with fail
  refine HCON.out.mono ?_
  rintro e w1 ⟨rfl, b⟩
  replace hb := hb.trans (b.mono (by simp))
  clear b x0 x1 HCON
  go_wp2
  go_ret
  exact ⟨rfl, hb⟩
end Go.Proofs.YtebdkmlganalaaaGreatDoor

namespace Go.Proofs.YtebdkmlganalaaaGreatDoor
open Go.RowKit Go.ChangeShapes Go.WideShapes Go.Deep

section
variable {H : Type} {enc : TypeId × Value → H} {P : Program} {w : World} {base : Nat} {spare : Nat → Bool} {held : Bool}

theorem spot_none {w : World} {a : Addr} {k : Nat} {v : Value} (h : w.cell? (a.add k) = some v) : a.add k = ⟨a.block, a.off + k, none⟩ := by
  have hs := World.cell?_spot h
  obtain ⟨b, o, s⟩ := a
  by_cases h0 : k = 0
  · subst h0
    have : s = none := by simpa [Addr.add] using hs
    subst this
    simp [Addr.add]
  · simp [Addr.add, h0]

theorem slice_len {t e : TypeId} {fuel len cap : Nat} {A : Option Addr} {x : DataW H × List MemPlace} (ht : P.underlying t = some (.slice e)) (h : DataW.trod enc P w base spare held fuel t [.slice A len cap] = some x) :
    len ≤ 9223372036854775807 := by
  rcases open_slice ht h with ⟨h0, _⟩ | ⟨a, len', cap', m, n, D, Pl, hcs, hb, hl, hm, _⟩
  · injection h0 with h0
    injection h0 with _ h1 _
    omega
  · injection hcs with hcs _
    injection hcs with hA hle hca
    subst hA hle hca
    unfold maxLen at hm
    omega

/-- The elements of a slice of structs, cell by cell. -/
theorem slice_structs {t e : TypeId} {fs : Array Field} {fuel len cap : Nat} {A : Option Addr} {x : DataW H × List MemPlace} (ht : P.underlying t = some (.slice e)) (he : P.underlying e = some (.struct fs))
    (hone : oneCellFields P fs = true) (hC : P.cellsOf e = fs.size) (h : DataW.trod enc P w base spare held fuel t [.slice A len cap] = some x) :
    ∀ i, i < len → ∃ (a : Addr) (n : Nat) (vs : List Value), A = some a ∧ vs.length = fs.size ∧ (∀ j v, vs[j]? = some v → w.cell? ⟨a.block, a.off + i * fs.size + j, none⟩ = some v ∧ a.block < w.heap.size) ∧
      (0 < fs.size → a.spot = none) ∧
      ∀ (j : Nat) (f : Field), fs[j]? = some f → ∃ v y, vs[j]? = some v ∧ DataW.trod enc P w base spare held n f.type [v] = some y := by
  intro i hi
  rcases open_slice ht h with ⟨h0, _⟩ | ⟨a, len', cap', m, n, D, Pl, hcs, hb, hl, hm, hmm, hx, hall⟩
  · injection h0 with h0
    injection h0 with _ h1 _
    omega
  · injection hcs with hcs _
    injection hcs with hA hle hca
    subst hA hle hca
    obtain ⟨cs', hc, ht'⟩ := hall i (by rw [hmm]; split <;> omega)
    rw [hC] at hc
    obtain ⟨ys, n', _, _, hlen, hyl, hf⟩ := DataW.trod_struct he ht'
    obtain ⟨_, hcl, hat⟩ := World.cells?_some hc
    have hcell : ∀ j v, cs'[j]? = some v → w.cell? ((a.add (i * fs.size)).add j) = some v := fun j v hv => by
      have hj : j < fs.size := by rw [← hcl]; exact (List.getElem?_eq_some_iff.1 hv).1
      rw [hat j hj, hv]
    refine ⟨a, n', cs', rfl, hcl, fun j v hv => ?_, fun h0 => ?_, fun j f hj => ?_⟩
    · have h1 := hcell j v hv
      rw [Go.Deep.add_add] at h1
      have h2 := spot_none h1
      rw [h2] at h1
      have h3 : a.off + (i * fs.size + j) = a.off + i * fs.size + j := by omega
      rw [h3] at h1
      refine ⟨h1, ?_⟩
      exact World.block_lt_of_cell? w ⟨a.block, a.off + i * fs.size + j, none⟩ h1
    · obtain ⟨cs0, hc0, _⟩ := hall 0 (by rw [hmm]; split <;> omega)
      rw [hC] at hc0
      obtain ⟨_, hcl0, hat0⟩ := World.cells?_some hc0
      have h1 := hat0 0 h0
      rw [List.getElem?_eq_getElem (by omega)] at h1
      rw [Go.Deep.add_add] at h1
      simpa [Addr.add] using World.cell?_spot h1
    · obtain ⟨ho, hk⟩ := hone_of hone j f hj
      have hjl : j < fs.size := (Array.getElem?_eq_some_iff.1 hj).1
      have h1 := hf j f hj
      rw [ho, hk] at h1
      have h2 : (cs'.drop j).take 1 = [cs'[j]'(by omega)] := by
        rw [List.drop_eq_getElem_cons (by omega)]
        rfl
      rw [h2] at h1
      exact ⟨_, ys[j]'(by omega), List.getElem?_eq_getElem (by omega), h1.trans (List.getElem?_eq_getElem (by omega))⟩
end

/-- A list made element by element. -/
theorem list_of {α : Type} {p : Nat → α → Prop} (n : Nat) (h : ∀ i, i < n → ∃ a, p i a) : ∃ l : List α, l.length = n ∧ ∀ i a, l[i]? = some a → p i a := by
  induction n with
  | zero => exact ⟨[], rfl, fun i a hi => by simp at hi⟩
  | succ n ih =>
    obtain ⟨l, hl, hp⟩ := ih (fun i hi => h i (by omega))
    obtain ⟨a, ha⟩ := h n (by omega)
    refine ⟨l ++ [a], by simp [hl], fun i b hi => ?_⟩
    rcases Nat.lt_or_ge i l.length with h1 | h1
    · rw [List.getElem?_append_left h1] at hi
      exact hp i b hi
    · have : i = l.length := by
        have := (List.getElem?_eq_some_iff.1 hi).1
        simp at this
        omega
      subst this
      simp at hi
      subst hi
      rw [hl]
      exact ha
end Go.Proofs.YtebdkmlganalaaaGreatDoor
