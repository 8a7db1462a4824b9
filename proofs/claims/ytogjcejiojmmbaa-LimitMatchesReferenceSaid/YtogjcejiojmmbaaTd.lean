/- start: the clock of a limit. -/
import Derived.Test.YtogjcejiojmmbaaTc
namespace Go.Proofs.Ytogjcejiojmmbaa
open Go.RowKit Go.Shelf

/-- The stops behind f. -/
def trS (f : Int) (S : List Stp2) : List Stp2 := (S.map fun s => (max s.1 (f + 1), s.2)).filter fun s => decide (s.1 < s.2)
/-- Paused days of a limit. -/
def pzB (f : Int) (S : List Stp2) (x : Int) : Bool := decide (f < x) && anyS S x
theorem pzB_iff {f : Int} {S : List Stp2} {x : Int} : pzB f S x = true ↔ f < x ∧ ∃ s ∈ S, s.1 ≤ x ∧ x < s.2 := by
  unfold pzB
  rw [Bool.and_eq_true, decide_eq_true_eq, anyS_iff]
theorem trS_mem {f : Int} {S : List Stp2} {t : Stp2} : t ∈ trS f S ↔ ∃ s ∈ S, t = (max s.1 (f + 1), s.2) ∧ max s.1 (f + 1) < s.2 := by
  unfold trS
  rw [List.mem_filter, List.mem_map]
  constructor
  · rintro ⟨⟨s, hs, rfl⟩, h⟩
    exact ⟨s, hs, rfl, by simpa using h⟩
  · rintro ⟨s, hs, rfl, h⟩
    exact ⟨⟨s, hs, rfl⟩, by simpa using h⟩
theorem trS_any (f : Int) (S : List Stp2) : anyS (trS f S) = pzB f S := funext fun x => by
  have : anyS (trS f S) x = true ↔ pzB f S x = true := by
    rw [anyS_iff, pzB_iff]
    constructor
    · rintro ⟨t, ht, h1, h2⟩
      obtain ⟨s, hs, rfl, h3⟩ := trS_mem.1 ht
      simp only at h1 h2
      exact ⟨by omega, s, hs, by omega, h2⟩
    · rintro ⟨h0, s, hs, h1, h2⟩
      exact ⟨_, trS_mem.2 ⟨s, hs, rfl, by omega⟩, by show max s.1 (f + 1) ≤ x; omega, h2⟩
  cases h1 : anyS (trS f S) x <;> cases h2 : pzB f S x <;> simp_all
theorem trS_len (f : Int) (S : List Stp2) : (trS f S).length ≤ S.length := by
  unfold trS
  have := List.length_filter_le (fun s : Stp2 => decide (s.1 < s.2)) (S.map fun s => (max s.1 (f + 1), s.2))
  rwa [List.length_map] at this
theorem trS_at {f : Int} {S : List Stp2} {k : Nat} {s : Stp2} (h : S[k]? = some s) : trS f (S.take (k + 1)) = trS f (S.take k) ++ (if max s.1 (f + 1) < s.2 then [(max s.1 (f + 1), s.2)] else []) := by
  obtain ⟨hk, hs⟩ := List.getElem?_eq_some_iff.1 h
  unfold trS
  rw [List.take_succ_eq_append_getElem hk, hs, List.map_append, List.filter_append]
  congr 1
  simp only [List.map_cons, List.map_nil, List.filter_cons, List.filter_nil, decide_eq_true_eq]
theorem anyS_perm {J K : List Stp2} (h : J.Perm K) : anyS J = anyS K := anyS_congr fun x => by
  rw [anyS_iff, anyS_iff]
  exact ⟨fun ⟨s, h1, h2⟩ => ⟨s, h.mem_iff.1 h1, h2⟩, fun ⟨s, h1, h2⟩ => ⟨s, h.mem_iff.2 h1, h2⟩⟩
theorem joinS_len (l : List Stp2) : (joinS l).length ≤ l.length := by
  have : ∀ (l J : List Stp2), (l.foldl joinStep J).length ≤ J.length + l.length := by
    intro l
    induction l with
    | nil => intro J; simp
    | cons s l ih =>
      intro J
      have h1 := ih (joinStep J s)
      have h2 := joinStep_len J s
      show (l.foldl joinStep (joinStep J s)).length ≤ _
      rw [List.length_cons]
      omega
  have h := this l []
  rw [List.length_nil, Nat.zero_add] at h
  exact h
theorem sep_mem : ∀ {J : List Stp2} {lo : Int} {s : Stp2}, Sep lo J → s ∈ J → lo < s.1 ∧ s.1 < s.2
  | [], _, _, _, h => by cases h
  | t :: J, lo, s, hs, h => by
    obtain ⟨h1, h2, h3⟩ := hs
    rcases List.mem_cons.1 h with rfl | h
    · exact ⟨h1, h2⟩
    · have := sep_mem h3 h
      exact ⟨by omega, this.2⟩

/-- A clock in memory: it stands at f, its stops are J. -/
def ClockAt (w : World) (g : Nat) (f : Int) (J : List Stp2) : Prop := ∃ A c, Blk w g 57 #[.int .i64 f, .slice A J.length c] ∧ StopsAt w w.heap.size A J
/-- What a clock of a limit is like. -/
def GoodJ (f : Int) (S J : List Stp2) : Prop := Sep f J ∧ anyS J = pzB f S ∧ J.length ≤ 60 ∧ ∀ s ∈ J, f < s.1 ∧ s.1 < s.2 ∧ s.2 ≤ 1000000
def StartPost (w : World) (f : Int) (S : List Stp2) (e : Ending) (w' : World) : Prop :=
  ∃ g J, e = .returned (.pointer (some ⟨g, 0, none⟩)) ∧ ClockAt w' g f J ∧ GoodJ f S J ∧ Below w.heap.size w w'
theorem good_of {f : Int} {S T : List Stp2} (hS : ∀ s ∈ S, psB s = true) (hl : S.length ≤ 60) (hp : T.Perm (trS f S)) (hs : T.Pairwise (fun a b => a.1 ≤ b.1)) : GoodJ f S (joinS T) := by
  have hT : ∀ s ∈ T, f < s.1 ∧ s.1 < s.2 := fun s h => by
    obtain ⟨t, ht, rfl, h2⟩ := trS_mem.1 (hp.mem_iff.1 h)
    exact ⟨by show f < max t.1 (f + 1); omega, h2⟩
  obtain ⟨h1, h2⟩ := join_good hT hs
  have h3 : anyS (joinS T) = pzB f S := by rw [h2, anyS_perm hp, trS_any]
  refine ⟨h1, h3, ?_, fun s hm => ?_⟩
  · have a := joinS_len T
    have b := trS_len f S
    have c := hp.length_eq
    omega
  · obtain ⟨a, b⟩ := sep_mem h1 hm
    refine ⟨a, b, ?_⟩
    have : anyS (joinS T) (s.2 - 1) = true := anyS_iff.2 ⟨s, hm, by omega, by omega⟩
    rw [h3] at this
    obtain ⟨_, t, ht, _, h4⟩ := pzB_iff.1 this
    have := psB_iff.1 (hS t ht)
    omega

theorem StopsAt.only {w w' : World} {B : Nat} {A : Option Addr} {S : List Stp2} {F : Foot} (h : StopsAt w B A S) (hO : Only F w w') (hB : B ≤ w.heap.size) (hn : ∀ a, A = some a → ¬ F a.block) : StopsAt w' B A S := fun i s hi => by
  obtain ⟨g, off, hA, hg, h1, h2⟩ := h i s hi
  have hb := hO.block g (by omega) (hn _ hA)
  have hc : ∀ o, w'.cell? ⟨g, o, none⟩ = w.cell? ⟨g, o, none⟩ := fun o => by simp only [World.cell?, hb]
  exact ⟨g, off, hA, hg, (hc _).trans h1, (hc _).trans h2⟩
theorem StopsAt.of_own {w : World} {base cap : Nat} {A : Option Addr} {J : List Stp2} (h : w.ownsRow base 28 2 (.slice A J.length cap) J.length (stopCells J)) : StopsAt w w.heap.size A J := by
  rcases Nat.eq_zero_or_pos J.length with h0 | h0
  · rw [List.eq_nil_of_length_eq_zero h0]
    exact StopsAt.nil _ _ _
  · obtain ⟨g, cap', hv, _, hg⟩ := h.form h0
    injection hv with hA _ hcap
    subst hA hcap
    exact StopsAt.of_row rfl h hg
theorem joinS_at {T : List Stp2} {k : Nat} {s : Stp2} (h : T[k]? = some s) : joinS (T.take (k + 1)) = joinStep (joinS (T.take k)) s := by
  obtain ⟨hk, hs⟩ := List.getElem?_eq_some_iff.1 h
  unfold joinS
  rw [List.take_succ_eq_append_getElem hk, hs, List.foldl_append]
  rfl

set_option maxHeartbeats 4000000 in
set_option maxRecDepth 100000 in
theorem start_any (w : World) (L : Lm) (B : Nat) (A : Option Addr) (c : Nat) (h : StopsAt w B A L.S) (hB : B ≤ w.heap.size) (hp : prB L = true) :
    Calls Try.prog 29 #[.agg (L.cells A c)] w (StartPost w L.f L.S) := by
  obtain ⟨i0, hi0, hz0, hz1, hz2⟩ := info_parts Try.infoStop
  obtain ⟨-, hf, -, hl, hS⟩ := prB_iff.1 hp
  clear hp
  obtain ⟨id, n, u, f, S⟩ := L
  show Calls Try.prog 29 #[.agg #[.string id, .int .i64 n, .int .i64 u, .int .i64 f, .slice A S.length c]] w (StartPost w f S)
  obtain ⟨f0, f1⟩ := (isB_iff f).1 hf
  simp only at hl hS h
  clear hf
  have HH := Lib.hid h
  have HS := Lib.hid hS
  clear h hS
  go_enter Try.func29, Try.ntmps29
  go_wp2_with fail
  have k0 := ((Blk.new w 26 #[.string id, .int .i64 n, .int .i64 u, .int .i64 f, .slice A S.length c]).alloc (.cells #[.int .i64 f, .slice none 0 0] 57)).alloc (.cells #[.pointer (some ⟨w.heap.size + 1, 0, none⟩)] 51)
  have kc := (Blk.new1 w (.cells #[.string id, .int .i64 n, .int .i64 u, .int .i64 f, .slice A S.length c] 26) 57 #[.int .i64 f, .slice none 0 0]).alloc (.cells #[.pointer (some ⟨w.heap.size + 1, 0, none⟩)] 51)
  have k3 := Blk.new2 w (.cells #[.string id, .int .i64 n, .int .i64 u, .int .i64 f, .slice A S.length c] 26) (.cells #[.int .i64 f, .slice none 0 0] 57) 51 #[.pointer (some ⟨w.heap.size + 1, 0, none⟩)]
  have hb := (((Below.refl w.heap.size w).alloc (Nat.le_refl _) (.cells #[.string id, .int .i64 n, .int .i64 u, .int .i64 f, .slice A S.length c] 26)).alloc (by simp) (.cells #[.int .i64 f, .slice none 0 0] 57)).alloc (by simp; omega) (.cells #[.pointer (some ⟨w.heap.size + 1, 0, none⟩)] 51)
  generalize ((w.alloc (.cells #[.string id, .int .i64 n, .int .i64 u, .int .i64 f, .slice A S.length c] 26)).alloc (.cells #[.int .i64 f, .slice none 0 0] 57)).alloc (.cells #[.pointer (some ⟨w.heap.size + 1, 0, none⟩)] 51) = w1 at *
  generalize hg0 : w.heap.size = g0 at *
  have hgc : g0 ≤ g0 + 1 := by omega
  have hg3 : g0 ≤ g0 + 1 + 1 := by omega
  generalize g0 + 1 + 1 = g3 at *
  generalize g0 + 1 = gc at *
  have HG := Lib.hid hg0
  clear hg0
  have ow0 : w1.ownsRow g0 28 2 (.slice none 0 0) 0 (stopCells (trS f (S.take 0))) := World.ownsRow_nil _ _ _ _
  go_loopw [4, 17] (fun v i wr => ∃ (k : Nat) (A4 : Option Addr) (c4 : Nat), k ≤ S.length ∧ i = .int .i64 (k : Int) ∧ v = .slice A4 (trS f (S.take k)).length c4 ∧ wr.ownsRow g0 28 2 (.slice A4 (trS f (S.take k)).length c4) (trS f (S.take k)).length (stopCells (trS f (S.take k))) ∧
    Blk wr g0 26 #[.string id, .int .i64 n, .int .i64 u, .int .i64 f, .slice A S.length c] ∧ Blk wr gc 57 #[.int .i64 f, .slice none 0 0] ∧ Blk wr g3 51 #[.pointer (some ⟨gc, 0, none⟩)] ∧ Below g0 w wr) (fun _ i _ => S.length - (intOf i).toNat)
  case atStart => exact ⟨0, none, 0, Nat.zero_le _, rfl, rfl, ow0, k0, kc, k3, hb⟩
  case round =>
    clear ow0 k0 kc k3 hb
    obtain ⟨k, A4, c4, hk, rfl, rfl, own, k0, kc, k3, hb⟩ := hrel
    by_cases hlt : k < S.length
    · obtain ⟨s, hs⟩ : ∃ s, S[k]? = some s := ⟨_, List.getElem?_eq_getElem hlt⟩
      obtain ⟨gb, off, hA, hg, e0, e1⟩ := (HH.out.below (hb.mono hB)) k s hs
      subst hA
      obtain ⟨p0, p1, p2⟩ := psB_iff.1 (HS.out s (List.mem_of_getElem? hs))
      have HT := Lib.hid (trS_at (f := f) hs)
      clear hs
      obtain ⟨a, b⟩ := s
      simp only at p0 p1 p2 e0 e1
      obtain ⟨z, hz⟩ : ∃ z, z = max a (f + 1) := ⟨_, rfl⟩
      have hzb : 0 ≤ z ∧ z ≤ 1000001 := by omega
      have rm := fun ts ty W => run_max2 (P := Try.prog) a (f + 1) z hz ts ty W
      have hT := HT.out
      simp only [← hz] at hT
      have HZ := Lib.hid hz
      clear hz HT
      obtain ⟨q0, q1, q2⟩ := k0.all
      by_cases hzb2 : z < b
      · rw [if_pos hzb2] at hT
        have HT := Lib.hid hT
        clear hT
        have htl := trS_len f (S.take k)
        have htk : (S.take k).length ≤ k := List.length_take_le _ _
        have ownP := (own.alloc (.cells #[.int .i64 z, .int .i64 b] 28)).alloc (.cells #[.int .i64 z, .int .i64 b] 28)
        have kn := Blk.new1 wr (.cells #[.int .i64 z, .int .i64 b] 28) 28 #[.int .i64 z, .int .i64 b]
        have hbP := (hb.alloc (by omega) (.cells #[.int .i64 z, .int .i64 b] 28)).alloc (by simp; omega) (.cells #[.int .i64 z, .int .i64 b] 28)
        have k0P := (k0.alloc (.cells #[.int .i64 z, .int .i64 b] 28)).alloc (.cells #[.int .i64 z, .int .i64 b] 28)
        have kcP := (kc.alloc (.cells #[.int .i64 z, .int .i64 b] 28)).alloc (.cells #[.int .i64 z, .int .i64 b] 28)
        have k3P := (k3.alloc (.cells #[.int .i64 z, .int .i64 b] 28)).alloc (.cells #[.int .i64 z, .int .i64 b] 28)
        generalize hTL : (trS f (S.take k)).length = tl at *
        go_wp2_with (at_builtin; refine wpList_append_lies _ rfl _ _ 24 rfl g0 28 i0 _ 2 16 Try.underlying24 hi0 hz0 hz1 hz2 rfl (by omega) (.slice A4 tl c4) tl _ rfl ownP ⟨wr.heap.size + 1, 0, none⟩ 1 1 [.int .i64 z, .int .i64 b] rfl rfl (World.news_of_block kn) (stopCells_one [(z, b)]) (by omega) (by unfold maxLen; omega) (by omega) (by simp; omega) (wr.heap.size + 2) (by simp) ?_; intro gz cz Y own9 gr9 l9 z9)
        have k0Y := k0P.grown gr9 (fun he => own_blk_ne ownP k0P (by decide) he.symm)
        have kcY := kcP.grown gr9 (fun he => own_blk_ne ownP kcP (by decide) he.symm)
        have k3Y := k3P.grown gr9 (fun he => own_blk_ne ownP k3P (by decide) he.symm)
        have hbY := hbP.grown gr9 (by simp; omega) (fun x hx => (ownP.lt x hx).1)
        have hlen : (trS f (S.take (k + 1))).length = tl + 1 := by rw [HT.out]; simp [hTL]
        have hcl : stopCells (trS f (S.take (k + 1))) = stopCells (trS f (S.take k)) ++ [.int .i64 z, .int .i64 b] := by rw [HT.out, stopCells_app]; rfl
        clear k0P kcP k3P hbP gr9 ownP kn own k0 kc k3 hb q0 q1 q2 e0 e1
        go_roundw
        case rel => exact ⟨k + 1, some ⟨gz, 0, none⟩, cz, by omega, by go_num, by rw [hlen], by rw [hlen, hcl]; exact own9, k0Y, kcY, k3Y, hbY⟩
        case measure => simp [intOf]; omega
      · rw [if_neg hzb2, List.append_nil] at hT
        have HT := Lib.hid hT
        clear hT
        have hbP := hb.alloc (by omega) (.cells #[.int .i64 z, .int .i64 b] 28)
        have k0P := k0.alloc (.cells #[.int .i64 z, .int .i64 b] 28)
        have kcP := kc.alloc (.cells #[.int .i64 z, .int .i64 b] 28)
        have k3P := k3.alloc (.cells #[.int .i64 z, .int .i64 b] 28)
        have ownP := own.alloc (.cells #[.int .i64 z, .int .i64 b] 28)
        go_wp2
        go_roundw
        case rel => exact ⟨k + 1, A4, c4, by omega, by go_num, by rw [HT.out], by rw [HT.out]; exact ownP, k0P, kcP, k3P, hbP⟩
        case measure => simp [intOf]; omega
    · obtain rfl : k = S.length := by omega
      rw [List.take_length] at own
      have htl := trS_len f S
      have hts : ∀ t ∈ trS f S, -4000000 ≤ t.1 ∧ t.1 ≤ 4000000 := fun t ht => by
        obtain ⟨s, hs, rfl, h2⟩ := trS_mem.1 ht
        obtain ⟨p0, p1, p2⟩ := psB_iff.1 (HS.out s hs)
        show -4000000 ≤ max s.1 (f + 1) ∧ max s.1 (f + 1) ≤ 4000000
        omega
      have HTS := Lib.hid hts
      have hgood : ∀ T' : List Stp2, T'.Perm (trS f S) → T'.Pairwise (fun a b => a.1 ≤ b.1) → GoodJ f S (joinS T') := fun T' h1 h2 => good_of HS.out hl h1 h2
      have HGD := Lib.hid hgood
      clear hts hgood
      go_wp2_with fail
      refine (sort_any wr g0 c4 A4 (trS f S) HTS.out (by omega) own).mono ?_
      rintro e w2 ⟨rfl, T, hperm, hpw, hst, hO⟩
      have hTl := hperm.length_eq
      have kc2 := hO.blk kc (fun ⟨a, ha, he⟩ => own_blk_ne own kc (by decide) (by rw [ha, he]; rfl))
      have k32 := hO.blk k3 (fun ⟨a, ha, he⟩ => own_blk_ne own k3 (by decide) (by rw [ha, he]; rfl))
      have hA4 : ∀ a, A4 = some a → a.block ≠ gc := fun a ha he => own_blk_ne own kc (by decide) (by rw [ha, ← he]; rfl)
      have hb2 := hb.trans (hO.below (B := g0) (Nat.le_of_lt k0.lt) (fun i ⟨a, ha, he⟩ => by rw [he]; exact (own.lt a.block (by rw [ha]; rfl)).1))
      have HGJ := Lib.hid (HGD.out T hperm hpw)
      have HA4 := Lib.hid hA4
      clear HGD HTS hO own kc k3 k0 hb hA4 hperm hpw
      go_wp2_with fail
      generalize hTT : (trS f S).length = tl at *
      have hTT2 : T.length ≤ 60 := by omega
      clear hTT
      have hg2 : g0 ≤ w2.heap.size := Nat.le_trans hgc (Nat.le_of_lt kc2.lt)
      have ow2 : w2.ownsRow w2.heap.size 28 2 (.slice none 0 0) 0 (stopCells (joinS (T.take 0))) := World.ownsRow_nil _ _ _ _
      generalize hgg : w2.heap.size = g2 at hst hg2 ow2
      have hgs : g2 ≤ w2.heap.size := by omega
      have ht1 : T.length ≤ tl := by omega
      have ht2 : tl ≤ T.length := by omega
      clear hgg hTl
      go_loopw [43] (fun i wx => ∃ (k : Nat) (A5 : Option Addr) (c5 : Nat), k ≤ tl ∧ i = .int .i64 (k : Int) ∧ Blk wx gc 57 #[.int .i64 f, .slice A5 (joinS (T.take k)).length c5] ∧ wx.ownsRow g2 28 2 (.slice A5 (joinS (T.take k)).length c5) (joinS (T.take k)).length (stopCells (joinS (T.take k))) ∧
        Blk wx g3 51 #[.pointer (some ⟨gc, 0, none⟩)] ∧ (∀ a, A5 = some a → g2 ≤ a.block) ∧ StopsAt wx g2 A4 T ∧ g2 ≤ wx.heap.size ∧ Below g0 w wx) (fun i _ => tl - (intOf i).toNat)
      case atStart => exact ⟨0, none, 0, Nat.zero_le _, rfl, kc2, ow2, k32, fun a ha => (by cases ha), hst, hgs, hb2⟩
      case round =>
        clear ow2 hst kc2 k32 hb2 hgs
        obtain ⟨k, A5, c5, hk5, rfl, kc, own, k3, hA5, hst, hsz, hb⟩ := hrel
        by_cases hlt5 : k < tl
        · obtain ⟨t, ht⟩ : ∃ t, T[k]? = some t := ⟨_, List.getElem?_eq_getElem (by omega)⟩
          obtain ⟨gb, off, hA, hg, e0, e1⟩ := hst k t ht
          subst hA
          have HJ := Lib.hid (joinS_at ht)
          have hjl := joinS_len (T.take k)
          have htk : (T.take k).length ≤ k := List.length_take_le _ _
          clear ht
          obtain ⟨a, b⟩ := t
          simp only at e0 e1
          have kc1 := kc.alloc (.cells #[.int .i64 a, .int .i64 b] 28)
          have k31 := k3.alloc (.cells #[.int .i64 a, .int .i64 b] 28)
          have own1 := own.alloc (.cells #[.int .i64 a, .int .i64 b] 28)
          have hb1 := hb.alloc (by omega) (.cells #[.int .i64 a, .int .i64 b] 28)
          have hst1 := hst.below ((Below.refl g2 wr).alloc hsz (.cells #[.int .i64 a, .int .i64 b] 28))
          have hsz1 : g2 ≤ (wr.alloc (.cells #[.int .i64 a, .int .i64 b] 28)).heap.size := by simp; omega
          go_wp2_with fail
          clear kc k3 own hb hst e0 e1
          generalize wr.alloc (.cells #[.int .i64 a, .int .i64 b] 28) = w3 at *
          refine (join_any w3 g2 g3 gc c5 f (joinS (T.take k)) (a, b) A5 k31 kc1 own1 (by omega) hsz1).mono ?_
          rintro e w4 ⟨rfl, A6, c6, kc6, own6, hO, hA6⟩
          have k36 := hO.blk k31 (fun hF => by
            rcases hF with h1 | ⟨y, hy, h1⟩
            · exact Blk.ne_ k31 kc1 (by decide) h1
            · exact own_blk_ne own1 k31 (by decide) (by rw [hy, h1]; rfl))
          have hst6 := hst1.only hO hsz1 (fun y hy hF => by
            rcases hF with h1 | ⟨v, hv, h1⟩
            · exact HA4.out y hy h1
            · injection hy with hy
              have := hA5 v hv
              rw [← hy] at h1
              simp only at h1
              omega)
          have hb6 := hb1.trans (hO.below (B := g0) (by omega) (fun y hF => by
            rcases hF with h1 | ⟨v, hv, h1⟩
            · omega
            · have := hA5 v hv; omega))
          have hsz6 := Nat.le_trans hsz1 hO.size
          clear kc1 k31 own1 hO hst1 hb1 hA5
          go_wp2
          go_roundw
          case rel => exact ⟨k + 1, A6, c6, by omega, by go_num, by rw [HJ.out]; exact kc6, by rw [HJ.out]; exact own6, k36, hA6, hst6, hsz6, hb6⟩
          case measure => simp [intOf]; omega
        · obtain rfl : k = tl := by omega
          have hTk : T.take k = T := List.take_of_length_le (by omega)
          rw [hTk] at kc own
          obtain ⟨x0, x1, x2⟩ := k3.all
          have hs2 := StopsAt.of_own own
          have HGJ2 := HGJ.out
          clear hst hA5 own hTk
          go_wp2
          go_ret
          exact ⟨gc, joinS T, rfl, ⟨A5, c5, kc, hs2⟩, HGJ2, by rw [HG.out]; exact hb⟩
end Go.Proofs.Ytogjcejiojmmbaa
