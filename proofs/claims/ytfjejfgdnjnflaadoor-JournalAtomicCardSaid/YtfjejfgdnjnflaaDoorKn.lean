/- filled: a journal on a new disk with the records of some Appends. -/
import Derived.Test.YtfjejfgdnjnflaaDoorKl
namespace Go.Proofs.YtfjejfgdnjnflaaDoor
open Go.RowKit Go.Shelf

/-- A journal at rest, all of its writes done. -/
structure Rest (d : Dk) (x : Jn) (n : Nat) : Prop where
  on : JOn d x
  arm : d.arm = none
  q : d.q = []
  el : El d x.cnt
  n : d.n = n
theorem Rest.append {d : Dk} {x : Jn} {n : Nat} (h : Rest d x n) (rs : List (List UInt8)) :
    (appendS d x rs).2.2 = 0 ∧ Rest (appendS d x rs).1 (appendS d x rs).2.1 n ∧ (appendS d x rs).2.1.rs = x.rs ++ rs ∨ (appendS d x rs).2.2 ≠ 0 ∧ (appendS d x rs).1 = d ∧ (appendS d x rs).2.1 = x := by
  rcases append_on h.on rs with ⟨_, e⟩ | ⟨hs, ⟨_, e⟩ | ⟨hn, ⟨h0, e⟩ | ⟨h0, ⟨d', e, h1, h2, h3, h4, h5⟩ | ⟨d', _, h1, _⟩⟩⟩⟩
  · rw [e]; exact .inr ⟨by simp, rfl, rfl⟩
  · rw [e]; exact .inr ⟨by simp, rfl, rfl⟩
  · rw [e]
    subst h0
    exact .inl ⟨rfl, h, by simp⟩
  · rw [e]
    refine .inl ⟨rfl, ⟨h1, h3 h.arm, h4, ?_, h2.trans h.n⟩, rfl⟩
    exact El.append h.el h.on h.q hs hn h5
  · exact absurd h.arm h1
theorem Rest.new {n : Nat} (h : 3 ≤ n) (h2 : n ≤ 4000) : Rest (Dk.new n) ⟨n, 0, [], false⟩ n := ⟨(new_on h h2).1, rfl, rfl, El.new h, rfl⟩
theorem Rest.size {d : Dk} {x : Jn} {n : Nat} (h : Rest d x n) : x.n = n ∧ x.cnt + 2 ≤ n ∧ 3 ≤ n ∧ x.broken = false := by
  have h1 := h.on.good.le
  have h2 := h.on.good.n3
  have h3 := h.n
  exact ⟨h.on.n.trans h.n, by omega, by omega, h.on.fine⟩

section
variable {w0 w w' : World} {a j : Nat} {d d' : Dk} {x : Jn} {K H : Foot}
theorem Live.base (h : Live w0 w a d K) : Live w0 w a d (fun i => i < w0.heap.size ∨ K i) := by
  obtain ⟨F, h1, h2, h3⟩ := h.disk
  refine ⟨h.below, ⟨F, h1, h2, fun i hi hk => ?_⟩, fun i hi => ?_⟩
  · rcases hk with hk | hk
    · have := h2 i hi; omega
    · exact h3 i hi hk
  · rcases hi with hi | hi
    · have := h.below.size; omega
    · exact h.lt i hi
theorem Ses.base (h : Ses w0 w a d j x K) : Ses w0 w a d j x (fun i => i < w0.heap.size ∨ K i) := by
  obtain ⟨J, h1, h2, h3⟩ := h
  refine ⟨J, h1.base.less fun i hi => ?_, h2, fun i hi => ⟨(h3 i hi).1, fun hk => ?_⟩⟩
  · rcases hi with (hi | hi) | hi
    · exact .inl hi
    · exact .inr (.inl hi)
    · exact .inr (.inr hi)
  · rcases hk with hk | hk
    · have := (h3 i hi).1; omega
    · exact (h3 i hi).2 hk
theorem Ses.only (h : Ses w0 w a d j x K) (hO : Only H w w') (hH : ∀ i, H i → K i ∧ w0.heap.size ≤ i) : Ses w0 w' a d j x K := by
  obtain ⟨J, h1, h2, h3⟩ := h
  have hk : Keep J w w' := ⟨hO.size, fun i hi => hO.block i (h1.lt i (.inr hi)) (fun hh => (h3 i hi).2 (hH i hh).1)⟩
  exact ⟨J, h1.only hO (fun i hi => ⟨.inl (hH i hi).1, (hH i hi).2⟩), h2.keep hk (fun i hi => hi), h3⟩
end
theorem Ses.grow {w0 w w' : World} {a j : Nat} {d : Dk} {x : Jn} {K : Foot} {row : Option Nat} (h : Ses w0 w a d j x K) (hg : w.grownBy w' row) (hr : ∀ i, row = some i → w0.heap.size ≤ i) (hK : ∀ i, row = some i → K i) :
    Ses w0 w' a d j x (fun i => K i ∨ (w.heap.size ≤ i ∧ i < w'.heap.size)) := by
  obtain ⟨J, h1, h2, h3⟩ := h
  have hO : Only (fun i => row = some i) w w' := Only.of_grown hg
  have h4 := h1.only hO (fun i hi => ⟨.inl (hK i hi), hr i hi⟩)
  have hk : Keep J w w' := ⟨hO.size, fun i hi => hO.block i (h1.lt i (.inr hi)) (fun hh => (h3 i hi).2 (hK i hh))⟩
  obtain ⟨F, f1, f2, f3⟩ := h1.disk
  have f4 := f1.only hO (fun i hi hh => f3 i hi (.inl (hK i hh)))
  refine ⟨J, ⟨h4.below, ⟨F, f4, f2, fun i hi hh => ?_⟩, fun i hi => ?_⟩, h2.keep hk (fun i hi => hi), fun i hi => ⟨(h3 i hi).1, fun hh => ?_⟩⟩
  · rcases hh with (hh | hh) | hh
    · exact f3 i hi (.inl hh)
    · have := f1.lt i hi; omega
    · exact f3 i hi (.inr hh)
  · rcases hi with (hh | hh) | hh
    · exact h4.lt i (.inl hh)
    · exact hh.2
    · exact h4.lt i (.inr hh)
  · rcases hh with hh | hh
    · exact (h3 i hi).2 hh
    · have := h1.lt i (.inr hi); omega
theorem StrsAt.toIn {w : World} {B : Nat} {A : Option Addr} {l : List (List UInt8)} {K : Foot} (h : StrsAt w B A l) (hK : ∀ i, i < B → K i) : StrsIn w K A l := fun i s hi => by
  obtain ⟨g, off, hA, hg, hc⟩ := h i s hi
  exact ⟨g, off, hA, hK g hg, hc⟩

set_option maxRecDepth 100000 in
theorem open_nil (w : World) : Calls Tryd.prog 15 #[.pointer none] w fun e w' => e = .returned (.tuple #[.pointer none, .slice none 0 0, .int .i64 1]) ∧ w = w' := by
  go_enter Tryd.func15, Tryd.ntmps15
  go_wp2
  go_ret3
  exact ⟨rfl, rfl⟩
/-- What filled leaves. -/
def FilledPost (w : World) (s : Int) (e : Ending) (w' : World) : Prop := Below w.heap.size w w' ∧
  ((s < 3 ∧ ∃ v, e = .returned (.tuple #[v, .pointer none, .slice none 0 0])) ∨
    (3 ≤ s ∧ ∃ (a j : Nat) (d : Dk) (x : Jn) (A : Option Addr) (c : Nat), e = .returned (.tuple #[.pointer (some ⟨a, 0, none⟩), .pointer (some ⟨j, 0, none⟩), .slice A x.rs.length c]) ∧
      Ses w w' a d j x (fun i => i < w.heap.size ∨ (Value.slice A x.rs.length c).ownBlock = some i) ∧ OwnStrs w' w.heap.size (.slice A x.rs.length c) x.rs ∧ Rest d x s.toNat ∧ x.rs.length ≤ 320))

set_option maxRecDepth 100000 in
set_option maxHeartbeats 8000000 in
theorem filled_any (w : World) (ht : Tbs w) (s : Int) (A : Option Addr) (c : Nat) (l : List OpJ) (h : OpsAt w w.heap.size A l) (hs : s ≤ 40) (hl : l.length ≤ 16) (hls : ∀ o ∈ l, o.list.length ≤ 20) :
    Calls Tryd.prog 10 #[.int .i64 s, .slice A l.length c] w (FilledPost w s) := by
  by_cases h1 : s < 1
  · have P := Lib.hid (new_no w s (.inl h1))
    clear h hls
    go_enter Tryd.func10, Tryd.ntmps10
    go_wp2_with fail
    refine P.out.mono ?_
    rintro e w1 ⟨rfl, rfl⟩
    go_wp2_with fail
    refine (open_nil w).mono ?_
    rintro e w1 ⟨rfl, rfl⟩
    clear P
    go_wp2
    go_ret3
    exact ⟨Below.refl _ _, .inl ⟨by omega, _, rfl⟩⟩
  obtain ⟨n, rfl⟩ := Int.eq_ofNat_of_zero_le (show 0 ≤ s by omega)
  have P := Lib.hid (new_yes w n (by omega) (by omega))
  by_cases h3 : n < 3
  · clear h hls
    go_enter Tryd.func10, Tryd.ntmps10
    go_wp2_with fail
    refine P.out.mono ?_
    rintro e w1 ⟨a, rfl, b1, ga, hD⟩
    have L1 : Live w w1 a (Dk.new n) (fun _ => False) := Live.of_new (Below.refl _ _) b1 hD
    have P1 := Lib.hid (L1.open_none ht (by show 0 ≤ 1000; omega) (new_few h3))
    clear P b1 ga hD L1
    go_wp2_with fail
    refine P1.out.mono ?_
    rintro e w2 ⟨rfl, L2, k2⟩
    clear P1
    go_wp2
    go_ret3
    exact ⟨L2.below, .inl ⟨by omega, _, rfl⟩⟩
  have HO := Lib.hid h
  have HT := Lib.hid ht
  have HLS := Lib.hid hls
  obtain ⟨i0, hi0, hz0, hz1, hz2⟩ := info_parts Tryd.infoStr
  clear h ht hls
  go_enter Tryd.func10, Tryd.ntmps10
  go_wp2_with fail
  refine P.out.mono ?_
  rintro e w1 ⟨a, rfl, b1, ga, hD⟩
  have L1 : Live w w1 a (Dk.new n) (fun _ => False) := Live.of_new (Below.refl _ _) b1 hD
  have p1 := L1.open_some HT.out (by show 0 ≤ 1000; omega) (new_on (by omega) (by omega)).2
  simp only [List.length_nil] at p1
  have P1 := Lib.hid p1
  clear P b1 ga hD L1 p1
  go_wp2_with fail
  refine P1.out.mono ?_
  rintro e w2 ⟨j, Aq, cq, B, rfl, S2, o2, hB, k2⟩
  have S3 : Ses w w2 a (Dk.new n) j ⟨n, 0, [], false⟩ (fun i => i < w.heap.size ∨ (Value.slice none 0 0).ownBlock = some i) := S2.base.less fun i hi => hi.elim .inl (fun h => by simp [Value.ownBlock] at h)
  have R3 := Lib.hid (Rest.new (n := n) (by omega) (by omega))
  have SS := Lib.hid S3
  clear P1 S2 o2 hB k2 S3
  go_wp2_with fail
  go_loopw [11, 12] (fun v i wr => ∃ (k : Nat) (d : Dk) (x : Jn) (Ao : Option Addr) (co : Nat), k ≤ l.length ∧ i = .int .i64 (k : Int) ∧ v = .slice Ao x.rs.length co ∧ OwnStrs wr w.heap.size (.slice Ao x.rs.length co) x.rs ∧
    Ses w wr a d j x (fun i => i < w.heap.size ∨ (Value.slice Ao x.rs.length co).ownBlock = some i) ∧ Hid (Rest d x n) ∧ x.rs.length ≤ 20 * k) (fun _ i _ => l.length - (intOf i).toNat)
  case atStart => exact ⟨0, Dk.new n, ⟨n, 0, [], false⟩, none, 0, Nat.zero_le _, rfl, rfl, OwnStrs.nil _ _, SS.out, R3, Nat.zero_le _⟩
  case round =>
    clear SS R3
    obtain ⟨k, d, x, Ao, co, hk, rfl, rfl, own, S, HR, hxl⟩ := hrel
    by_cases hlt : k < l.length
    · obtain ⟨o, ho⟩ : ∃ o, l[k]? = some o := ⟨_, List.getElem?_eq_getElem hlt⟩
      have hor := HO.out.below S.live.below
      obtain ⟨g, off, rfl, hg, hcs⟩ := hor.cell k o ho
      have c1 : wr.cell? ⟨g, off + k * 5 + 1, none⟩ = some (.slice o.la o.list.length o.lc) := hcs 1 _ rfl
      have hst := (hor.strs o (List.mem_of_getElem? ho)).1
      have hki : (k : Int) < (l.length : Int) := by omega
      have hk0 : (0 : Int) ≤ (k : Int) := by omega
      have h20 := HLS.out o (List.mem_of_getElem? ho)
      obtain ⟨kd, la, lc, ls, at_, wn, bn⟩ := o
      simp only at *
      have hsz := HR.out.size
      have hq0 := HR.out.q
      have PA := Lib.hid (S.append2 HT.out hsz.2.2.2 la lc ls (hst.toIn (K := fun i => i < w.heap.size ∨ (Value.slice Ao x.rs.length co).ownBlock = some i) fun i hi => .inl hi) (by omega) (by omega) h20 (by omega) (by rw [hq0]; exact Nat.zero_le _))
      have hst2 := hst
      have HST := Lib.hid hst
      have hra := HR.out.append ls
      obtain ⟨r, hr⟩ : ∃ r, appendS d x ls = r := ⟨_, rfl⟩
      rw [hr] at PA hra
      have HRA := Lib.hid hra
      clear hcs hst hst2 hor ho hra hr hq0 S
      go_wp2_with fail
      refine PA.out.mono ?_
      rintro e w3 ⟨rfl, S3, k3⟩
      have own3 : OwnStrs w3 w.heap.size (.slice Ao x.rs.length co) x.rs := own.keep k3 fun i hi => .inr hi
      have c3 : w3.cell? ⟨g, off + k * 5 + 1, none⟩ = some (.slice la ls.length lc) := (World.cell?_of_block (a := ⟨g, off + k * 5 + 1, none⟩) (k3.block g (.inl hg))).trans c1
      have hst3 : StrsAt w3 w.heap.size la ls := fun i s hi => by
        obtain ⟨g', off', h1, h2, h3⟩ := HST.out i s hi
        exact ⟨g', off', h1, h2, (World.cell?_of_block (a := ⟨g', off' + i, none⟩) (k3.block g' (.inl h2))).trans h3⟩
      have hw3 := S3.live.below.size
      clear PA own c1 k3 HST
      rcases HRA.out with ⟨e0, hR2, hrs⟩ | ⟨e0, hd2, hx2⟩
      · obtain ⟨d2, x2, e2⟩ := r
        simp only at e0 hR2 hrs S3 ⊢
        subst e0
        have HR2 := Lib.hid hR2
        have HRS := Lib.hid hrs
        have hnews : ∀ (i : Nat) (u : Value), (ls.map sv)[i]? = some u → ∃ ad, la = some ad ∧ w3.cell? (ad.add i) = some u := fun i u hu => by
          rw [List.getElem?_map, Option.map_eq_some_iff] at hu
          obtain ⟨s', hs', rfl⟩ := hu
          obtain ⟨g', off', h1, h2, h3⟩ := hst3 i s' hs'
          refine ⟨_, h1, ?_⟩
          have hadd : (⟨g', off', none⟩ : Addr).add i = ⟨g', off' + i, none⟩ := by unfold Addr.add; split <;> simp_all
          rw [hadd]
          exact h3
        have HNW := Lib.hid hnews
        have HS3 := Lib.hid S3
        clear hR2 hrs hnews HRA hst3 S3 hsz
        go_wp2_with (at_builtin; refine wpList_append_any rfl _ _ 27 rfl w.heap.size 9 i0 _ 1 16 Tryd.underlying27 hi0 hz0 hz1 hz2 rfl (by omega) (.slice Ao x.rs.length co) x.rs.length (x.rs.map sv) rfl own3 la ls.length lc (ls.map sv) rfl (by simp) HNW.out (sv_one ls) (by unfold maxLen; omega) (by omega) hw3 ?_; intro vz Y own9 gr9 l9)
        have hlen2 : x2.rs.length = x.rs.length + ls.length := by rw [HRS.out, List.length_append]
        have own4 : OwnStrs Y w.heap.size vz x2.rs := by
          unfold OwnStrs
          rw [hlen2, HRS.out, List.map_append]
          exact own9
        obtain ⟨Az, cz, rfl⟩ := own4.form
        have S4 : Ses w Y a d2 j x2 (fun i => i < w.heap.size ∨ (Value.slice Ao x.rs.length co).ownBlock = some i) := HS3.out.only (Only.of_grown gr9) fun i hi => ⟨.inr hi, (World.ownsRow.lt own3 i hi).1⟩
        have S5 : Ses w Y a d2 j x2 (fun i => i < w.heap.size ∨ (Value.slice Az x2.rs.length cz).ownBlock = some i) := by
          rcases l9 with l9 | l9
          · rw [l9]; exact S4
          · have hb9 : ∀ i, w3.heap.size ≤ i → (fun i => (Value.slice Ao x.rs.length co).ownBlock = some i) i → False := fun i hi he => by
              have := (World.ownsRow.lt own3 i he).2; omega
            have S6 := HS3.out.grow gr9 (fun i hi => (World.ownsRow.lt own3 i hi).1) (fun i hi => .inr hi)
            refine S6.less fun i hi => ?_
            rcases hi with hi | hi
            · exact .inl (.inl hi)
            · refine .inr ⟨?_, (World.ownsRow.lt own4 i hi).2⟩
              rw [l9] at hi
              injection hi with hi
              omega
        go_roundw
        case rel => exact ⟨k + 1, d2, x2, Az, cz, by omega, by go_num, rfl, own4, S5, HR2, by omega⟩
        case measure => simp [intOf]; omega
      · obtain ⟨d2, x2, e2⟩ := r
        simp only at e0 hd2 hx2 S3 ⊢
        subst hd2 hx2
        have e1 : (e2 == 0) = false := by simpa using e0
        clear HRA hst3 e0
        go_wp2_with fail
        go_roundw
        case rel => exact ⟨k + 1, d2, x2, Ao, co, by omega, by go_num, rfl, own3, S3, HR, by omega⟩
        case measure => simp [intOf]; omega
    · obtain rfl : k = l.length := by omega
      have SS := Lib.hid S
      have HOW := Lib.hid own
      clear S own
      go_wp2
      go_ret3
      exact ⟨SS.out.live.below, .inr ⟨by omega, a, j, d, x, Ao, co, rfl, SS.out, HOW.out, by simpa using HR.out, by omega⟩⟩
end Go.Proofs.YtfjejfgdnjnflaaDoor
