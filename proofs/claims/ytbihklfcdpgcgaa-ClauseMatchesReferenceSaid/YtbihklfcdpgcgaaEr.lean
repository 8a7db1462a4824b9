/- page: a page that is given clauses. -/
import Derived.Test.YtbihklfcdpgcgaaEq
namespace Go.Proofs.Ytbihklfcdpgcgaa
open Go.RowKit

theorem putS_len (L : List Cl) (c : Cl) : (putS L c).1.length ≤ L.length + 1 := by
  unfold putS setC
  repeat' split
  all_goals simp
theorem page_fold : ∀ (l L : List Cl), Pg L → Pg (l.foldl (fun a c => (putS a c).1) L) ∧ (l.foldl (fun a c => (putS a c).1) L).length ≤ L.length + l.length
  | [], L, h => ⟨h, Nat.le_refl _⟩
  | c :: l, L, h => by
    obtain ⟨h1, h2⟩ := page_fold l _ (h.put c)
    have := putS_len L c
    exact ⟨h1, by rw [List.length_cons]; show (l.foldl _ (putS L c).1).length ≤ _; omega⟩
theorem page_pg (l : List Cl) : Pg (pageS l) := (page_fold l [] Pg.nil).1
theorem page_len (l : List Cl) : (pageS l).length ≤ l.length := by unfold pageS; have := (page_fold l [] Pg.nil).2; simpa using this
theorem pageS_take {l : List Cl} {k : Nat} {c : Cl} (h : l[k]? = some c) : pageS (l.take (k + 1)) = (putS (pageS (l.take k)) c).1 := by
  rw [List.take_add_one, h]
  exact pageS_snoc _ _
set_option maxRecDepth 100000 in
set_option maxHeartbeats 8000000 in
theorem page_any (w : World) (B : Nat) (A : Option Addr) (cap : Nat) (l : List Cl) (h : ClsAt w B A l) (hB : B ≤ w.heap.size) (hl : l.length ≤ 1000) :
    Calls Try.prog 25 #[.slice A l.length cap] w fun e w' => ∃ p b : Nat, e = .returned (.pointer (some ⟨p, 0, none⟩)) ∧ PgAt w' p b (pageS l) ∧ w.heap.size ≤ p ∧ w.heap.size ≤ b ∧ Below w.heap.size w w' := by
  have HNW := Lib.hid (new_any w)
  have HH := Lib.hid h
  obtain ⟨N, hN⟩ : ∃ N, l.length = N := ⟨_, rfl⟩
  rw [hN] at hl ⊢
  have HN := Lib.hid hN
  clear h hN
  go_enter Try.func25, Try.ntmps25
  go_wp2_with fail
  refine HNW.out.mono ?_
  rintro e w1 ⟨p, b, rfl, hp, h1, h2, hb⟩
  have HP := Lib.hid hp
  have HB1 := Lib.hid hb
  clear hp hb HNW
  go_wp2_with fail
  go_loopw [4] (fun i wr => ∃ k : Nat, k ≤ N ∧ i = .int .i64 (k : Int) ∧ Hid (Below w.heap.size w wr) ∧ Hid (PgAt wr p b (pageS (l.take k)))) (fun i _ => N - (intOf i).toNat)
  case atStart => exact ⟨0, Nat.zero_le _, rfl, HB1, HP⟩
  case round =>
    clear HP HB1
    obtain ⟨k, hk, rfl, HBk, HPk⟩ := hrel
    by_cases hkN : k < N
    · obtain ⟨c, hc⟩ : ∃ c, l[k]? = some c := ⟨_, List.getElem?_eq_getElem (by rw [HN.out]; exact hkN)⟩
      have HAk := Lib.hid ((HH.out.wide hB).below HBk.out)
      obtain ⟨g, off, rfl, -, -⟩ := HAk.out k c hc
      have e1 : decide ((k : Int) < (N : Int)) = true := decide_eq_true (by omega)
      have HC := Lib.hid hc
      have HPU := Lib.hid (put_any wr p b _ HPk.out (page_pg _).uq (Nat.le_trans (page_len _) (by rw [List.length_take]; omega)) c)
      have HT := Lib.hid (pageS_take hc)
      have HKN := Lib.hid hkN
      clear hc hkN
      go_wp2_with (refine load_at rfl (x := .tmp 15) rfl rfl HAk.out rfl HC.out ?_)
      refine HPU.out.mono ?_
      rintro e w2 ⟨rfl, hp2, ho2⟩
      have HP2 := Lib.hid (show PgAt w2 p b (pageS (l.take (k + 1))) from by rw [HT.out]; exact hp2)
      have HB2 := Lib.hid (HBk.out.trans (ho2.below HBk.out.size fun i hi => by subst hi; exact h2))
      clear hp2 ho2
      go_wp2_with fail
      refine ⟨⟨k + 1, HKN.out, by go_num, HB2, HP2⟩, ?_⟩
      have := HKN.out
      simp [intOf]
      omega
    · obtain rfl : k = N := by omega
      have HR := Lib.hid (show PgAt wr p b (pageS l) from by
        have := HPk.out
        rw [← HN.out, List.take_length] at this
        exact this)
      clear HPk
      go_wp2
      go_ret
      exact ⟨p, b, rfl, HR.out, h1, h2, HBk.out⟩
end Go.Proofs.Ytbihklfcdpgcgaa
