/- Package migrate's ends. The references' names, stops, terms: chapter 30's, as Lim. The reference's Name, Day, right, In. -/
import Derived.Test.YtknchlpcpgflkaaGreatDoorKGBN
import Derived.Test.YtknchlpcpgflkaaGreatDoorKGBD
import Derived.Test.YtknchlpcpgflkaaGreatDoorKGAU
namespace Go.Proofs.YtknchlpcpgflkaaGreatDoor
open Go.RowKit Go.Shelf

set_option maxRecDepth 100000 in
set_option maxHeartbeats 4000000 in
theorem gends_any (w : World) (B : Nat) (p : Pc) (y : PcX) (h : PcAt w B p y) (hB : B ≤ w.heap.size) (hin : MvIn p.ss.length p.ms) (hl : p.ms.length ≤ 1000000) (hl2 : p.ss.length ≤ 1000000) :
    Calls Tryz.prog 46 #[.agg (pcC p y)] w fun e w' => ∃ b V, e = .returned (.map (some b)) ∧ w.heap.size ≤ b ∧ MapV w' b (kInts V) ∧ (∀ x, x ∈ V ↔ endB p x = true) ∧ Below w.heap.size w w' := by
  have hms := h.ms
  have hback := fun b bm bp bc => back_any B b bm bp bc p y hin hl (p.ss.length + 1)
  have hmm := @run_makeMap Tryz.prog
  show Calls Tryz.prog 46 #[.agg #[.string p.name, .slice y.a1 p.ss.length y.c1, .slice y.a2 p.ms.length y.c2]] w _
  have hb := below_self_alloc w (.cells #[.string p.name, .slice y.a1 p.ss.length y.c1, .slice y.a2 p.ms.length y.c2] 34)
  have kx := Blk.new w 34 #[.string p.name, .slice y.a1 p.ss.length y.c1, .slice y.a2 p.ms.length y.c2]
  obtain ⟨t0, t1, t2⟩ := kx.all
  go_enter Tryz.func46, Tryz.ntmps46
  go_wp2_with fail
  have z1 : (w.alloc (.cells #[.string p.name, .slice y.a1 p.ss.length y.c1, .slice y.a2 p.ms.length y.c2] 34)).heap.size = w.heap.size + 1 := by simp
  have z2 : ((w.alloc (.cells #[.string p.name, .slice y.a1 p.ss.length y.c1, .slice y.a2 p.ms.length y.c2] 34)).alloc (.map #[] 0)).heap.size = w.heap.size + 1 + 1 := by simp
  have z3 : (((w.alloc (.cells #[.string p.name, .slice y.a1 p.ss.length y.c1, .slice y.a2 p.ms.length y.c2] 34)).alloc (.map #[] 0)).alloc (.cells #[.map (some (w.heap.size + 1))] 98)).heap.size = w.heap.size + 1 + 1 + 1 := by simp
  have q1 : MapV ((w.alloc (.cells #[.string p.name, .slice y.a1 p.ss.length y.c1, .slice y.a2 p.ms.length y.c2] 34)).alloc (.map #[] 0)) (w.heap.size + 1) [] := by have := MapV.made (w.alloc (.cells #[.string p.name, .slice y.a1 p.ss.length y.c1, .slice y.a2 p.ms.length y.c2] 34)); rwa [z1] at this
  have q2 : Blk (((w.alloc (.cells #[.string p.name, .slice y.a1 p.ss.length y.c1, .slice y.a2 p.ms.length y.c2] 34)).alloc (.map #[] 0)).alloc (.cells #[.map (some (w.heap.size + 1))] 98)) (w.heap.size + 1 + 1) 98 #[.map (some (w.heap.size + 1))] := by have := Blk.new ((w.alloc (.cells #[.string p.name, .slice y.a1 p.ss.length y.c1, .slice y.a2 p.ms.length y.c2] 34)).alloc (.map #[] 0)) 98 #[.map (some (w.heap.size + 1))]; rwa [z2] at this
  have q3 : Blk ((((w.alloc (.cells #[.string p.name, .slice y.a1 p.ss.length y.c1, .slice y.a2 p.ms.length y.c2] 34)).alloc (.map #[] 0)).alloc (.cells #[.map (some (w.heap.size + 1))] 98)).alloc (.cells #[.func (.func 96) #[] #[.pointer (some ⟨w.heap.size + 1 + 1, 0, none⟩), .pointer (some ⟨w.heap.size, 0, none⟩), .pointer (some ⟨w.heap.size + 1 + 1 + 1, 0, none⟩)]] 137)) (w.heap.size + 1 + 1 + 1) 137 #[.func (.func 96) #[] #[.pointer (some ⟨w.heap.size + 1 + 1, 0, none⟩), .pointer (some ⟨w.heap.size, 0, none⟩), .pointer (some ⟨w.heap.size + 1 + 1 + 1, 0, none⟩)]] := by have := Blk.new (((w.alloc (.cells #[.string p.name, .slice y.a1 p.ss.length y.c1, .slice y.a2 p.ms.length y.c2] 34)).alloc (.map #[] 0)).alloc (.cells #[.map (some (w.heap.size + 1))] 98)) 137 #[.func (.func 96) #[] #[.pointer (some ⟨w.heap.size + 1 + 1, 0, none⟩), .pointer (some ⟨w.heap.size, 0, none⟩), .pointer (some ⟨w.heap.size + 1 + 1 + 1, 0, none⟩)]]; rwa [z3] at this
  have hb4 : Below w.heap.size w ((((w.alloc (.cells #[.string p.name, .slice y.a1 p.ss.length y.c1, .slice y.a2 p.ms.length y.c2] 34)).alloc (.map #[] 0)).alloc (.cells #[.map (some (w.heap.size + 1))] 98)).alloc (.cells #[.func (.func 96) #[] #[.pointer (some ⟨w.heap.size + 1 + 1, 0, none⟩), .pointer (some ⟨w.heap.size, 0, none⟩), .pointer (some ⟨w.heap.size + 1 + 1 + 1, 0, none⟩)]] 137)) := (((hb.alloc hb.size _).alloc (by rw [z2]; omega) _).alloc (by rw [z3]; omega) _)
  have HK := Lib.hid (⟨q2.alloc _, ((kx.alloc _).alloc _).alloc _, q3, hms.below (hb4.mono hB), Nat.le_trans hB hb4.size, by omega, by omega, by omega, by omega⟩ : BkAt ((((w.alloc (.cells #[.string p.name, .slice y.a1 p.ss.length y.c1, .slice y.a2 p.ms.length y.c2] 34)).alloc (.map #[] 0)).alloc (.cells #[.map (some (w.heap.size + 1))] 98)).alloc (.cells #[.func (.func 96) #[] #[.pointer (some ⟨w.heap.size + 1 + 1, 0, none⟩), .pointer (some ⟨w.heap.size, 0, none⟩), .pointer (some ⟨w.heap.size + 1 + 1 + 1, 0, none⟩)]] 137)) B (w.heap.size + 1) (w.heap.size + 1 + 1) w.heap.size (w.heap.size + 1 + 1 + 1) p y)
  have HM := Lib.hid ((q1.alloc (.cells #[.map (some (w.heap.size + 1))] 98)).alloc (.cells #[.func (.func 96) #[] #[.pointer (some ⟨w.heap.size + 1 + 1, 0, none⟩), .pointer (some ⟨w.heap.size, 0, none⟩), .pointer (some ⟨w.heap.size + 1 + 1 + 1, 0, none⟩)]] 137))
  have HB4 := Lib.hid hb4
  have HIN := Lib.hid hin
  have HBK := Lib.hid hback
  clear z1 z2 z3 q1 q2 q3 hb4 hb kx hms h hin hback hmm t0 t1 t2
  generalize (((w.alloc (.cells #[.string p.name, .slice y.a1 p.ss.length y.c1, .slice y.a2 p.ms.length y.c2] 34)).alloc (.map #[] 0)).alloc (.cells #[.map (some (w.heap.size + 1))] 98)).alloc (.cells #[.func (.func 96) #[] #[.pointer (some ⟨w.heap.size + 1 + 1, 0, none⟩), .pointer (some ⟨w.heap.size, 0, none⟩), .pointer (some ⟨w.heap.size + 1 + 1 + 1, 0, none⟩)]] 137) = W4 at *
  go_loopw [11] (fun i wr => ∃ k : Nat, k ≤ p.ss.length ∧ i = .int .i64 (k : Int) ∧ ∃ V, Hid (SeenK p V k) ∧ Hid (MapV wr (w.heap.size + 1) (kInts V)) ∧ Hid (BkAt wr B (w.heap.size + 1) (w.heap.size + 1 + 1) w.heap.size (w.heap.size + 1 + 1 + 1) p y) ∧ Hid (Below w.heap.size w wr)) (fun i _ => p.ss.length - (intOf i).toNat)
  case atStart => exact ⟨0, Nat.zero_le _, rfl, [], Lib.hid (SeenK.zero p), HM, HK, HB4⟩
  case round =>
    clear HM HK HB4
    obtain ⟨k, hk, rfl, V, HS, HM, HK, HB⟩ := hrel
    by_cases hlt : k < p.ss.length
    · obtain ⟨t0, t1, t2⟩ := HK.out.cp.all
      have kb := Blk.new wr 3 #[.int .i64 (k : Int)]
      have ba := below_self_alloc wr (.cells #[.int .i64 (k : Int)] 3)
      have HKa := Lib.hid (HK.out.only (Only.of_below ba _))
      have HMa := Lib.hid (HM.out.alloc (.cells #[.int .i64 (k : Int)] 3))
      have HBa := Lib.hid (HB.out.alloc HB.out.size (.cells #[.int .i64 (k : Int)] 3))
      obtain ⟨r, hr⟩ : ∃ r, (p.ms.any fun m => decide (m.1 = (k : Int))) = r := ⟨_, rfl⟩
      have hc := containsM_any (wr.alloc (.cells #[.int .i64 (k : Int)] 3)) B y.a2 p.ms y.c2 HKa.out.ms HKa.out.hB (by omega) (fun m => decide (m.1 = (k : Int))) 98 #[.pointer (some ⟨wr.heap.size, 0, none⟩)] (enters_of Tryz.func98 (by kernel_rfl) rfl) (fun W m _ hW => gfrom_any W wr.heap.size (k : Int) ((kb.below hW kb.lt).cell 0) (kb.below hW kb.lt).lt m)
      rw [hr] at hc
      have HC := Lib.hid hc
      have HR := Lib.hid hr
      obtain ⟨u0, u1, u2⟩ := kb.all
      obtain ⟨v0, v1, v2⟩ := HKa.out.cp.all
      have v0' : ∀ i, (wr.alloc (.cells #[.int .i64 (k : Int)] 3)).cell? ⟨w.heap.size, i, none⟩ = (#[.string p.name, .slice y.a1 p.ss.length y.c1, .slice y.a2 p.ms.length y.c2] : Array Value)[i]? := v0
      clear hc hr kb t0 t1 t2 v0
      go_wp2_with fail
      refine HC.out.mono ?_
      rintro e w2 ⟨rfl, b2⟩
      have HK2 := Lib.hid (HKa.out.only (Only.of_below b2 _))
      have HM2 := Lib.hid (HMa.out.below b2 HMa.out.lt)
      have HB2 := Lib.hid (HBa.out.trans (b2.mono HBa.out.size))
      have KB2 := Lib.hid ((Blk.new wr 3 #[.int .i64 (k : Int)]).below b2 (Blk.new wr 3 #[.int .i64 (k : Int)]).lt)
      clear b2 HC u0 u1 u2 v0' v1 v2 HKa HMa HBa ba
      cases r with
      | true =>
        obtain ⟨m, hm, he⟩ := List.any_eq_true.1 HR.out
        have HS2 := Lib.hid (HS.out.skip hm (of_decide_eq_true he))
        clear hm he HR
        go_wp2
        go_roundw
        case rel => exact ⟨k + 1, by omega, by go_num, V, HS2, HM2, HK2, HB2⟩
        case measure => simp [intOf]; omega
      | false =>
        have hend : endAt p (k : Int) := ⟨by omega, by omega, fun m hm he => by
          have := (List.any_eq_false.1 HR.out) m hm
          exact this (decide_eq_true he)⟩
        have HE := Lib.hid hend
        clear hend HR
        have HC := Lib.hid (HBK.out _ _ _ _ w2 V (k : Int) HK2.out HM2.out HS.out.nd (fun x hx => (HS.out.ends x hx).in_ HIN.out) ⟨by omega, by omega⟩ (by omega))
        obtain ⟨u0, u1, u2⟩ := KB2.out.all
        obtain ⟨v0, v1, v2⟩ := HK2.out.cf.all
        go_wp2_with fail
        refine HC.out.mono ?_
        rintro e w3 ⟨rfl, X, hX, hMX, hOX⟩
        have HS2 := Lib.hid (HS.out.next HE.out hX)
        have HM3 := Lib.hid hMX
        have HK3 := Lib.hid (HK2.out.only hOX)
        have HB3 := Lib.hid (HB2.out.trans (hOX.below HB2.out.size fun i hi => by omega))
        clear hX hMX hOX u0 u1 u2 v0 v1 v2 HC
        go_wp2
        go_roundw
        case rel => exact ⟨k + 1, by omega, by go_num, V ++ X, HS2, HM3, HK3, HB3⟩
        case measure => simp [intOf]; omega
    · obtain rfl : k = p.ss.length := by omega
      obtain ⟨t0, t1, t2⟩ := HK.out.cm.all
      have HD := Lib.hid HS.out.done
      clear HS HIN HBK
      go_wp2
      go_ret
      exact ⟨_, V, rfl, by omega, HM.out, HD.out, HB.out⟩
end Go.Proofs.YtknchlpcpgflkaaGreatDoor

namespace Go.Proofs.YtknchlpcpgflkaaGreatDoor
export Lim (letter_any digit_any word_any wrd_go nm_wrd wrd_no name_any rStop_any rTerm_any rIs_any all_take rProper_any)
end Go.Proofs.YtknchlpcpgflkaaGreatDoor

namespace Go.Proofs.YtknchlpcpgflkaaGreatDoor
open Go.RowKit Go.Shelf

set_option maxHeartbeats 1000000 in
theorem rname07_any (w : World) (s : ByteArray) (hs : s.size ≤ 9223372036854775807) : Calls Tryz.prog 122 #[.string s] w fun e w' => e = .returned (.bool (nmB s.data.toList)) ∧ w = w' := by
  have hsz : s.data.toList.length = s.size := rfl
  have HL := Lib.hid hsz
  clear hsz
  obtain ⟨r, hr⟩ : ∃ r, r = nmB s.data.toList := ⟨_, rfl⟩
  rw [← hr]
  have HR := Lib.hid hr
  clear hr
  go_enter Tryz.func122, Tryz.ntmps122
  go_wp2_with fail
  go_loop [3] (fun i => ∃ k : Nat, k ≤ s.size ∧ i = .int .i64 (k : Int) ∧ Hid (nmGo 0 (s.data.toList.take k) = true)) (fun i => s.size - (intOf i).toNat)
  case atStart => exact ⟨0, Nat.zero_le _, rfl, Lib.hid rfl⟩
  case round =>
    obtain ⟨k, hk, rfl, hn⟩ := hrel
    by_cases hlt : k < s.size
    · obtain ⟨c, hc⟩ : ∃ c, s.data.toList[k]? = some c := ⟨_, List.getElem?_eq_getElem (by rw [HL.out]; exact hlt)⟩
      have hget : s[k] = c := by
        obtain ⟨h1, h2⟩ := List.getElem?_eq_some_iff.1 hc
        rw [← h2]
        rfl
      have HC := Lib.hid hc
      clear hc
      have h255 := c.toNat_lt
      have hcl : (c.toNat ≤ 47 ∨ (58 ≤ c.toNat ∧ c.toNat ≤ 64) ∨ (91 ≤ c.toNat ∧ c.toNat ≤ 94) ∨ c.toNat = 96 ∨ 123 ≤ c.toNat) ∨ ((48 ≤ c.toNat ∧ c.toNat ≤ 57) ∨ c.toNat = 95) ∨ (65 ≤ c.toNat ∧ c.toNat ≤ 90) ∨ (97 ≤ c.toNat ∧ c.toNat ≤ 122) := by omega
      rcases hcl with hcl | hcl | hcl
      · have hok : okAt k c = false := by simp [okAt, letB, digB]; omega
        have e95 : ((c.toNat : Int) == 95) = false := by simp; omega
        have n95 : ((c.toNat : Int) != 95) = true := by simp; omega
        have hno := nmGo_no HC.out hok
        have e : nmB s.data.toList = false := by unfold nmB; rw [hno]; rfl
        have HE := Lib.hid (HR.out.trans e)
        clear e hno hok HC
        have hk0 : ((k : Int) == 0) = true ∨ ((k : Int) == 0) = false := by cases ((k : Int) == 0) <;> simp
        rcases hk0 with e0 | e0 <;> rcases hcl with h | h | h | h | h <;> cases d57 : decide ((c.toNat : Int) ≤ 57) <;> cases d90 : decide ((c.toNat : Int) ≤ 90) <;> cases d122 : decide ((c.toNat : Int) ≤ 122)
        all_goals first
          | (exfalso; simp at d57 d90 d122; omega)
          | (go_wp2; go_ret; exact ⟨by rw [HE.out]; rfl, rfl⟩)
      · cases h0 : decide (0 < k) with
        | false =>
          have hk0 : k = 0 := by simpa using h0
          have hok : okAt k c = false := by
            subst hk0
            simp [okAt, letB, digB]; omega
          have e0 : ((k : Int) == 0) = true := by simpa using hk0
          have hno := nmGo_no HC.out hok
          have e : nmB s.data.toList = false := by unfold nmB; rw [hno]; rfl
          have HE := Lib.hid (HR.out.trans e)
          clear e hno hok HC hk0 h0
          rcases hcl with h | h
          · cases e95 : ((c.toNat : Int) == 95) with
            | true => exfalso; simp at e95; omega
            | false =>
              go_wp2
              go_ret
              exact ⟨by rw [HE.out]; rfl, rfl⟩
          · have e95 : ((c.toNat : Int) == 95) = true := by simp; omega
            go_wp2
            go_ret
            exact ⟨by rw [HE.out]; rfl, rfl⟩
        | true =>
          have hk0 : 0 < k := by simpa using h0
          have hok : okAt k c = true := by
            simp [okAt, letB, digB]; omega
          have e0 : ((k : Int) == 0) = false := by simp; omega
          have hnx : nmGo 0 (s.data.toList.take (k + 1)) = true := by rw [nmGo_at HC.out, hn.out, hok]; rfl
          have HX := Lib.hid hnx
          clear hnx hok h0
          rcases hcl with h | h
          · have d57 : decide ((c.toNat : Int) ≤ 57) = true := by simp; omega
            go_wp2
            go_round
            case rel => exact ⟨k + 1, by omega, by go_num, HX⟩
            case measure => simp [intOf]; omega
          · have e95 : ((c.toNat : Int) == 95) = true := by simp; omega
            go_wp2
            go_round
            case rel => exact ⟨k + 1, by omega, by go_num, HX⟩
            case measure => simp [intOf]; omega
      · have hok : okAt k c = true := by simp [okAt, letB, digB]; omega
        have e95 : ((c.toNat : Int) == 95) = false := by simp; omega
        have n95 : ((c.toNat : Int) != 95) = true := by simp; omega
        have hnx : nmGo 0 (s.data.toList.take (k + 1)) = true := by rw [nmGo_at HC.out, hn.out, hok]; rfl
        have HX := Lib.hid hnx
        clear hnx hok
        rcases hcl with h | h <;> cases d57 : decide ((c.toNat : Int) ≤ 57) <;> cases d90 : decide ((c.toNat : Int) ≤ 90) <;> cases d122 : decide ((c.toNat : Int) ≤ 122)
        all_goals try (exfalso; simp at d57 d90 d122; omega)
        all_goals
          go_wp2
          go_round
          case rel => exact ⟨k + 1, by omega, by go_num, HX⟩
          case measure => simp [intOf]; omega
    · obtain rfl : k = s.size := by omega
      have hn2 : nmGo 0 s.data.toList = true := by have := hn.out; rwa [List.take_of_length_le (by rw [HL.out]; exact Nat.le_refl _)] at this
      have hie : s.data.toList.isEmpty = decide (s.size = 0) := by
        rw [← HL.out]
        cases s.data.toList with
        | nil => rfl
        | cons c cs => simp
      have e : r = (decide (0 < s.size) && decide (s.size ≤ 24)) := by
        rw [HR.out]
        unfold nmB
        rw [hn2, Bool.true_and, HL.out, hie]
        have hz : (!decide (s.size = 0)) = decide (0 < s.size) := by
          by_cases h : s.size = 0
          · rw [decide_eq_true h, decide_eq_false (by omega)]; rfl
          · rw [decide_eq_false h, decide_eq_true (by omega)]; rfl
        rw [hz]
      have HE := Lib.hid e
      clear e hie hn2 hn HR
      by_cases h0 : 0 < s.size
      · have e0 : decide (0 < (s.size : Int)) = true := decide_eq_true (by omega)
        by_cases h24 : s.size ≤ 24
        · have e24 : decide ((s.size : Int) ≤ 24) = true := decide_eq_true (by omega)
          have hr : r = true := by rw [HE.out, decide_eq_true h0, decide_eq_true h24]; rfl
          have HRR := Lib.hid hr
          clear hr
          go_wp2
          go_ret
          exact ⟨by rw [HRR.out]; first | done | rfl | simp [e24], rfl⟩
        · have e24 : decide ((s.size : Int) ≤ 24) = false := decide_eq_false (by omega)
          have hr : r = false := by rw [HE.out, decide_eq_true h0, decide_eq_false h24]; rfl
          have HRR := Lib.hid hr
          clear hr
          go_wp2
          go_ret
          exact ⟨by rw [HRR.out]; first | done | rfl | simp [e24], rfl⟩
      · have e0 : decide (0 < (s.size : Int)) = false := decide_eq_false (by omega)
        have hr : r = false := by rw [HE.out, decide_eq_false h0]; rfl
        have HRR := Lib.hid hr
        clear hr
        go_wp2
        go_ret
        exact ⟨by rw [HRR.out]; first | done | rfl, rfl⟩

theorem rDay_any (w : World) (n : Int) : Calls Tryz.prog 55 #[.int .i64 n] w fun e w' => e = .returned (.bool (isB n)) ∧ w = w' := by
  by_cases h0 : 0 ≤ n
  · by_cases h1 : n ≤ 1000000
    · rw [(isB_iff n).2 ⟨h0, h1⟩]
      go_enter Tryz.func55, Tryz.ntmps55
      go_wp2
      go_ret
      exact ⟨rfl, rfl⟩
    · rw [isB_no (.inr (by omega))]
      go_enter Tryz.func55, Tryz.ntmps55
      go_wp2
      go_ret
      exact ⟨rfl, rfl⟩
  · rw [isB_no (.inl (by omega))]
    go_enter Tryz.func55, Tryz.ntmps55
    go_wp2
    go_ret
    exact ⟨rfl, rfl⟩

theorem mem_take_snoc {α : Type} [DecidableEq α] {l : List α} {k : Nat} {x y : α} (h : l[k]? = some x) : y ∈ l.take (k + 1) ↔ y ∈ l.take k ∨ y = x := by
  rw [take_snoc' h]; simp

set_option maxRecDepth 100000 in
set_option maxHeartbeats 2000000 in
theorem rright_any (w : World) (B : Nat) (A : Option Addr) (l : List Rt) (c : Nat) (h : RtsAt w B A l) (hl : l.length ≤ 4611686018427387904) (n : ByteArray) (q : Bool) (hq : q = true ↔ n ∈ l.map (·.1)) :
    Calls Tryz.prog 123 #[.slice A l.length c, .string n] w fun e w' => e = .returned (.bool q) ∧ w = w' := by
  have HH := Lib.hid h
  have HQ := Lib.hid hq
  obtain ⟨N, hN⟩ : ∃ N, l.length = N := ⟨_, rfl⟩
  have HN := Lib.hid hN
  rw [hN] at hl ⊢
  clear h hq hN
  go_enter Tryz.func123, Tryz.ntmps123
  go_wp2_with fail
  go_loop [5] (fun i => ∃ k : Nat, k ≤ N ∧ i = .int .i64 (k : Int) ∧ Hid (n ∉ (l.take k).map (·.1))) (fun i => N - (intOf i).toNat)
  case atStart => exact ⟨0, Nat.zero_le _, rfl, Lib.hid (by simp)⟩
  case round =>
    obtain ⟨k, hk, rfl, HT⟩ := hrel
    by_cases hlt : k < N
    · obtain ⟨x, hx⟩ : ∃ x, l[k]? = some x := ⟨_, List.getElem?_eq_getElem (by rw [HN.out]; exact hlt)⟩
      obtain ⟨g, off, hA, hg, c0, c1⟩ := HH.out k x hx
      subst hA
      have ib0 : (0 : Int) ≤ (k : Int) := by omega
      have ib1 : (k : Int) < (N : Int) := by omega
      have HX := Lib.hid hx
      clear hx
      obtain ⟨a, d⟩ := x
      simp only at c0 c1
      by_cases hxn : a = n
      · obtain rfl : q = true := HQ.out.2 (List.mem_map.2 ⟨(a, d), List.mem_of_getElem? HX.out, hxn⟩)
        subst hxn
        clear c1
        go_wp2_with fail
        go_ret
        exact ⟨rfl, rfl⟩
      · have HT2 : Hid (n ∉ (l.take (k + 1)).map (·.1)) := Lib.hid (by
          rw [take_snoc' HX.out, List.map_append, List.mem_append]
          rintro (h | h)
          · exact HT.out h
          · simp at h; exact hxn h.symm)
        have e3 := str_no hxn
        clear hxn c1
        go_wp2_with fail
        go_round
        case rel => exact ⟨k + 1, by omega, by go_num, HT2⟩
        case measure => simp [intOf]; omega
    · obtain rfl : k = N := by omega
      have hno : n ∉ l.map (·.1) := by
        have := HT.out
        rwa [List.take_of_length_le (by rw [HN.out]; exact Nat.le_refl _)] at this
      obtain rfl : q = false := by
        cases q with
        | false => rfl
        | true => exact absurd (HQ.out.1 rfl) hno
      clear hno
      go_wp2
      go_ret
      exact ⟨rfl, rfl⟩

set_option maxRecDepth 100000 in
set_option maxHeartbeats 2000000 in
theorem rin_any (w : World) (B : Nat) (A : Option Addr) (l : List ByteArray) (c : Nat) (h : BtsAt w B A l) (hl : l.length ≤ 4611686018427387904) (n : ByteArray) (q : Bool) (hq : q = true ↔ n ∈ l) :
    Calls Tryz.prog 130 #[.slice A l.length c, .string n] w fun e w' => e = .returned (.bool q) ∧ w = w' := by
  have HH := Lib.hid h
  have HQ := Lib.hid hq
  obtain ⟨N, hN⟩ : ∃ N, l.length = N := ⟨_, rfl⟩
  have HN := Lib.hid hN
  rw [hN] at hl ⊢
  clear h hq hN
  go_enter Tryz.func130, Tryz.ntmps130
  go_wp2_with fail
  go_loop [5] (fun i => ∃ k : Nat, k ≤ N ∧ i = .int .i64 (k : Int) ∧ Hid (n ∉ l.take k)) (fun i => N - (intOf i).toNat)
  case atStart => exact ⟨0, Nat.zero_le _, rfl, Lib.hid (by simp)⟩
  case round =>
    obtain ⟨k, hk, rfl, HT⟩ := hrel
    by_cases hlt : k < N
    · obtain ⟨x, hx⟩ : ∃ x, l[k]? = some x := ⟨_, List.getElem?_eq_getElem (by rw [HN.out]; exact hlt)⟩
      obtain ⟨g, off, hA, hg, c0⟩ := HH.out k x hx
      subst hA
      have ib0 : (0 : Int) ≤ (k : Int) := by omega
      have ib1 : (k : Int) < (N : Int) := by omega
      have HX := Lib.hid hx
      clear hx
      by_cases hxn : x = n
      · obtain rfl : q = true := HQ.out.2 (by rw [← hxn]; exact List.mem_of_getElem? HX.out)
        subst hxn
        go_wp2_with fail
        go_ret
        exact ⟨rfl, rfl⟩
      · have HT2 : Hid (n ∉ l.take (k + 1)) := Lib.hid (by
          rw [take_snoc' HX.out, List.mem_append]
          rintro (h | h)
          · exact HT.out h
          · simp at h; exact hxn h.symm)
        have e3 := str_no hxn
        clear hxn
        go_wp2_with fail
        go_round
        case rel => exact ⟨k + 1, by omega, by go_num, HT2⟩
        case measure => simp [intOf]; omega
    · obtain rfl : k = N := by omega
      have hno : n ∉ l := by
        have := HT.out
        rwa [List.take_of_length_le (by rw [HN.out]; exact Nat.le_refl _)] at this
      obtain rfl : q = false := by
        cases q with
        | false => rfl
        | true => exact absurd (HQ.out.1 rfl) hno
      clear hno
      go_wp2
      go_ret
      exact ⟨rfl, rfl⟩
end Go.Proofs.YtknchlpcpgflkaaGreatDoor
