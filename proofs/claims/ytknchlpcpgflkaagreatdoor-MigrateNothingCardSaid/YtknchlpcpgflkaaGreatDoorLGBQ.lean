/- Package migrate's ends. The references' names, stops, terms: chapter 30's, as Lim. The reference's Name, Day, right, In. -/
import Derived.Test.YtknchlpcpgflkaaGreatDoorLGBN
import Derived.Test.YtknchlpcpgflkaaGreatDoorLGBD
import Derived.Test.YtknchlpcpgflkaaGreatDoorLGAU
namespace Go.Proofs.YtknchlpcpgflkaaGreatDoor
open Go.RowKit Go.Shelf

set_option maxRecDepth 100000 in
set_option maxHeartbeats 4000000 in
theorem gends_any (w : World) (B : Nat) (p : Pc) (y : PcX) (h : PcAt w B p y) (hB : B ≤ w.heap.size) (hin : MvIn p.ss.length p.ms) (hl : p.ms.length ≤ 1000000) (hl2 : p.ss.length ≤ 1000000) :
    Calls Tryz.prog 46 #[.agg (pcC p y)] w fun e w' => ∃ b V, e = .returned (.map (some b)) ∧ w.heap.size ≤ b ∧ MapV w' b (kInts V) ∧ (∀ x, x ∈ V ↔ endB p x = true) ∧ Below w.heap.size w w' := by
  have hms := h.ms
  have hback := fun b bm bp bc => back_any B b bm bp bc p y hin hl (p.ss.length + 1)
  have hmm := @run_makeMap Tryz.prog
  show Calls Tryz.prog 46 #[.agg #[.string p.name, .slice y.a1 p.ss.length y.c1, .slice y.a2 p.ms.length y.c2]] w _
  have hb := below_self_alloc w (.cells #[.string p.name, .slice y.a1 p.ss.length y.c1, .slice y.a2 p.ms.length y.c2] 34)
  have kx := Blk.new w 34 #[.string p.name, .slice y.a1 p.ss.length y.c1, .slice y.a2 p.ms.length y.c2]
  obtain ⟨t0, t1, t2⟩ := kx.all
  go_enter Tryz.func46, Tryz.ntmps46
  go_wp2_with fail
  have z1 : (w.alloc (.cells #[.string p.name, .slice y.a1 p.ss.length y.c1, .slice y.a2 p.ms.length y.c2] 34)).heap.size = w.heap.size + 1 := by simp
  have z2 : ((w.alloc (.cells #[.string p.name, .slice y.a1 p.ss.length y.c1, .slice y.a2 p.ms.length y.c2] 34)).alloc (.map #[] 0)).heap.size = w.heap.size + 1 + 1 := by simp
  have z3 : (((w.alloc (.cells #[.string p.name, .slice y.a1 p.ss.length y.c1, .slice y.a2 p.ms.length y.c2] 34)).alloc (.map #[] 0)).alloc (.cells #[.map (some (w.heap.size + 1))] 98)).heap.size = w.heap.size + 1 + 1 + 1 := by simp
  have q1 : MapV ((w.alloc (.cells #[.string p.name, .slice y.a1 p.ss.length y.c1, .slice y.a2 p.ms.length y.c2] 34)).alloc (.map #[] 0)) (w.heap.size + 1) [] := by have := MapV.made (w.alloc (.cells #[.string p.name, .slice y.a1 p.ss.length y.c1, .slice y.a2 p.ms.length y.c2] 34)); rwa [z1] at this
  have q2 : Blk (((w.alloc (.cells #[.string p.name, .slice y.a1 p.ss.length y.c1, .slice y.a2 p.ms.length y.c2] 34)).alloc (.map #[] 0)).alloc (.cells #[.map (some (w.heap.size + 1))] 98)) (w.heap.size + 1 + 1) 98 #[.map (some (w.heap.size + 1))] := by have := Blk.new ((w.alloc (.cells #[.string p.name, .slice y.a1 p.ss.length y.c1, .slice y.a2 p.ms.length y.c2] 34)).alloc (.map #[] 0)) 98 #[.map (some (w.heap.size + 1))]; rwa [z2] at this
  have q3 : Blk ((((w.alloc (.cells #[.string p.name, .slice y.a1 p.ss.length y.c1, .slice y.a2 p.ms.length y.c2] 34)).alloc (.map #[] 0)).alloc (.cells #[.map (some (w.heap.size + 1))] 98)).alloc (.cells #[.func (.func 96) #[] #[.pointer (some ⟨w.heap.size + 1 + 1, 0, none⟩), .pointer (some ⟨w.heap.size, 0, none⟩), .pointer (some ⟨w.heap.size + 1 + 1 + 1, 0, none⟩)]] 137)) (w.heap.size + 1 + 1 + 1) 137 #[.func (.func 96) #[] #[.pointer (some ⟨w.heap.size + 1 + 1, 0, none⟩), .pointer (some ⟨w.heap.size, 0, none⟩), .pointer (some ⟨w.heap.size + 1 + 1 + 1, 0, none⟩)]] := by have := Blk.new (((w.alloc (.cells #[.string p.name, .slice y.a1 p.ss.length y.c1, .slice y.a2 p.ms.length y.c2] 34)).alloc (.map #[] 0)).alloc (.cells #[.map (some (w.heap.size + 1))] 98)) 137 #[.func (.func 96) #[] #[.pointer (some ⟨w.heap.size + 1 + 1, 0, none⟩), .pointer (some ⟨w.heap.size, 0, none⟩), .pointer (some ⟨w.heap.size + 1 + 1 + 1, 0, none⟩)]]; rwa [z3] at this
  have hb4 : Below w.heap.size w ((((w.alloc (.cells #[.string p.name, .slice y.a1 p.ss.length y.c1, .slice y.a2 p.ms.length y.c2] 34)).alloc (.map #[] 0)).alloc (.cells #[.map (some (w.heap.size + 1))] 98)).alloc (.cells #[.func (.func 96) #[] #[.pointer (some ⟨w.heap.size + 1 + 1, 0, none⟩), .pointer (some ⟨w.heap.size, 0, none⟩), .pointer (some ⟨w.heap.size + 1 + 1 + 1, 0, none⟩)]] 137)) := (((hb.alloc hb.size _).alloc (by rw [z2]; omega) _).alloc (by rw [z3]; omega) _)
  have HK := Lib.hid (⟨q2.alloc _, ((kx.alloc _).alloc _).alloc _, q3, hms.below (hb4.mono hB), Nat.le_trans hB hb4.size, by omega, by omega, by omega, by omega⟩ : BkAt ((((w.alloc (.cells #[.string p.name, .slice y.a1 p.ss.length y.c1, .slice y.a2 p.ms.length y.c2] 34)).alloc (.map #[] 0)).alloc (.cells #[.map (some (w.heap.size + 1))] 98)).alloc (.cells #[.func (.func 96) #[] #[.pointer (some ⟨w.heap.size + 1 + 1, 0, none⟩), .pointer (some ⟨w.heap.size, 0, none⟩), .pointer (some ⟨w.heap.size + 1 + 1 + 1, 0, none⟩)]] 137)) B (w.heap.size + 1) (w.heap.size + 1 + 1) w.heap.size (w.heap.size + 1 + 1 + 1) p y)
  have HM := Lib.hid ((q1.alloc (.cells #[.map (some (w.heap.size + 1))] 98)).alloc (.cells #[.func (.func 96) #[] #[.pointer (some ⟨w.heap.size + 1 + 1, 0, none⟩), .pointer (some ⟨w.heap.size, 0, none⟩), .pointer (some ⟨w.heap.size + 1 + 1 + 1, 0, none⟩)]] 137))
  have HB4 := Lib.hid hb4
  have HIN := Lib.hid hin
  have HBK := Lib.hid hback
  clear z1 z2 z3 q1 q2 q3 hb4 hb kx hms h hin hback hmm t0 t1 t2
  generalize (((w.alloc (.cells #[.string p.name, .slice y.a1 p.ss.length y.c1, .slice y.a2 p.ms.length y.c2] 34)).alloc (.map #[] 0)).alloc (.cells #[.map (some (w.heap.size + 1))] 98)).alloc (.cells #[.func (.func 96) #[] #[.pointer (some ⟨w.heap.size + 1 + 1, 0, none⟩), .pointer (some ⟨w.heap.size, 0, none⟩), .pointer (some ⟨w.heap.size + 1 + 1 + 1, 0, none⟩)]] 137) = W4 at *
  go_loopw [11] (fun i wr => ∃ k : Nat, k ≤ p.ss.length ∧ i = .int .i64 (k : Int) ∧ ∃ V, Hid (SeenK p V k) ∧ Hid (MapV wr (w.heap.size + 1) (kInts V)) ∧ Hid (BkAt wr B (w.heap.size + 1) (w.heap.size + 1 + 1) w.heap.size (w.heap.size + 1 + 1 + 1) p y) ∧ Hid (Below w.heap.size w wr)) (fun i _ => p.ss.length - (intOf i).toNat)
  case atStart => exact ⟨0, Nat.zero_le _, rfl, [], Lib.hid (SeenK.zero p), HM, HK, HB4⟩
  case round =>
    clear HM HK HB4
    obtain ⟨k, hk, rfl, V, HS, HM, HK, HB⟩ := hrel
    by_cases hlt : k < p.ss.length
    · obtain ⟨t0, t1, t2⟩ := HK.out.cp.all
      have kb := Blk.new wr 3 #[.int .i64 (k : Int)]
      have ba := below_self_alloc wr (.cells #[.int .i64 (k : Int)] 3)
      have HKa := Lib.hid (HK.out.only (Only.of_below ba _))
      have HMa := Lib.hid (HM.out.alloc (.cells #[.int .i64 (k : Int)] 3))
      have HBa := Lib.hid (HB.out.alloc HB.out.size (.cells #[.int .i64 (k : Int)] 3))
      obtain ⟨r, hr⟩ : ∃ r, (p.ms.any fun m => decide (m.1 = (k : Int))) = r := ⟨_, rfl⟩
      have hc := containsM_any (wr.alloc (.cells #[.int .i64 (k : Int)] 3)) B y.a2 p.ms y.c2 HKa.out.ms HKa.out.hB (by omega) (fun m => decide (m.1 = (k : Int))) 98 #[.pointer (some ⟨wr.heap.size, 0, none⟩)] (enters_of Tryz.func98 (by kernel_rfl) rfl) (fun W m _ hW => gfrom_any W wr.heap.size (k : Int) ((kb.below hW kb.lt).cell 0) (kb.below hW kb.lt).lt m)
      rw [hr] at hc
      have HC := Lib.hid hc
      have HR := Lib.hid hr
      obtain ⟨u0, u1, u2⟩ := kb.all
      obtain ⟨v0, v1, v2⟩ := HKa.out.cp.all
      have v0' : ∀ i, (wr.alloc (.cells #[.int .i64 (k : Int)] 3)).cell? ⟨w.heap.size, i, none⟩ = (#[.string p.name, .slice y.a1 p.ss.length y.c1, .slice y.a2 p.ms.length y.c2] : Array Value)[i]? := v0
      clear hc hr kb t0 t1 t2 v0
      go_wp2_with fail
      refine HC.out.mono ?_
      rintro e w2 ⟨rfl, b2⟩
      have HK2 := Lib.hid (HKa.out.only (Only.of_below b2 _))
      have HM2 := Lib.hid (HMa.out.below b2 HMa.out.lt)
      have HB2 := Lib.hid (HBa.out.trans (b2.mono HBa.out.size))
      have KB2 := Lib.hid ((Blk.new wr 3 #[.int .i64 (k : Int)]).below b2 (Blk.new wr 3 #[.int .i64 (k : Int)]).lt)
      clear b2 HC u0 u1 u2 v0' v1 v2 HKa HMa HBa ba
      cases r with
      | true =>
        obtain ⟨m, hm, he⟩ := List.any_eq_true.1 HR.out
        have HS2 := Lib.hid (HS.out.skip hm (of_decide_eq_true he))
        clear hm he HR
        go_wp2
        go_roundw
        case rel => exact ⟨k + 1, by omega, by go_num, V, HS2, HM2, HK2, HB2⟩
        case measure => simp [intOf]; omega
      | false =>
        have hend : endAt p (k : Int) := ⟨by omega, by omega, fun m hm he => by
          have := (List.any_eq_false.1 HR.out) m hm
          exact this (decide_eq_true he)⟩
        have HE := Lib.hid hend
        clear hend HR
        have HC := Lib.hid (HBK.out _ _ _ _ w2 V (k : Int) HK2.out HM2.out HS.out.nd (fun x hx => (HS.out.ends x hx).in_ HIN.out) ⟨by omega, by omega⟩ (by omega))
        obtain ⟨u0, u1, u2⟩ := KB2.out.all
        obtain ⟨v0, v1, v2⟩ := HK2.out.cf.all
        go_wp2_with fail
        refine HC.out.mono ?_
        rintro e w3 ⟨rfl, X, hX, hMX, hOX⟩
        have HS2 := Lib.hid (HS.out.next HE.out hX)
        have HM3 := Lib.hid hMX
        have HK3 := Lib.hid (HK2.out.only hOX)
        have HB3 := Lib.hid (HB2.out.trans (hOX.below HB2.out.size fun i hi => by omega))
        clear hX hMX hOX u0 u1 u2 v0 v1 v2 HC
        go_wp2
        go_roundw
        case rel => exact ⟨k + 1, by omega, by go_num, V ++ X, HS2, HM3, HK3, HB3⟩
        case measure => simp [intOf]; omega
    · obtain rfl : k = p.ss.length := by omega
      obtain ⟨t0, t1, t2⟩ := HK.out.cm.all
      have HD := Lib.hid HS.out.done
      clear HS HIN HBK
      go_wp2
      go_ret
      exact ⟨_, V, rfl, by omega, HM.out, HD.out, HB.out⟩
end Go.Proofs.YtknchlpcpgflkaaGreatDoor

namespace Go.Proofs.YtknchlpcpgflkaaGreatDoor
export Lim (letter_any digit_any word_any wrd_go nm_wrd wrd_no name_any rStop_any rTerm_any rIs_any all_take rProper_any)
end Go.Proofs.YtknchlpcpgflkaaGreatDoor

namespace Go.Proofs.YtknchlpcpgflkaaGreatDoor
open Go.RowKit Go.Shelf

end Go.Proofs.YtknchlpcpgflkaaGreatDoor
