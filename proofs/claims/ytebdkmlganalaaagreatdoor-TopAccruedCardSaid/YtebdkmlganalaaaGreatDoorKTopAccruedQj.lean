/- Package matter's different, at its four types. -/
import Derived.Test.YtebdkmlganalaaaGreatDoorKTopAccruedGAL
import Derived.Laws.EntriesVeiled
namespace Go.Proofs.YtebdkmlganalaaaGreatDoor
open Go.RowKit Go.Shelf

/-- The map of the keys that were seen. -/
def seenL {α : Type} (kv : α → Value) (l : List α) (k : Nat) : List (Value × Value) := (l.take k).map fun x => (kv x, .bool true)
theorem seenL_next {α : Type} {kv : α → Value} {l : List α} {k : Nat} {x : α} (h : l[k]? = some x) : seenL kv l (k + 1) = seenL kv l k ++ [(kv x, .bool true)] := by
  unfold seenL
  rw [take_snoc' h, List.map_append]
  rfl
theorem seenL_mem {α κ : Type} {kv : α → Value} {key : α → κ} {f : κ → Value} (hkv : ∀ x, kv x = f (key x)) {l : List α} {k : Nat} {x : α} (h : key x ∈ (l.take k).map key) : (kv x, Value.bool true) ∈ seenL kv l k := by
  obtain ⟨y, hy, he⟩ := List.mem_map.1 h
  exact List.mem_map.2 ⟨y, hy, by rw [hkv x, hkv y, he]⟩
theorem seenL_ne {α κ : Type} {kv : α → Value} {key : α → κ} {f : κ → Value} (hkv : ∀ x, kv x = f (key x)) (hf : ∀ a b, f a = f b → a = b) {l : List α} {k : Nat} {x : α} (h : key x ∉ (l.take k).map key) : ∀ p ∈ seenL kv l k, p.1 ≠ kv x := by
  intro p hp he
  obtain ⟨y, hy, rfl⟩ := List.mem_map.1 hp
  simp only [hkv] at he
  exact h (List.mem_map.2 ⟨y, hy, hf _ _ he⟩)
theorem seenL_G {α : Type} {kv : α → Value} {G : Value → Prop} (h : ∀ x, G (kv x)) (l : List α) (k : Nat) : ∀ p ∈ seenL kv l k, G p.1 := by
  intro p hp
  obtain ⟨y, hy, rfl⟩ := List.mem_map.1 hp
  exact h y

theorem keyS_any (w : World) (x : ByteArray) : Calls Tryz.prog 56 #[.string x] w fun e w' => e = .returned (.string x) ∧ Below w.heap.size w w' := by
  go_enter Tryz.func56, Tryz.ntmps56
  go_wp2
  go_ret
  exact ⟨rfl, Below.refl _ _⟩

set_option maxRecDepth 100000 in
set_option maxHeartbeats 4000000 in
theorem difS_any (w : World) (B : Nat) (A : Option Addr) (l : List ByteArray) (c : Nat) (h : BtsAt w B A l) (hB : B ≤ w.heap.size) (hl : l.length ≤ 4611686018427387904) (good : ByteArray → Bool) (gf : Nat) (lb : Array Value)
    (eg : ∀ args w, (callFunc gf args).run Tryz.prog w = .ok (.enter gf args) w)
    (hp : ∀ W x, x ∈ l → Below w.heap.size w W → Calls Tryz.prog gf (#[.string x] ++ lb) W fun e w' => e = .returned (.bool (good x)) ∧ Below W.heap.size W w') :
    Calls Tryz.prog 55 #[.slice A l.length c, .func (.func 56) #[] #[], .func (.func gf) #[] lb] w fun e w' => e = .returned (.bool (difB id good l)) ∧ Below w.heap.size w w' := by
  have ek := enters_of Tryz.func56 (by kernel_rfl) rfl
  have hz := fun W => Tryz.zeroValue4 W
  obtain ⟨r, hr⟩ : ∃ r, difB id good l = r := ⟨_, rfl⟩
  rw [hr]
  have HR := Lib.hid hr
  have HP := Lib.hid hp
  have HH := Lib.hid h
  have hb0 := (Below.refl w.heap.size w).alloc (Nat.le_refl _) (.map #[] 0)
  have hm0 := MapV.made w
  have hmm := @run_makeMap Tryz.prog
  clear hr hp h
  go_enter Tryz.func55, Tryz.ntmps55
  go_wp2_with fail
  go_loopw [13] (fun i wr => ∃ k : Nat, k ≤ l.length ∧ i = .int .i64 (k : Int) ∧ Hid (difTo id good l k) ∧ Hid (MapV wr w.heap.size (seenL (fun x : ByteArray => (.string x : Value)) l k)) ∧ Below w.heap.size w wr) (fun i _ => l.length - (intOf i).toNat)
  case atStart => exact ⟨0, Nat.zero_le _, rfl, Lib.hid difTo_zero, Lib.hid hm0, hb0⟩
  case round =>
    clear hb0 hm0 hmm
    obtain ⟨k, hk, rfl, HD, HM, hb⟩ := hrel
    by_cases hlt : k < l.length
    · obtain ⟨x, hx⟩ : ∃ x, l[k]? = some x := ⟨_, List.getElem?_eq_getElem hlt⟩
      obtain ⟨g, off, hA, hg, c0⟩ := (HH.out.below (hb.mono hB)) k x hx
      subst hA
      have hmem := List.mem_of_getElem? hx
      have HX := Lib.hid hx
      clear hx
      have b0 : Below w.heap.size w wr := hb
      have m0 : MapV wr w.heap.size (seenL (fun x : ByteArray => (.string x : Value)) l k) := HM.out
      have HG := Lib.hid (HP.out wr x hmem b0)
      have M0 := Lib.hid m0
      have B0 := Lib.hid b0
      clear m0 b0 hb HM hmem
      go_wp2_with fail
      cases hg : good x with
      | false =>
        have hrr : r = false := by rw [← HR.out]; exact difB_bad HX.out hg
        subst hrr
        have hG := HG.out
        rw [hg] at hG
        have HG' := Lib.hid hG
        clear hG HG hg
        refine HG'.out.mono ?_
        rintro e w2 ⟨rfl, b2⟩
        have hb2 := B0.out.trans (b2.mono B0.out.size)
        clear b2
        go_wp2
        go_ret
        exact ⟨rfl, hb2⟩
      | true =>
        have hG := HG.out
        rw [hg] at hG
        have HG' := Lib.hid hG
        have HGD := Lib.hid hg
        clear hG HG hg
        refine HG'.out.mono ?_
        rintro e w2 ⟨rfl, b2⟩
        have B2 := Lib.hid (B0.out.trans (b2.mono B0.out.size))
        have M2 := Lib.hid (M0.out.below b2 M0.out.lt)
        clear b2
        go_wp2_with fail
        refine (keyS_any _ x).mono ?_
        rintro e w3 ⟨rfl, b3⟩
        have B3 := Lib.hid (B2.out.trans (b3.mono B2.out.size))
        have M3 := Lib.hid (M2.out.below b3 M2.out.lt)
        clear b3
        by_cases hdup : x ∈ (l.take k).map id
        · have hrr : r = false := by rw [← HR.out]; exact difB_twice HX.out hdup
          subst hrr
          have lk : (Instr.lookup 115 (.map (some w.heap.size)) (.string x) false).run Tryz.prog w3 = .ok (.bool true) w3 := M3.out.look_some kysStr Tryz.underlying115 (seenL_G (fun x => ⟨x, rfl⟩) l k) (seenL_mem (f := fun s => Value.string s) (fun _ => rfl) hdup) false
          clear hdup
          go_wp2
          go_ret
          exact ⟨rfl, B3.out⟩
        · have lk : (Instr.lookup 115 (.map (some w.heap.size)) (.string x) false).run Tryz.prog w3 = .ok (.bool false) w3 := M3.out.look_none kysStr Tryz.underlying115 (seenL_G (fun x => ⟨x, rfl⟩) l k) ⟨x, rfl⟩ (seenL_ne (f := fun s => Value.string s) (fun _ => rfl) (fun a b h => Value.string.inj h) hdup) (hz w3) false
          have hdx := Lib.hid (difTo_next HD.out HX.out HGD.out hdup)
          have hne := Lib.hid (seenL_ne (kv := fun x : ByteArray => (.string x : Value)) (f := fun s => Value.string s) (fun _ => rfl) (fun a b h => Value.string.inj h) hdup)
          clear hdup
          go_wp2_with fail
          refine (keyS_any _ x).mono ?_
          rintro e w4 ⟨rfl, b4⟩
          have B4 := Lib.hid (B3.out.trans (b4.mono B3.out.size))
          have M4 := Lib.hid (M3.out.below b4 M3.out.lt)
          clear b4 lk
          obtain ⟨w5, hu, hm5, hg5⟩ := M4.out.upd_none kysStr Tryz.underlying115 (seenL_G (fun x => ⟨x, rfl⟩) l k) (x := .string x) ⟨x, rfl⟩ hne.out (.bool true)
          have hb5 := B4.out.grown hg5 B4.out.size (fun j e => by injection e with e; omega)
          have HM5 := Lib.hid hm5
          clear hm5 hg5
          go_wp2
          go_roundw
          case rel => exact ⟨k + 1, by omega, by go_num, hdx, Lib.hid (by rw [seenL_next HX.out]; exact HM5.out), hb5⟩
          case measure => simp [intOf]; omega
    · obtain rfl : k = l.length := by omega
      have hend := HR.out
      rw [difB_end HD.out] at hend
      have HE := Lib.hid hend
      clear hend
      by_cases h60 : l.length ≤ 60
      · have d60 : decide ((l.length : Int) ≤ 60) = true := decide_eq_true (by omega)
        have hrr : r = true := by rw [← HE.out]; exact decide_eq_true h60
        subst hrr
        clear h60
        go_wp2
        go_ret
        exact ⟨rfl, hb⟩
      · have d60 : decide ((l.length : Int) ≤ 60) = false := decide_eq_false (by omega)
        have hrr : r = false := by rw [← HE.out]; exact decide_eq_false h60
        subst hrr
        clear h60
        go_wp2
        go_ret
        exact ⟨rfl, hb⟩

theorem keyM_any (w : World) (x : I2) : Calls Tryz.prog 58 #[.agg #[.int .i64 x.1, .int .i64 x.2]] w fun e w' => e = .returned (.agg #[.int .i64 x.1, .int .i64 x.2]) ∧ Below w.heap.size w w' := by
  have hb := (Below.refl w.heap.size w).alloc (Nat.le_refl _) (.cells #[.int .i64 x.1, .int .i64 x.2] 90)
  go_enter Tryz.func58, Tryz.ntmps58
  go_wp2
  exact bodyPost_ret (v := .agg #[.int .i64 x.1, .int .i64 x.2]) (by simp [results, Tryz.results58, go_sem]) rfl ⟨rfl, hb.alloc hb.size _⟩

set_option maxRecDepth 100000 in
set_option maxHeartbeats 4000000 in
theorem difM_any (w : World) (B : Nat) (A : Option Addr) (l : List I2) (c : Nat) (h : StopsAt w B A l) (hB : B ≤ w.heap.size) (hl : l.length ≤ 4611686018427387904) (good : I2 → Bool) (gf : Nat) (lb : Array Value)
    (eg : ∀ args w, (callFunc gf args).run Tryz.prog w = .ok (.enter gf args) w)
    (hp : ∀ W x, x ∈ l → Below w.heap.size w W → Calls Tryz.prog gf (#[.agg #[.int .i64 x.1, .int .i64 x.2]] ++ lb) W fun e w' => e = .returned (.bool (good x)) ∧ Below W.heap.size W w') :
    Calls Tryz.prog 57 #[.slice A l.length c, .func (.func 58) #[] #[], .func (.func gf) #[] lb] w fun e w' => e = .returned (.bool (difB id good l)) ∧ Below w.heap.size w w' := by
  have ek := enters_of Tryz.func58 (by kernel_rfl) rfl
  have hz := fun W => Tryz.zeroValue4 W
  obtain ⟨r, hr⟩ : ∃ r, difB id good l = r := ⟨_, rfl⟩
  rw [hr]
  have HR := Lib.hid hr
  have HP := Lib.hid hp
  have HH := Lib.hid h
  have hb0 := (Below.refl w.heap.size w).alloc (Nat.le_refl _) (.map #[] 0)
  have hm0 := MapV.made w
  have hmm := @run_makeMap Tryz.prog
  clear hr hp h
  go_enter Tryz.func57, Tryz.ntmps57
  go_wp2_with fail
  go_loopw [13] (fun i wr => ∃ k : Nat, k ≤ l.length ∧ i = .int .i64 (k : Int) ∧ Hid (difTo id good l k) ∧ Hid (MapV wr w.heap.size (seenL (fun x : I2 => (.agg #[.int .i64 x.1, .int .i64 x.2] : Value)) l k)) ∧ Below w.heap.size w wr) (fun i _ => l.length - (intOf i).toNat)
  case atStart => exact ⟨0, Nat.zero_le _, rfl, Lib.hid difTo_zero, Lib.hid hm0, hb0⟩
  case round =>
    clear hb0 hm0 hmm
    obtain ⟨k, hk, rfl, HD, HM, hb⟩ := hrel
    by_cases hlt : k < l.length
    · obtain ⟨x, hx⟩ : ∃ x, l[k]? = some x := ⟨_, List.getElem?_eq_getElem hlt⟩
      obtain ⟨g, off, hA, hg, c0, c1⟩ := (HH.out.below (hb.mono hB)) k x hx
      subst hA
      have hmem := List.mem_of_getElem? hx
      have HX := Lib.hid hx
      clear hx
      have b0 : Below w.heap.size w (wr.alloc (.cells #[.int .i64 x.1, .int .i64 x.2] 90)) := hb.alloc hb.size _
      have kx := Blk.new wr 90 #[.int .i64 x.1, .int .i64 x.2]
      obtain ⟨t0, t1, t2⟩ := kx.all
      have KX := Lib.hid kx
      clear kx
      have m0 : MapV (wr.alloc (.cells #[.int .i64 x.1, .int .i64 x.2] 90)) w.heap.size (seenL (fun x : I2 => (.agg #[.int .i64 x.1, .int .i64 x.2] : Value)) l k) := HM.out.alloc _
      have HG := Lib.hid (HP.out (wr.alloc (.cells #[.int .i64 x.1, .int .i64 x.2] 90)) x hmem b0)
      have M0 := Lib.hid m0
      have B0 := Lib.hid b0
      clear m0 b0 hb HM hmem
      go_wp2_with fail
      cases hg : good x with
      | false =>
        have hrr : r = false := by rw [← HR.out]; exact difB_bad HX.out hg
        subst hrr
        have hG := HG.out
        rw [hg] at hG
        have HG' := Lib.hid hG
        clear hG HG hg
        refine HG'.out.mono ?_
        rintro e w2 ⟨rfl, b2⟩
        have hb2 := B0.out.trans (b2.mono B0.out.size)
        clear t0 t1 t2 b2
        go_wp2
        go_ret
        exact ⟨rfl, hb2⟩
      | true =>
        have hG := HG.out
        rw [hg] at hG
        have HG' := Lib.hid hG
        have HGD := Lib.hid hg
        clear hG HG hg
        refine HG'.out.mono ?_
        rintro e w2 ⟨rfl, b2⟩
        have B2 := Lib.hid (B0.out.trans (b2.mono B0.out.size))
        have M2 := Lib.hid (M0.out.below b2 M0.out.lt)
        have K2 := Lib.hid (KX.out.below b2 KX.out.lt)
        clear t0 t1 t2
        obtain ⟨t0, t1, t2⟩ := K2.out.all
        clear b2
        go_wp2_with fail
        refine (keyM_any _ x).mono ?_
        rintro e w3 ⟨rfl, b3⟩
        have B3 := Lib.hid (B2.out.trans (b3.mono B2.out.size))
        have M3 := Lib.hid (M2.out.below b3 M2.out.lt)
        have K3 := Lib.hid (K2.out.below b3 K2.out.lt)
        clear t0 t1 t2
        obtain ⟨t0, t1, t2⟩ := K3.out.all
        clear b3
        by_cases hdup : x ∈ (l.take k).map id
        · have hrr : r = false := by rw [← HR.out]; exact difB_twice HX.out hdup
          subst hrr
          have lk : (Instr.lookup 153 (.map (some w.heap.size)) (.agg #[.int .i64 x.1, .int .i64 x.2]) false).run Tryz.prog w3 = .ok (.bool true) w3 := M3.out.look_some kys2 Tryz.underlying153 (seenL_G (fun x => ⟨x.1, x.2, rfl⟩) l k) (seenL_mem (f := fun m : I2 => Value.agg #[.int .i64 m.1, .int .i64 m.2]) (fun _ => rfl) hdup) false
          clear hdup
          go_wp2
          go_ret
          exact ⟨rfl, B3.out⟩
        · have lk : (Instr.lookup 153 (.map (some w.heap.size)) (.agg #[.int .i64 x.1, .int .i64 x.2]) false).run Tryz.prog w3 = .ok (.bool false) w3 := M3.out.look_none kys2 Tryz.underlying153 (seenL_G (fun x => ⟨x.1, x.2, rfl⟩) l k) ⟨x.1, x.2, rfl⟩ (seenL_ne (f := fun m : I2 => Value.agg #[.int .i64 m.1, .int .i64 m.2]) (fun _ => rfl) (fun a b h => by obtain ⟨a1, a2⟩ := a; obtain ⟨b1, b2⟩ := b; simp at h; rw [h.1, h.2]) hdup) (hz w3) false
          have hdx := Lib.hid (difTo_next HD.out HX.out HGD.out hdup)
          have hne := Lib.hid (seenL_ne (kv := fun x : I2 => (.agg #[.int .i64 x.1, .int .i64 x.2] : Value)) (f := fun m : I2 => Value.agg #[.int .i64 m.1, .int .i64 m.2]) (fun _ => rfl) (fun a b h => by obtain ⟨a1, a2⟩ := a; obtain ⟨b1, b2⟩ := b; simp at h; rw [h.1, h.2]) hdup)
          clear hdup
          go_wp2_with fail
          refine (keyM_any _ x).mono ?_
          rintro e w4 ⟨rfl, b4⟩
          have B4 := Lib.hid (B3.out.trans (b4.mono B3.out.size))
          have M4 := Lib.hid (M3.out.below b4 M3.out.lt)
          clear b4 lk
          obtain ⟨w5, hu, hm5, hg5⟩ := M4.out.upd_none kys2 Tryz.underlying153 (seenL_G (fun x => ⟨x.1, x.2, rfl⟩) l k) (x := .agg #[.int .i64 x.1, .int .i64 x.2]) ⟨x.1, x.2, rfl⟩ hne.out (.bool true)
          have hb5 := B4.out.grown hg5 B4.out.size (fun j e => by injection e with e; omega)
          have HM5 := Lib.hid hm5
          clear hm5 hg5
          go_wp2
          go_roundw
          case rel => exact ⟨k + 1, by omega, by go_num, hdx, Lib.hid (by rw [seenL_next HX.out]; exact HM5.out), hb5⟩
          case measure => simp [intOf]; omega
    · obtain rfl : k = l.length := by omega
      have hend := HR.out
      rw [difB_end HD.out] at hend
      have HE := Lib.hid hend
      clear hend
      by_cases h60 : l.length ≤ 60
      · have d60 : decide ((l.length : Int) ≤ 60) = true := decide_eq_true (by omega)
        have hrr : r = true := by rw [← HE.out]; exact decide_eq_true h60
        subst hrr
        clear h60
        go_wp2
        go_ret
        exact ⟨rfl, hb⟩
      · have d60 : decide ((l.length : Int) ≤ 60) = false := decide_eq_false (by omega)
        have hrr : r = false := by rw [← HE.out]; exact decide_eq_false h60
        subst hrr
        clear h60
        go_wp2
        go_ret
        exact ⟨rfl, hb⟩

theorem keyR_any (w : World) (x : Rt) : Calls Tryz.prog 50 #[.agg #[.string x.1, .int .i64 x.2]] w fun e w' => e = .returned (.string x.1) ∧ Below w.heap.size w w' := by
  have hb := (Below.refl w.heap.size w).alloc (Nat.le_refl _) (.cells #[.string x.1, .int .i64 x.2] 53)
  go_enter Tryz.func50, Tryz.ntmps50
  go_wp2
  go_ret
  exact ⟨rfl, hb⟩

set_option maxRecDepth 100000 in
set_option maxHeartbeats 4000000 in
theorem difR_any (w : World) (B : Nat) (A : Option Addr) (l : List Rt) (c : Nat) (h : RtsAt w B A l) (hB : B ≤ w.heap.size) (hl : l.length ≤ 4611686018427387904) (good : Rt → Bool) (gf : Nat) (lb : Array Value)
    (eg : ∀ args w, (callFunc gf args).run Tryz.prog w = .ok (.enter gf args) w)
    (hp : ∀ W x, x ∈ l → Below w.heap.size w W → Calls Tryz.prog gf (#[.agg #[.string x.1, .int .i64 x.2]] ++ lb) W fun e w' => e = .returned (.bool (good x)) ∧ Below W.heap.size W w') :
    Calls Tryz.prog 49 #[.slice A l.length c, .func (.func 50) #[] #[], .func (.func gf) #[] lb] w fun e w' => e = .returned (.bool (difB (·.1) good l)) ∧ Below w.heap.size w w' := by
  have ek := enters_of Tryz.func50 (by kernel_rfl) rfl
  have hz := fun W => Tryz.zeroValue4 W
  obtain ⟨r, hr⟩ : ∃ r, difB (·.1) good l = r := ⟨_, rfl⟩
  rw [hr]
  have HR := Lib.hid hr
  have HP := Lib.hid hp
  have HH := Lib.hid h
  have hb0 := (Below.refl w.heap.size w).alloc (Nat.le_refl _) (.map #[] 0)
  have hm0 := MapV.made w
  have hmm := @run_makeMap Tryz.prog
  clear hr hp h
  go_enter Tryz.func49, Tryz.ntmps49
  go_wp2_with fail
  go_loopw [13] (fun i wr => ∃ k : Nat, k ≤ l.length ∧ i = .int .i64 (k : Int) ∧ Hid (difTo (·.1) good l k) ∧ Hid (MapV wr w.heap.size (seenL (fun x : Rt => (.string x.1 : Value)) l k)) ∧ Below w.heap.size w wr) (fun i _ => l.length - (intOf i).toNat)
  case atStart => exact ⟨0, Nat.zero_le _, rfl, Lib.hid difTo_zero, Lib.hid hm0, hb0⟩
  case round =>
    clear hb0 hm0 hmm
    obtain ⟨k, hk, rfl, HD, HM, hb⟩ := hrel
    by_cases hlt : k < l.length
    · obtain ⟨x, hx⟩ : ∃ x, l[k]? = some x := ⟨_, List.getElem?_eq_getElem hlt⟩
      obtain ⟨g, off, hA, hg, c0, c1⟩ := (HH.out.below (hb.mono hB)) k x hx
      subst hA
      have hmem := List.mem_of_getElem? hx
      have HX := Lib.hid hx
      clear hx
      have b0 : Below w.heap.size w (wr.alloc (.cells #[.string x.1, .int .i64 x.2] 53)) := hb.alloc hb.size _
      have kx := Blk.new wr 53 #[.string x.1, .int .i64 x.2]
      obtain ⟨t0, t1, t2⟩ := kx.all
      have KX := Lib.hid kx
      clear kx
      have m0 : MapV (wr.alloc (.cells #[.string x.1, .int .i64 x.2] 53)) w.heap.size (seenL (fun x : Rt => (.string x.1 : Value)) l k) := HM.out.alloc _
      have HG := Lib.hid (HP.out (wr.alloc (.cells #[.string x.1, .int .i64 x.2] 53)) x hmem b0)
      have M0 := Lib.hid m0
      have B0 := Lib.hid b0
      clear m0 b0 hb HM hmem
      go_wp2_with fail
      cases hg : good x with
      | false =>
        have hrr : r = false := by rw [← HR.out]; exact difB_bad HX.out hg
        subst hrr
        have hG := HG.out
        rw [hg] at hG
        have HG' := Lib.hid hG
        clear hG HG hg
        refine HG'.out.mono ?_
        rintro e w2 ⟨rfl, b2⟩
        have hb2 := B0.out.trans (b2.mono B0.out.size)
        clear t0 t1 t2 b2
        go_wp2
        go_ret
        exact ⟨rfl, hb2⟩
      | true =>
        have hG := HG.out
        rw [hg] at hG
        have HG' := Lib.hid hG
        have HGD := Lib.hid hg
        clear hG HG hg
        refine HG'.out.mono ?_
        rintro e w2 ⟨rfl, b2⟩
        have B2 := Lib.hid (B0.out.trans (b2.mono B0.out.size))
        have M2 := Lib.hid (M0.out.below b2 M0.out.lt)
        have K2 := Lib.hid (KX.out.below b2 KX.out.lt)
        clear t0 t1 t2
        obtain ⟨t0, t1, t2⟩ := K2.out.all
        clear b2
        go_wp2_with fail
        refine (keyR_any _ x).mono ?_
        rintro e w3 ⟨rfl, b3⟩
        have B3 := Lib.hid (B2.out.trans (b3.mono B2.out.size))
        have M3 := Lib.hid (M2.out.below b3 M2.out.lt)
        have K3 := Lib.hid (K2.out.below b3 K2.out.lt)
        clear t0 t1 t2
        obtain ⟨t0, t1, t2⟩ := K3.out.all
        clear b3
        by_cases hdup : x.1 ∈ (l.take k).map (·.1)
        · have hrr : r = false := by rw [← HR.out]; exact difB_twice HX.out hdup
          subst hrr
          have lk : (Instr.lookup 115 (.map (some w.heap.size)) (.string x.1) false).run Tryz.prog w3 = .ok (.bool true) w3 := M3.out.look_some kysStr Tryz.underlying115 (seenL_G (fun x => ⟨x.1, rfl⟩) l k) (seenL_mem (f := fun s => Value.string s) (fun _ => rfl) hdup) false
          clear hdup
          go_wp2
          go_ret
          exact ⟨rfl, B3.out⟩
        · have lk : (Instr.lookup 115 (.map (some w.heap.size)) (.string x.1) false).run Tryz.prog w3 = .ok (.bool false) w3 := M3.out.look_none kysStr Tryz.underlying115 (seenL_G (fun x => ⟨x.1, rfl⟩) l k) ⟨x.1, rfl⟩ (seenL_ne (f := fun s => Value.string s) (fun _ => rfl) (fun a b h => Value.string.inj h) hdup) (hz w3) false
          have hdx := Lib.hid (difTo_next HD.out HX.out HGD.out hdup)
          have hne := Lib.hid (seenL_ne (kv := fun x : Rt => (.string x.1 : Value)) (f := fun s => Value.string s) (fun _ => rfl) (fun a b h => Value.string.inj h) hdup)
          clear hdup
          go_wp2_with fail
          refine (keyR_any _ x).mono ?_
          rintro e w4 ⟨rfl, b4⟩
          have B4 := Lib.hid (B3.out.trans (b4.mono B3.out.size))
          have M4 := Lib.hid (M3.out.below b4 M3.out.lt)
          clear b4 lk
          obtain ⟨w5, hu, hm5, hg5⟩ := M4.out.upd_none kysStr Tryz.underlying115 (seenL_G (fun x => ⟨x.1, rfl⟩) l k) (x := .string x.1) ⟨x.1, rfl⟩ hne.out (.bool true)
          have hb5 := B4.out.grown hg5 B4.out.size (fun j e => by injection e with e; omega)
          have HM5 := Lib.hid hm5
          clear hm5 hg5
          go_wp2
          go_roundw
          case rel => exact ⟨k + 1, by omega, by go_num, hdx, Lib.hid (by rw [seenL_next HX.out]; exact HM5.out), hb5⟩
          case measure => simp [intOf]; omega
    · obtain rfl : k = l.length := by omega
      have hend := HR.out
      rw [difB_end HD.out] at hend
      have HE := Lib.hid hend
      clear hend
      by_cases h60 : l.length ≤ 60
      · have d60 : decide ((l.length : Int) ≤ 60) = true := decide_eq_true (by omega)
        have hrr : r = true := by rw [← HE.out]; exact decide_eq_true h60
        subst hrr
        clear h60
        go_wp2
        go_ret
        exact ⟨rfl, hb⟩
      · have d60 : decide ((l.length : Int) ≤ 60) = false := decide_eq_false (by omega)
        have hrr : r = false := by rw [← HE.out]; exact decide_eq_false h60
        subst hrr
        clear h60
        go_wp2
        go_ret
        exact ⟨rfl, hb⟩

theorem keyL_any (w : World) (x : LmV) : Calls Tryz.prog 53 #[.agg #[.string x.1.id, .int .i64 x.1.n, .int .i64 x.1.u, .int .i64 x.1.f, .slice x.2.1 x.1.S.length x.2.2]] w fun e w' => e = .returned (.string x.1.id) ∧ Below w.heap.size w w' := by
  have hb := (Below.refl w.heap.size w).alloc (Nat.le_refl _) (.cells #[.string x.1.id, .int .i64 x.1.n, .int .i64 x.1.u, .int .i64 x.1.f, .slice x.2.1 x.1.S.length x.2.2] 66)
  go_enter Tryz.func53, Tryz.ntmps53
  go_wp2
  go_ret
  exact ⟨rfl, hb⟩

set_option maxRecDepth 100000 in
set_option maxHeartbeats 4000000 in
theorem difL_any (w : World) (B : Nat) (A : Option Addr) (l : List LmV) (c : Nat) (h : LmsAt w B A l) (hB : B ≤ w.heap.size) (hl : l.length ≤ 4611686018427387904) (good : LmV → Bool) (gf : Nat) (lb : Array Value)
    (eg : ∀ args w, (callFunc gf args).run Tryz.prog w = .ok (.enter gf args) w)
    (hp : ∀ W x, x ∈ l → Below w.heap.size w W → Calls Tryz.prog gf (#[.agg #[.string x.1.id, .int .i64 x.1.n, .int .i64 x.1.u, .int .i64 x.1.f, .slice x.2.1 x.1.S.length x.2.2]] ++ lb) W fun e w' => e = .returned (.bool (good x)) ∧ Below W.heap.size W w') :
    Calls Tryz.prog 52 #[.slice A l.length c, .func (.func 53) #[] #[], .func (.func gf) #[] lb] w fun e w' => e = .returned (.bool (difB (·.1.id) good l)) ∧ Below w.heap.size w w' := by
  have ek := enters_of Tryz.func53 (by kernel_rfl) rfl
  have hz := fun W => Tryz.zeroValue4 W
  obtain ⟨r, hr⟩ : ∃ r, difB (·.1.id) good l = r := ⟨_, rfl⟩
  rw [hr]
  have HR := Lib.hid hr
  have HP := Lib.hid hp
  have HH := Lib.hid h
  have hb0 := (Below.refl w.heap.size w).alloc (Nat.le_refl _) (.map #[] 0)
  have hm0 := MapV.made w
  have hmm := @run_makeMap Tryz.prog
  clear hr hp h
  go_enter Tryz.func52, Tryz.ntmps52
  go_wp2_with fail
  go_loopw [13] (fun i wr => ∃ k : Nat, k ≤ l.length ∧ i = .int .i64 (k : Int) ∧ Hid (difTo (·.1.id) good l k) ∧ Hid (MapV wr w.heap.size (seenL (fun x : LmV => (.string x.1.id : Value)) l k)) ∧ Below w.heap.size w wr) (fun i _ => l.length - (intOf i).toNat)
  case atStart => exact ⟨0, Nat.zero_le _, rfl, Lib.hid difTo_zero, Lib.hid hm0, hb0⟩
  case round =>
    clear hb0 hm0 hmm
    obtain ⟨k, hk, rfl, HD, HM, hb⟩ := hrel
    by_cases hlt : k < l.length
    · obtain ⟨x, hx⟩ : ∃ x, l[k]? = some x := ⟨_, List.getElem?_eq_getElem hlt⟩
      obtain ⟨g, off, hA, hg, c0, c1, c2, c3, c4, hL⟩ := (HH.out.below (hb.mono hB)) k x hx
      subst hA
      have hmem := List.mem_of_getElem? hx
      have HX := Lib.hid hx
      clear hx
      have b0 : Below w.heap.size w (wr.alloc (.cells #[.string x.1.id, .int .i64 x.1.n, .int .i64 x.1.u, .int .i64 x.1.f, .slice x.2.1 x.1.S.length x.2.2] 66)) := hb.alloc hb.size _
      have kx := Blk.new wr 66 #[.string x.1.id, .int .i64 x.1.n, .int .i64 x.1.u, .int .i64 x.1.f, .slice x.2.1 x.1.S.length x.2.2]
      obtain ⟨t0, t1, t2⟩ := kx.all
      have KX := Lib.hid kx
      clear kx
      have m0 : MapV (wr.alloc (.cells #[.string x.1.id, .int .i64 x.1.n, .int .i64 x.1.u, .int .i64 x.1.f, .slice x.2.1 x.1.S.length x.2.2] 66)) w.heap.size (seenL (fun x : LmV => (.string x.1.id : Value)) l k) := HM.out.alloc _
      have HG := Lib.hid (HP.out (wr.alloc (.cells #[.string x.1.id, .int .i64 x.1.n, .int .i64 x.1.u, .int .i64 x.1.f, .slice x.2.1 x.1.S.length x.2.2] 66)) x hmem b0)
      have M0 := Lib.hid m0
      have B0 := Lib.hid b0
      clear m0 b0 hb HM hmem
      go_wp2_with fail
      cases hg : good x with
      | false =>
        have hrr : r = false := by rw [← HR.out]; exact difB_bad HX.out hg
        subst hrr
        have hG := HG.out
        rw [hg] at hG
        have HG' := Lib.hid hG
        clear hG HG hg
        refine HG'.out.mono ?_
        rintro e w2 ⟨rfl, b2⟩
        have hb2 := B0.out.trans (b2.mono B0.out.size)
        clear t0 t1 t2 b2
        go_wp2
        go_ret
        exact ⟨rfl, hb2⟩
      | true =>
        have hG := HG.out
        rw [hg] at hG
        have HG' := Lib.hid hG
        have HGD := Lib.hid hg
        clear hG HG hg
        refine HG'.out.mono ?_
        rintro e w2 ⟨rfl, b2⟩
        have B2 := Lib.hid (B0.out.trans (b2.mono B0.out.size))
        have M2 := Lib.hid (M0.out.below b2 M0.out.lt)
        have K2 := Lib.hid (KX.out.below b2 KX.out.lt)
        clear t0 t1 t2
        obtain ⟨t0, t1, t2⟩ := K2.out.all
        clear b2
        go_wp2_with fail
        refine (keyL_any _ x).mono ?_
        rintro e w3 ⟨rfl, b3⟩
        have B3 := Lib.hid (B2.out.trans (b3.mono B2.out.size))
        have M3 := Lib.hid (M2.out.below b3 M2.out.lt)
        have K3 := Lib.hid (K2.out.below b3 K2.out.lt)
        clear t0 t1 t2
        obtain ⟨t0, t1, t2⟩ := K3.out.all
        clear b3
        by_cases hdup : x.1.id ∈ (l.take k).map (·.1.id)
        · have hrr : r = false := by rw [← HR.out]; exact difB_twice HX.out hdup
          subst hrr
          have lk : (Instr.lookup 115 (.map (some w.heap.size)) (.string x.1.id) false).run Tryz.prog w3 = .ok (.bool true) w3 := M3.out.look_some kysStr Tryz.underlying115 (seenL_G (fun x => ⟨x.1.id, rfl⟩) l k) (seenL_mem (f := fun s => Value.string s) (fun _ => rfl) hdup) false
          clear hdup
          go_wp2
          go_ret
          exact ⟨rfl, B3.out⟩
        · have lk : (Instr.lookup 115 (.map (some w.heap.size)) (.string x.1.id) false).run Tryz.prog w3 = .ok (.bool false) w3 := M3.out.look_none kysStr Tryz.underlying115 (seenL_G (fun x => ⟨x.1.id, rfl⟩) l k) ⟨x.1.id, rfl⟩ (seenL_ne (f := fun s => Value.string s) (fun _ => rfl) (fun a b h => Value.string.inj h) hdup) (hz w3) false
          have hdx := Lib.hid (difTo_next HD.out HX.out HGD.out hdup)
          have hne := Lib.hid (seenL_ne (kv := fun x : LmV => (.string x.1.id : Value)) (f := fun s => Value.string s) (fun _ => rfl) (fun a b h => Value.string.inj h) hdup)
          clear hdup
          go_wp2_with fail
          refine (keyL_any _ x).mono ?_
          rintro e w4 ⟨rfl, b4⟩
          have B4 := Lib.hid (B3.out.trans (b4.mono B3.out.size))
          have M4 := Lib.hid (M3.out.below b4 M3.out.lt)
          clear b4 lk
          obtain ⟨w5, hu, hm5, hg5⟩ := M4.out.upd_none kysStr Tryz.underlying115 (seenL_G (fun x => ⟨x.1.id, rfl⟩) l k) (x := .string x.1.id) ⟨x.1.id, rfl⟩ hne.out (.bool true)
          have hb5 := B4.out.grown hg5 B4.out.size (fun j e => by injection e with e; omega)
          have HM5 := Lib.hid hm5
          clear hm5 hg5
          go_wp2
          go_roundw
          case rel => exact ⟨k + 1, by omega, by go_num, hdx, Lib.hid (by rw [seenL_next HX.out]; exact HM5.out), hb5⟩
          case measure => simp [intOf]; omega
    · obtain rfl : k = l.length := by omega
      have hend := HR.out
      rw [difB_end HD.out] at hend
      have HE := Lib.hid hend
      clear hend
      by_cases h60 : l.length ≤ 60
      · have d60 : decide ((l.length : Int) ≤ 60) = true := decide_eq_true (by omega)
        have hrr : r = true := by rw [← HE.out]; exact decide_eq_true h60
        subst hrr
        clear h60
        go_wp2
        go_ret
        exact ⟨rfl, hb⟩
      · have d60 : decide ((l.length : Int) ≤ 60) = false := decide_eq_false (by omega)
        have hrr : r = false := by rw [← HE.out]; exact decide_eq_false h60
        subst hrr
        clear h60
        go_wp2
        go_ret
        exact ⟨rfl, hb⟩
end Go.Proofs.YtebdkmlganalaaaGreatDoor
