/- Part 0 of what the laws of this seat stand on: Base, Jd, Jp, Jr, Jq, Ne. -/
import Derived.WalkKit
import Derived.Outline
import Derived.WalkSpells
import Derived.WalkLawsBesides
import Derived.Below
import Derived.Laws.OwnMore
import Derived.Deep.AppendLies
import Derived.Deep.Draws
import Derived.Laws.Rows
import Derived.Lib.Hide
import Derived.Lib.Atoi
import Derived.Lib.ItoaNum
import Derived.Lib.AtoiAll
import Derived.Lib.IndexMore

/- Small words on memory, without any program: a slice that reads as a list, a block that is known whole, a call that has turned only some blocks. -/
namespace Go.Proofs.YtieicjjmkedgaaaGreatDoor
open Go.RowKit

theorem block_of_add (a : Addr) (n : Nat) : (a.add n).block = a.block := by unfold Addr.add; split <;> rfl
theorem add_of_add (a : Addr) (i j : Nat) : (a.add i).add j = a.add (i + j) := by
  unfold Addr.add
  by_cases hi : i = 0 <;> by_cases hj : j = 0 <;> simp [hi, hj, Nat.add_assoc]

/-- Block g is known whole. -/
def Blk (w : World) (g : Nat) (t : TypeId) (cs : Array Value) : Prop := w.heap[g]? = some (.cells cs t (0, 0))

section
variable {w w' : World} {g : Nat} {t : TypeId} {cs : Array Value}
theorem Blk.lt (h : Blk w g t cs) : g < w.heap.size := by
  rcases Nat.lt_or_ge g w.heap.size with hlt | hge
  · exact hlt
  · unfold Blk at h; rw [Array.getElem?_eq_none hge] at h; cases h
theorem Blk.cell (h : Blk w g t cs) (i : Nat) : w.cell? ⟨g, i, none⟩ = cs[i]? := cell_of_row w g i cs t (0, 0) h
theorem Blk.frozen (h : Blk w g t cs) (i : Nat) : w.frozen? ⟨g, i, none⟩ = false := by
  unfold Blk at h
  simp [World.frozen?, h]
theorem Blk.all (h : Blk w g t cs) : (∀ i, w.cell? ⟨g, i, none⟩ = cs[i]?) ∧ (∀ i, w.frozen? ⟨g, i, none⟩ = false) ∧ g < w.heap.size := ⟨h.cell, h.frozen, h.lt⟩
theorem Blk.new (w : World) (t : TypeId) (cs : Array Value) : Blk (w.alloc (.cells cs t)) w.heap.size t cs := heap_alloc_new w _
theorem Blk.new1 (w : World) (o : Obj) (t : TypeId) (cs : Array Value) : Blk ((w.alloc o).alloc (.cells cs t)) (w.heap.size + 1) t cs := by
  have := Blk.new (w.alloc o) t cs
  have e : (w.alloc o).heap.size = w.heap.size + 1 := by simp
  rwa [e] at this
theorem Blk.new2 (w : World) (o o' : Obj) (t : TypeId) (cs : Array Value) : Blk (((w.alloc o).alloc o').alloc (.cells cs t)) (w.heap.size + 1 + 1) t cs := by
  have := Blk.new ((w.alloc o).alloc o') t cs
  have e : ((w.alloc o).alloc o').heap.size = w.heap.size + 1 + 1 := by simp
  rwa [e] at this
theorem Blk.drew (h : Blk w g t cs) : Blk w.drew g t cs := h
theorem Blk.drewN (h : Blk w g t cs) (n : Nat) : Blk (w.drewN n) g t cs := h
theorem Blk.alloc (h : Blk w g t cs) (o : Obj) : Blk (w.alloc o) g t cs := (Below.heap_alloc w o g h.lt).trans h
theorem Blk.set_ (h : Blk w g t cs) (i : Nat) (u : Value) : Blk (w.setCell ⟨g, i, none⟩ u) g t (cs.setIfInBounds i u) := by
  unfold Blk at h ⊢
  simp [World.setCell, Array.getElem?_modify, h]
theorem Blk.far (h : Blk w g t cs) {p : Addr} (hp : g ≠ p.block) (u : Value) : Blk (w.setCell p u) g t cs := (Below.heap_setCell w p u g hp).trans h
theorem Blk.below {B : Nat} (h : Blk w g t cs) (hb : Below B w w') (hg : g < B) : Blk w' g t cs := (hb.block g hg).trans h
theorem Blk.grown {row : Option Nat} (h : Blk w g t cs) (hb : w.grownBy w' row) (hg : some g ≠ row) : Blk w' g t cs := (hb.block g h.lt hg).trans h
theorem Blk.ne_ {g' : Nat} {t' : TypeId} {cs' : Array Value} (h : Blk w g t cs) (h' : Blk w g' t' cs') (hne : t ≠ t') : g ≠ g' := by
  rintro rfl
  unfold Blk at h h'
  rw [h] at h'
  injection h' with h'
  injection h' with _ ht
  exact hne ht
end

/-- A set of blocks. -/
abbrev Foot := Nat → Prop

/-- Of the old blocks only those of F have turned. -/
structure Only (F : Foot) (w w' : World) : Prop where
  os : w'.os = w.os
  tape : w'.tape = w.tape
  output : w'.output = w.output
  size : w.heap.size ≤ w'.heap.size
  block : ∀ i, i < w.heap.size → ¬ F i → w'.heap[i]? = w.heap[i]?

namespace Only
variable {F G : Foot} {a w w' w'' : World}
theorem refl (F : Foot) (w : World) : Only F w w := ⟨rfl, rfl, rfl, Nat.le_refl _, fun _ _ _ => rfl⟩
theorem trans (h : Only F a w) (k : Only G w w') (hG : ∀ i, G i → F i ∨ a.heap.size ≤ i) : Only F a w' :=
  ⟨k.os.trans h.os, k.tape.trans h.tape, k.output.trans h.output, Nat.le_trans h.size k.size,
   fun i hi hn => (k.block i (Nat.lt_of_lt_of_le hi h.size) (fun hg => by rcases hG i hg with h1 | h1; exact hn h1; omega)).trans (h.block i hi hn)⟩
theorem mono (h : Only F w w') (hG : ∀ i, F i → G i) : Only G w w' := ⟨h.os, h.tape, h.output, h.size, fun i hi hn => h.block i hi (fun hf => hn (hG i hf))⟩
theorem of_below (h : Below w.heap.size w w') (F : Foot) : Only F w w' := ⟨h.os, h.tape, h.output, h.size, fun i hi _ => h.block i hi⟩
theorem below (h : Only F w w') {B : Nat} (hB : B ≤ w.heap.size) (hF : ∀ i, F i → B ≤ i) : Below B w w' :=
  ⟨h.os, h.tape, h.output, h.size, fun i hi => h.block i (by omega) (fun hf => by have := hF i hf; omega)⟩
theorem drew (h : Only F a w) : Only F a w.drew := ⟨h.os, h.tape, h.output, h.size, h.block⟩
theorem drewN (h : Only F a w) (n : Nat) : Only F a (w.drewN n) := ⟨h.os, h.tape, h.output, h.size, h.block⟩
theorem alloc (h : Only F a w) (o : Obj) : Only F a (w.alloc o) :=
  ⟨h.os, h.tape, h.output, Nat.le_trans h.size (by simp), fun i hi hn => (Below.heap_alloc w o i (Nat.lt_of_lt_of_le hi h.size)).trans (h.block i hi hn)⟩
theorem setCell (h : Only F a w) {p : Addr} (hp : F p.block ∨ a.heap.size ≤ p.block) (u : Value) : Only F a (w.setCell p u) :=
  ⟨h.os, h.tape, h.output, by simpa [World.setCell] using h.size, fun i hi hn => (Below.heap_setCell w p u i (by
    rintro rfl
    rcases hp with hp | hp
    · exact hn hp
    · omega)).trans (h.block i hi hn)⟩
theorem blk {g : Nat} {t : TypeId} {cs : Array Value} (h : Only F w w') (hb : Blk w g t cs) (hg : ¬ F g) : Blk w' g t cs := (h.block g hb.lt hg).trans hb
theorem owns {base : Nat} {e : TypeId} {size : Nat} {v : Value} {n : Nat} {xs : List Value} (h : Only F w w') (ho : w.ownsRow base e size v n xs) (hn : ∀ g, v.ownBlock = some g → ¬ F g) : w'.ownsRow base e size v n xs := by
  refine ⟨ho.1, ?_⟩
  rcases ho.2 with h0 | ⟨g, cap, cur, hv, hb, hh, hr⟩
  · exact .inl h0
  · refine .inr ⟨g, cap, cur, hv, hb, ?_, hr⟩
    have hlt : g < w.heap.size := by
      rcases Nat.lt_or_ge g w.heap.size with hlt | hge
      · exact hlt
      · rw [Array.getElem?_eq_none hge] at hh; cases hh
    exact (h.block g hlt (hn g (by rw [hv]; rfl))).trans hh
theorem undrew (h : Only F w.drew w') : Only F w w' := ⟨h.os, h.tape, h.output, h.size, h.block⟩
theorem undrewN {n : Nat} (h : Only F (w.drewN n) w') : Only F w w' := ⟨h.os, h.tape, h.output, h.size, h.block⟩
theorem of_grown {row : Option Nat} (h : w.grownBy w' row) : Only (fun i => row = some i) w w' := ⟨h.os, h.tape, h.output, h.size, fun i hi hn => h.block i hi (fun e => hn e.symm)⟩
end Only
theorem own_blk_ne {w : World} {g : Nat} {t : TypeId} {cs : Array Value} {base : Nat} {e : TypeId} {size n : Nat} {v : Value} {xs : List Value} (h : w.ownsRow base e size v n xs) (hg : Blk w g t cs) (hne : e ≠ t) : v.ownBlock ≠ some g := by
  rcases h.2 with ⟨rfl, _⟩ | ⟨g', cap, cur, rfl, _, hh, _⟩
  · simp [Value.ownBlock]
  · intro he
    have : g' = g := by simpa [Value.ownBlock] using he
    subst this
    exact Blk.ne_ (t := e) hh hg hne rfl

theorem below_alloc {w w1 : World} {o : Obj} (hb : Below (w.alloc o).heap.size (w.alloc o) w1) : Below w.heap.size w w1 :=
  ((Below.refl _ _).alloc (Nat.le_refl _) _).trans (hb.mono (by simp))
theorem below_drew {w w1 : World} (hb : Below w.heap.size w.drew w1) : Below w.heap.size w w1 := ⟨hb.os, hb.tape, hb.output, hb.size, hb.block⟩

/-- A slice value whose elements are the cells xs ('size' cells each), read out of blocks of F. -/
def Reads (w : World) (F : Foot) (size : Nat) (A : Option Addr) (n : Nat) (xs : List Value) : Prop :=
  xs.length = n * size ∧ (0 < n → ∃ ad, A = some ad ∧ F ad.block ∧ ad.block < w.heap.size ∧ ∀ j u, xs[j]? = some u → w.cell? (ad.add j) = some u)

end Go.Proofs.YtieicjjmkedgaaaGreatDoor

/- The digest as plain data: what it is, and that a change within one block changes it. No program in sight. -/
namespace Go.Proofs.YtieicjjmkedgaaaGreatDoor

/-- A text of bytes. -/
def bs (l : List UInt8) : ByteArray := ⟨l.toArray⟩
theorem bs_list (l : List UInt8) : (bs l).data.toList = l := rfl
theorem bs_size (l : List UInt8) : (bs l).size = l.length := by show l.toArray.size = _; simp
theorem of_bs (s : ByteArray) : bs s.data.toList = s := rfl
theorem len_bytes (s : ByteArray) : s.data.toList.length = s.size := by rw [Array.length_toList]; rfl
theorem bs_inj {a b : List UInt8} (h : bs a = bs b) : a = b := by have := congrArg (fun s => s.data.toList) h; exact this

def two64 : Nat := 18446744073709551616
def mixN (x : Nat) : Nat :=
  let a := x * 6364136223846793005 % two64
  let b := a ^^^ (a >>> 31)
  let c := b * 3202034522624059733 % two64
  c ^^^ (c >>> 30)
theorem two64_pow : two64 = 2 ^ 64 := rfl
theorem xor_lt {a b : Nat} (ha : a < two64) (hb : b < two64) : a ^^^ b < two64 := by
  rw [two64_pow] at *
  exact Nat.xor_lt_two_pow ha hb
theorem shr_lt {a : Nat} (k : Nat) (ha : a < two64) : a >>> k < two64 := Nat.lt_of_le_of_lt (Nat.shiftRight_le a k) ha
theorem mixN_lt (x : Nat) : mixN x < two64 := by
  unfold mixN
  exact xor_lt (Nat.mod_lt _ (by decide)) (shr_lt _ (Nat.mod_lt _ (by decide)))
theorem shr_fix {k z : Nat} (hk : 0 < k) (h : z = z >>> k) : z = 0 := by
  rw [Nat.shiftRight_eq_div_pow] at h
  rcases Nat.eq_zero_or_pos z with h0 | h0
  · exact h0
  · have h2 : 2 ≤ 2 ^ k := by
      have := Nat.pow_le_pow_right (n := 2) (by decide) hk
      simpa using this
    have := Nat.div_lt_self h0 (show 1 < 2 ^ k by omega)
    omega
theorem xorshift_inj {k a b : Nat} (hk : 0 < k) (h : a ^^^ (a >>> k) = b ^^^ (b >>> k)) : a = b := by
  have h2 : (a ^^^ b) = (a ^^^ b) >>> k := by
    rw [Nat.shiftRight_xor_distrib]
    have e1 : a ^^^ b = (a ^^^ (a >>> k)) ^^^ ((a >>> k) ^^^ b) := by rw [← Nat.xor_assoc, Nat.xor_assoc a, Nat.xor_self, Nat.xor_zero]
    rw [e1, h, Nat.xor_comm (a >>> k) b, ← Nat.xor_assoc, Nat.xor_comm (b ^^^ b >>> k) b, ← Nat.xor_assoc, Nat.xor_self, Nat.zero_xor, Nat.xor_comm]
  have h3 := shr_fix hk h2
  have : a = (a ^^^ b) ^^^ b := by rw [Nat.xor_assoc, Nat.xor_self, Nat.xor_zero]
  rw [this, h3, Nat.zero_xor]
theorem mul_inj {a b c inv : Nat} (ha : a < two64) (hb : b < two64) (hc : c * inv % two64 = 1) (h : a * c % two64 = b * c % two64) : a = b := by
  have key : ∀ x, x < two64 → (x * c % two64) * inv % two64 = x := fun x hx => by
    rw [Nat.mod_mul_mod, Nat.mul_assoc, Nat.mul_mod, hc, Nat.mul_one, Nat.mod_mod, Nat.mod_eq_of_lt hx]
  rw [← key a ha, h, key b hb]
theorem mixN_inj {x y : Nat} (hx : x < two64) (hy : y < two64) (h : mixN x = mixN y) : x = y := by
  unfold mixN at h
  have h1 := xorshift_inj (by decide) h
  have h2 := mul_inj (inv := 10706317138985569277) (xor_lt (Nat.mod_lt _ (by decide)) (shr_lt _ (Nat.mod_lt _ (by decide)))) (xor_lt (Nat.mod_lt _ (by decide)) (shr_lt _ (Nat.mod_lt _ (by decide)))) (by decide) h1
  have h3 := xorshift_inj (by decide) h2
  exact mul_inj (inv := 13877824140714322085) hx hy (by decide) h3

/-- Eight bytes as a number; fewer are filled up with zero bytes. -/
def valF (n : Nat) (l : List UInt8) : Nat := l.foldl (fun (n : Nat) (b : UInt8) => n * 256 + b.toNat) n
def blockN (l : List UInt8) : Nat := valF 0 ((l ++ List.replicate 8 0).take 8)
theorem valF_cons (n : Nat) (b : UInt8) (l : List UInt8) : valF n (b :: l) = valF (n * 256 + b.toNat) l := rfl
theorem foldl_val : ∀ (l : List UInt8) (n : Nat), valF n l = n * 256 ^ l.length + valF 0 l
  | [], n => by simp [valF]
  | b :: l, n => by
    rw [valF_cons, foldl_val l (n * 256 + b.toNat), valF_cons, foldl_val l (0 * 256 + b.toNat), List.length_cons, Nat.pow_succ, Nat.add_mul, Nat.zero_mul, Nat.zero_add, Nat.mul_assoc, Nat.mul_comm 256, Nat.add_assoc]
theorem val_lt : ∀ (l : List UInt8), valF 0 l < 256 ^ l.length
  | [] => by simp [valF]
  | b :: l => by
    have ih := val_lt l
    rw [valF_cons, foldl_val, List.length_cons, Nat.pow_succ]
    have hb := b.toNat_lt
    have : (0 * 256 + b.toNat) * 256 ^ l.length ≤ 255 * 256 ^ l.length := Nat.mul_le_mul_right _ (by omega)
    omega
theorem digit_inj {X Y P a b : Nat} (ha : a < P) (hb : b < P) (h : X * P + a = Y * P + b) : X = Y ∧ a = b := by
  have key : ∀ {X Y a b : Nat}, a < P → b < P → X * P + a = Y * P + b → ¬ X < Y := by
    intro X Y a b ha hb h hlt
    have := Nat.mul_le_mul_right P (show X + 1 ≤ Y from hlt)
    rw [Nat.add_mul, Nat.one_mul] at this
    omega
  have h1 := key ha hb h
  have h2 := key hb ha h.symm
  have h3 : X = Y := by omega
  subst h3
  exact ⟨rfl, by omega⟩
theorem val_inj : ∀ {a b : List UInt8}, a.length = b.length → valF 0 a = valF 0 b → a = b
  | [], [], _, _ => rfl
  | [], _ :: _, h, _ => by simp at h
  | _ :: _, [], h, _ => by simp at h
  | x :: a, y :: b, hl, h => by
    have hl' : a.length = b.length := by simpa using hl
    rw [valF_cons, valF_cons, foldl_val a, foldl_val b, hl'] at h
    have h1 := val_lt a
    have h2 := val_lt b
    rw [hl'] at h1
    obtain ⟨e1, e2⟩ := digit_inj h1 h2 h
    have hxy := UInt8.toNat_inj.1 (show x.toNat = y.toNat by omega)
    subst hxy
    rw [val_inj hl' e2]
theorem blockN_lt (l : List UInt8) : blockN l < two64 := by
  have h := val_lt ((l ++ List.replicate 8 0).take 8)
  have e : ((l ++ List.replicate 8 (0 : UInt8)).take 8).length = 8 := by simp
  rw [e] at h
  exact h
theorem blockN_inj {a b : List UInt8} (hl : a.length = b.length) (h8 : a.length ≤ 8) (h : blockN a = blockN b) : a = b := by
  unfold blockN at h
  have hl8 : ((a ++ List.replicate 8 (0 : UInt8)).take 8).length = ((b ++ List.replicate 8 (0 : UInt8)).take 8).length := by simp
  have h1 := val_inj hl8 h
  have h2 := congrArg (List.take a.length) h1
  rwa [List.take_take, List.take_take, Nat.min_eq_left h8, List.take_left, hl, List.take_left] at h2

/-- The state behind k full blocks and the rest. -/
def sumN : Nat → Nat → List UInt8 → Nat
  | 0, st, l => mixN (st ^^^ blockN l)
  | k + 1, st, l => sumN k (mixN (st ^^^ blockN (l.take 8))) (l.drop 8)
def startN (n : Nat) : Nat := 1442695040888963407 ^^^ n
def hexc (n : Nat) : UInt8 := if n < 10 then UInt8.ofNat (48 + n) else UInt8.ofNat (97 + (n - 10))
def hexL (st : Nat) : List UInt8 := (List.range 16).map fun i => hexc (st >>> (60 - 4 * i) % 16)
/-- The digest of a text. -/
def sumL (l : List UInt8) : List UInt8 := hexL (sumN (l.length / 8) (startN l.length) l)
theorem sumL_len (l : List UInt8) : (sumL l).length = 16 := by simp [sumL, hexL]
theorem sumN_lt : ∀ (k st : Nat) (l : List UInt8), sumN k st l < two64
  | 0, _, _ => mixN_lt _
  | k + 1, _, _ => sumN_lt k _ _
theorem xor_cancel {a b c : Nat} (h : a ^^^ c = b ^^^ c) : a = b := by
  have : (a ^^^ c) ^^^ c = (b ^^^ c) ^^^ c := by rw [h]
  rwa [Nat.xor_assoc, Nat.xor_assoc, Nat.xor_self, Nat.xor_zero, Nat.xor_zero] at this
theorem xor_cancel' {a b c : Nat} (h : c ^^^ a = c ^^^ b) : a = b := by
  rw [Nat.xor_comm c a, Nat.xor_comm c b] at h; exact xor_cancel h
theorem sumN_state {l : List UInt8} : ∀ {k a b : Nat}, a < two64 → b < two64 → sumN k a l = sumN k b l → a = b := by
  intro k
  induction k generalizing l with
  | zero => intro a b ha hb h; exact xor_cancel (mixN_inj (xor_lt ha (blockN_lt _)) (xor_lt hb (blockN_lt _)) h)
  | succ k ih =>
    intro a b ha hb h
    exact xor_cancel (mixN_inj (xor_lt ha (blockN_lt _)) (xor_lt hb (blockN_lt _)) (ih (mixN_lt _) (mixN_lt _) h))
/-- Two texts that part within one full block have different states. -/
theorem sumN_block : ∀ {j : Nat} {k st : Nat} {p x y s : List UInt8}, st < two64 → p.length = 8 * j → j < k → x.length = 8 → y.length = 8 → sumN k st (p ++ (x ++ s)) = sumN k st (p ++ (y ++ s)) → x = y
  | 0, k + 1, st, p, x, y, s, hst, hp, _, hx, hy, h => by
    obtain rfl : p = [] := List.length_eq_zero_iff.1 (by omega)
    simp only [List.nil_append, sumN] at h
    rw [List.take_append_of_le_length (by omega), List.take_append_of_le_length (by omega), List.take_of_length_le (by omega), List.take_of_length_le (by omega),
      List.drop_append_of_le_length (by omega), List.drop_append_of_le_length (by omega), List.drop_of_length_le (by omega), List.drop_of_length_le (by omega)] at h
    have h1 := mixN_inj (xor_lt hst (blockN_lt _)) (xor_lt hst (blockN_lt _)) (sumN_state (mixN_lt _) (mixN_lt _) h)
    exact blockN_inj (by omega) (by omega) (xor_cancel' h1)
  | j + 1, k + 1, st, p, x, y, s, hst, hp, hk, hx, hy, h => by
    simp only [sumN] at h
    rw [List.take_append_of_le_length (by omega), List.take_append_of_le_length (by omega), List.drop_append_of_le_length (by omega), List.drop_append_of_le_length (by omega)] at h
    exact sumN_block (j := j) (mixN_lt _) (by rw [List.length_drop, hp]; omega) (by omega) hx hy h
theorem hexc_inj {a b : Nat} (ha : a < 16) (hb : b < 16) (h : hexc a = hexc b) : a = b := by
  have key : ∀ n, n < 16 → (hexc n).toNat = if n < 10 then 48 + n else 87 + n := fun n hn => by
    unfold hexc
    split
    · rw [UInt8.toNat_ofNat']; omega
    · rw [UInt8.toNat_ofNat']; omega
  have h1 := key a ha
  have h2 := key b hb
  rw [h, h2] at h1
  split at h1 <;> split at h1 <;> omega
theorem hexes_inj : ∀ {k a b : Nat}, a < 16 ^ k → b < 16 ^ k → (∀ i, i < k → a / 16 ^ i % 16 = b / 16 ^ i % 16) → a = b
  | 0, a, b, ha, hb, _ => by simp at ha hb; omega
  | k + 1, a, b, ha, hb, h => by
    have h0 := h 0 (by omega)
    simp at h0
    have hd : a / 16 = b / 16 := by
      rw [Nat.pow_succ] at ha hb
      refine hexes_inj (k := k) (by omega) (by omega) (fun i hi => ?_)
      have := h (i + 1) (by omega)
      rwa [Nat.pow_succ, Nat.mul_comm, ← Nat.div_div_eq_div_mul, ← Nat.div_div_eq_div_mul] at this
    omega
theorem hexL_inj {a b : Nat} (ha : a < two64) (hb : b < two64) (h : hexL a = hexL b) : a = b := by
  refine hexes_inj (k := 16) ha hb (fun j hj => ?_)
  have e : 60 - 4 * (15 - j) = 4 * j := by omega
  have e2 : 16 ^ j = 2 ^ (4 * j) := by rw [Nat.pow_mul]
  have := congrArg (fun l => l[15 - j]?) h
  simp only [hexL, List.getElem?_map, List.getElem?_range (show 15 - j < 16 by omega), Option.map_some] at this
  injection this with this
  have h2 := hexc_inj (Nat.mod_lt _ (by decide)) (Nat.mod_lt _ (by decide)) this
  rw [e, Nat.shiftRight_eq_div_pow, Nat.shiftRight_eq_div_pow, ← e2] at h2
  exact h2
/-- Two texts of one length that part within one full block have different digests. -/
theorem sumL_block {j : Nat} {p x y s : List UInt8} (hp : p.length = 8 * j) (hx : x.length = 8) (hy : y.length = 8) (hl : (p ++ (x ++ s)).length < two64) (h : sumL (p ++ (x ++ s)) = sumL (p ++ (y ++ s))) : x = y := by
  unfold sumL at h
  have e : (p ++ (y ++ s)).length = (p ++ (x ++ s)).length := by simp [hx, hy]
  rw [e] at h
  have h2 := hexL_inj (sumN_lt _ _ _) (sumN_lt _ _ _) h
  refine sumN_block (j := j) (k := (p ++ (x ++ s)).length / 8) (st := startN (p ++ (x ++ s)).length) ?_ hp ?_ hx hy h2
  · unfold startN
    exact xor_lt (by decide) hl
  · simp only [List.length_append, hp, hx]
    omega
end Go.Proofs.YtieicjjmkedgaaaGreatDoor

/- The journal's texts as plain data: sealed sectors, heads, pieces, records. No program in sight. -/
namespace Go.Proofs.YtieicjjmkedgaaaGreatDoor

def c8 (n : Nat) : UInt8 := UInt8.ofNat (48 + n)
theorem c8_nat {n : Nat} (h : n < 10) : (c8 n).toNat = 48 + n := by
  unfold c8
  rw [UInt8.toNat_ofNat']
  omega
/-- The last digits of a number. -/
def lastD : Nat → Nat → List UInt8
  | 0, _ => []
  | i + 1, n => lastD i (n / 10) ++ [c8 (n % 10)]
theorem lastD_len : ∀ i n, (lastD i n).length = i
  | 0, _ => rfl
  | i + 1, n => by simp [lastD, lastD_len i]
theorem c8_inj {a b : Nat} (ha : a < 10) (hb : b < 10) (h : c8 a = c8 b) : a = b := by
  have h1 := c8_nat ha
  have h2 := c8_nat hb
  rw [h] at h1
  omega
theorem lastD_inj : ∀ {i a b : Nat}, a < 10 ^ i → b < 10 ^ i → lastD i a = lastD i b → a = b
  | 0, a, b, ha, hb, _ => by simp at ha hb; omega
  | i + 1, a, b, ha, hb, h => by
    simp only [lastD] at h
    obtain ⟨h1, h2⟩ := List.append_inj h (by rw [lastD_len, lastD_len])
    injection h2 with h2 _
    have e1 := c8_inj (Nat.mod_lt _ (by decide)) (Nat.mod_lt _ (by decide)) h2
    rw [Nat.pow_succ] at ha hb
    have e2 := lastD_inj (i := i) (by omega) (by omega) h1
    omega
theorem lastD_zero : ∀ i, lastD i 0 = List.replicate i 48
  | 0 => rfl
  | i + 1 => by
    rw [lastD, Nat.zero_div, lastD_zero i, List.replicate_succ']
    rfl
/-- Cut or filled up with zero bytes to n bytes. -/
def padL (n : Nat) (l : List UInt8) : List UInt8 := (l ++ List.replicate n 0).take n
theorem padL_len (n : Nat) (l : List UInt8) : (padL n l).length = n := by simp [padL]
theorem padL_full {n : Nat} {l : List UInt8} (h : l.length = n) : padL n l = l := by
  unfold padL
  rw [← h, List.take_left]
theorem padL_short {n : Nat} {l : List UInt8} (h : l.length ≤ n) : padL n l = l ++ List.replicate (n - l.length) 0 := by
  unfold padL
  rw [List.take_append, List.take_of_length_le h, List.take_replicate, Nat.min_eq_left (by omega)]
def sealL (place : Nat) (c : List UInt8) : List UInt8 := sumL (lastD 8 place ++ padL 48 c) ++ padL 48 c
theorem sealL_len (place : Nat) (c : List UInt8) : (sealL place c).length = 64 := by simp [sealL, sumL_len, padL_len]
def zeroL : List UInt8 := List.replicate 64 0
def headL (place n : Nat) : List UInt8 := sealL place (lastD 8 n)
def secL (place : Nat) (p : List UInt8) : List UInt8 := sealL place (lastD 2 p.length ++ p)
theorem headL_len (place n : Nat) : (headL place n).length = 64 := sealL_len _ _
theorem secL_len (place : Nat) (p : List UInt8) : (secL place p).length = 64 := sealL_len _ _
/-- The pieces of a text. -/
def piecesK : Nat → List UInt8 → List (List UInt8)
  | 0, _ => []
  | k + 1, t => if t = [] then [] else t.take 46 :: piecesK k (t.drop 46)
def piecesL (t : List UInt8) : List (List UInt8) := piecesK t.length t
def recL (r : List UInt8) : List UInt8 := Lib.itoa (r.length : Int) ++ 58 :: r
def textR (rs : List (List UInt8)) : List UInt8 := (rs.map recL).flatten

/-! Numerals. -/
theorem dec_ten {u : Nat} (h : u < 10) : Lib.decDigits u = [c8 u] := by rw [Lib.decDigits, dif_pos h]; rfl
theorem dec_more {u : Nat} (h : ¬ u < 10) : Lib.decDigits u = Lib.decDigits (u / 10) ++ [c8 (u % 10)] := by rw [Lib.decDigits, dif_neg h]; rfl
theorem dec_pad : ∀ {w n : Nat}, n < 10 ^ (w + 1) → (Lib.decDigits n).length ≤ w + 1 ∧ List.replicate (w + 1 - (Lib.decDigits n).length) 48 ++ Lib.decDigits n = lastD (w + 1) n
  | 0, n, h => by
    have h : n < 10 := by simpa using h
    rw [dec_ten h]
    simp [lastD, Nat.mod_eq_of_lt h]
  | w + 1, n, h => by
    by_cases h10 : n < 10
    · rw [dec_ten h10]
      refine ⟨by simp, ?_⟩
      have e : n / 10 = 0 := by omega
      rw [lastD, e, lastD_zero, Nat.mod_eq_of_lt h10]
      simp
    · rw [Nat.pow_succ] at h
      obtain ⟨h1, h2⟩ := dec_pad (w := w) (n := n / 10) (by omega)
      rw [dec_more h10]
      refine ⟨by simp; omega, ?_⟩
      rw [lastD, ← h2, List.length_append, List.length_singleton, List.append_assoc]
      congr 2
      omega
theorem itoa_nat (n : Nat) : Lib.itoa (n : Int) = Lib.decDigits n := by unfold Lib.itoa; rw [if_neg (by omega)]; simp
theorem digitVal_c8 {k : Nat} (h : k < 10) : Lib.digitVal (c8 k) = some k := by
  have := c8_nat h
  simp only [Lib.digitVal]
  rw [if_pos (by omega)]
  congr 1
  omega
theorem decFrom_app : ∀ (a b : List UInt8) (acc m : Nat), Lib.decFrom acc a = some m → Lib.decFrom acc (a ++ b) = Lib.decFrom m b
  | [], b, acc, m, h => by simp only [Lib.decFrom, Option.some.injEq] at h; subst h; rfl
  | x :: a, b, acc, m, h => by
    simp only [List.cons_append, Lib.decFrom] at h ⊢
    cases hd : Lib.digitVal x with
    | none => rw [hd] at h; cases h
    | some d => rw [hd] at h; simp only at h ⊢; exact decFrom_app a b _ m h
theorem decFrom_lastD : ∀ (i n : Nat), n < 10 ^ i → Lib.decFrom 0 (lastD i n) = some n
  | 0, n, h => by have : n = 0 := by simp at h; omega
                  subst this; rfl
  | i + 1, n, h => by
    rw [Nat.pow_succ] at h
    rw [lastD, decFrom_app _ _ _ _ (decFrom_lastD i (n / 10) (by omega))]
    simp only [Lib.decFrom, digitVal_c8 (Nat.mod_lt n (show 0 < 10 by decide))]
    congr 1
    omega
theorem lastD_head {i n : Nat} : ∃ b r, lastD (i + 1) n = b :: r ∧ (b == 45) = false ∧ (b == 43) = false := by
  induction i generalizing n with
  | zero =>
    have := c8_nat (Nat.mod_lt n (show 0 < 10 by decide))
    refine ⟨c8 (n % 10), [], rfl, ?_, ?_⟩ <;> (rw [beq_eq_false_iff_ne]; intro e; rw [e] at this; simp at this; omega)
  | succ i ih =>
    obtain ⟨b, r, h1, h2⟩ := ih (n := n / 10)
    exact ⟨b, r ++ [c8 (n % 10)], by rw [lastD, h1]; rfl, h2⟩
theorem atoi_lastD {i n : Nat} (h : n < 10 ^ (i + 1)) : Lib.atoi (lastD (i + 1) n) = some (n : Int) := by
  obtain ⟨b, r, h1, h2, h3⟩ := lastD_head (i := i) (n := n)
  have h4 := decFrom_lastD (i + 1) n h
  rw [h1] at h4 ⊢
  show (if (b == 45) = true then (Lib.decNat r).map fun (m : Nat) => -(m : Int) else if (b == 43) = true then (Lib.decNat r).map fun (m : Nat) => (m : Int) else (Lib.decNat (b :: r)).map fun (m : Nat) => (m : Int)) = _
  rw [h2, h3, if_neg (by simp), if_neg (by simp)]
  unfold Lib.decNat
  rw [if_neg (by simp), h4]
  rfl
/-- The count of a head. -/
def cntL (place : Nat) (s : List UInt8) (room : Nat) : Int :=
  if s = zeroL then 0 else
  match Lib.atoi ((s.drop 16).take 8) with
  | some n => if 0 ≤ n ∧ n ≤ room ∧ headL place n.toNat = s then n else -1
  | none => -1
theorem headL_digits (place n : Nat) : ((headL place n).drop 16).take 8 = lastD 8 n := by
  unfold headL sealL
  rw [← sumL_len (lastD 8 place ++ padL 48 (lastD 8 n)), List.drop_left, padL_short (by rw [lastD_len]; decide)]
  have := lastD_len 8 n
  rw [List.take_append_of_le_length (by omega), List.take_of_length_le (by omega)]
theorem headL_ne (place n : Nat) : headL place n ≠ zeroL := fun h => by
  have h1 := headL_digits place n
  rw [h] at h1
  have h2 := congrArg (fun l => l[7]?) h1
  have h3 := c8_nat (Nat.mod_lt n (show 0 < 10 by decide))
  have e1 : ((zeroL.drop 16).take 8)[7]? = some (0 : UInt8) := by decide
  have e2 : (lastD 8 n)[7]? = some (c8 (n % 10)) := by
    rw [lastD, List.getElem?_append_right (by rw [lastD_len]; exact Nat.le_refl _), lastD_len]
    rfl
  simp only [e1, e2] at h2
  injection h2 with h2
  rw [← h2] at h3
  simp at h3
  omega
theorem cntL_head {place n room : Nat} (h : n ≤ room) (h8 : n < 100000000) : cntL place (headL place n) room = n := by
  unfold cntL
  rw [if_neg (headL_ne place n), headL_digits, atoi_lastD (i := 7) h8]
  simp only
  rw [if_pos ⟨by omega, by omega, by simp⟩]
theorem cntL_zero (place room : Nat) : cntL place zeroL room = 0 := by unfold cntL; rw [if_pos rfl]
theorem cntL_spec (place : Nat) (s : List UInt8) (room : Nat) : (cntL place s room = -1) ∨ (s = zeroL ∧ cntL place s room = 0) ∨ ∃ n : Nat, n ≤ room ∧ s = headL place n ∧ cntL place s room = n := by
  by_cases hz : s = zeroL
  · subst hz; exact .inr (.inl ⟨rfl, cntL_zero _ _⟩)
  · unfold cntL
    rw [if_neg hz]
    cases ha : Lib.atoi ((s.drop 16).take 8) with
    | none => exact .inl rfl
    | some n =>
      simp only
      split
      · rename_i h
        refine .inr (.inr ⟨n.toNat, by omega, h.2.2.symm, by omega⟩)
      · exact .inl rfl
end Go.Proofs.YtieicjjmkedgaaaGreatDoor

/- The pieces of a text and the records of a text, as plain data. No program in sight. -/
namespace Go.Proofs.YtieicjjmkedgaaaGreatDoor

/-! Pieces. -/
theorem piecesK_flat : ∀ (k : Nat) (t : List UInt8), t.length ≤ k → (piecesK k t).flatten = t
  | 0, t, h => by
    obtain rfl : t = [] := List.length_eq_zero_iff.1 (by omega)
    rfl
  | k + 1, t, h => by
    unfold piecesK
    split
    · rename_i h0; subst h0; rfl
    · rename_i h0
      rw [List.flatten_cons, piecesK_flat k (t.drop 46) (by have : 0 < t.length := List.length_pos_iff.2 h0; simp; omega), List.take_append_drop]
theorem piecesK_small : ∀ (k : Nat) (t : List UInt8), ∀ p ∈ piecesK k t, 1 ≤ p.length ∧ p.length ≤ 46
  | 0, _, p, hp => by simp [piecesK] at hp
  | k + 1, t, p, hp => by
    unfold piecesK at hp
    split at hp
    · simp at hp
    · rename_i h0
      rcases List.mem_cons.1 hp with rfl | hp
      · have : 0 < t.length := List.length_pos_iff.2 h0
        simp; omega
      · exact piecesK_small k _ p hp
theorem piecesK_more : ∀ (k m : Nat) (t : List UInt8), t.length ≤ k → t.length ≤ m → piecesK k t = piecesK m t
  | 0, m, t, h, _ => by
    obtain rfl : t = [] := List.length_eq_zero_iff.1 (by omega)
    cases m <;> simp [piecesK]
  | k + 1, 0, t, _, h => by
    obtain rfl : t = [] := List.length_eq_zero_iff.1 (by omega)
    simp [piecesK]
  | k + 1, m + 1, t, h, h2 => by
    unfold piecesK
    split
    · rfl
    · rename_i h0
      have : 0 < t.length := List.length_pos_iff.2 h0
      rw [piecesK_more k m (t.drop 46) (by simp; omega) (by simp; omega)]
theorem pieces_flat (t : List UInt8) : (piecesL t).flatten = t := piecesK_flat _ _ (Nat.le_refl _)
theorem pieces_small (t : List UInt8) : ∀ p ∈ piecesL t, 1 ≤ p.length ∧ p.length ≤ 46 := piecesK_small _ _
theorem pieces_nil : piecesL [] = [] := rfl
theorem pieces_cons {t : List UInt8} (h : t ≠ []) : piecesL t = t.take 46 :: piecesL (t.drop 46) := by
  have : 0 < t.length := List.length_pos_iff.2 h
  obtain ⟨k, hk⟩ : ∃ k, t.length = k + 1 := ⟨t.length - 1, by omega⟩
  unfold piecesL
  rw [hk]
  show (if t = [] then [] else t.take 46 :: piecesK k (t.drop 46)) = _
  rw [if_neg h, piecesK_more k (t.drop 46).length _ (by simp; omega) (Nat.le_refl _)]
/-- The piece of a sector. -/
def pieceOf (place : Nat) (s : List UInt8) : Option (List UInt8) :=
  match Lib.atoi ((s.drop 16).take 2) with
  | some n => if 1 ≤ n ∧ n ≤ 46 ∧ secL place ((s.drop 18).take n.toNat) = s then some ((s.drop 18).take n.toNat) else none
  | none => none
theorem secL_parts {place : Nat} {p : List UInt8} (h : p.length ≤ 46) : ((secL place p).drop 16).take 2 = lastD 2 p.length ∧ ((secL place p).drop 18).take p.length = p := by
  have l2 := lastD_len 2 p.length
  have e : padL 48 (lastD 2 p.length ++ p) = lastD 2 p.length ++ (p ++ List.replicate (48 - (2 + p.length)) 0) := by
    rw [padL_short (by rw [List.length_append, l2]; omega), List.append_assoc, List.length_append, l2]
  unfold secL sealL
  rw [e]
  have l16 := sumL_len (lastD 8 place ++ (lastD 2 p.length ++ (p ++ List.replicate (48 - (2 + p.length)) 0)))
  constructor
  · rw [List.drop_append_of_le_length (by omega), List.drop_of_length_le (by omega), List.nil_append, List.take_append_of_le_length (by omega), List.take_of_length_le (by omega)]
  · rw [← List.append_assoc (sumL _), List.drop_append_of_le_length (by rw [List.length_append]; omega), List.drop_of_length_le (by rw [List.length_append]; omega), List.nil_append, List.take_left]
theorem pieceOf_sec {place : Nat} {p : List UInt8} (h1 : 1 ≤ p.length) (h : p.length ≤ 46) : pieceOf place (secL place p) = some p := by
  obtain ⟨e1, e2⟩ := secL_parts (place := place) h
  unfold pieceOf
  rw [e1, atoi_lastD (i := 1) (by omega)]
  simp only [Int.toNat_natCast]
  rw [e2, if_pos ⟨by omega, by omega, rfl⟩]
theorem pieceOf_some {place : Nat} {s p : List UInt8} (h : pieceOf place s = some p) : 1 ≤ p.length ∧ p.length ≤ 46 ∧ s = secL place p := by
  unfold pieceOf at h
  cases ha : Lib.atoi ((s.drop 16).take 2) with
  | none => rw [ha] at h; cases h
  | some n =>
    rw [ha] at h
    simp only at h
    split at h
    · rename_i hc
      injection h with h
      rw [h] at hc
      have hl : s.length = 64 := by rw [← hc.2.2]; exact secL_len _ _
      have : p.length = n.toNat := by rw [← h]; simp; omega
      exact ⟨by omega, by omega, hc.2.2.symm⟩
    · cases h

/-! Records. -/
/-- The longest record. -/
def mxB : Nat := 20000
open Classical in
/-- The number, up to 20000, that a numeral spells as Itoa would. -/
noncomputable def numOf (l : List UInt8) : Option Nat := if h : ∃ n : Nat, n ≤ mxB ∧ Lib.itoa (n : Int) = l then some (Classical.choose h) else none
theorem dec_value : ∀ (n : Nat) (acc : Nat), Lib.decFrom acc (Lib.decDigits n) = some (acc * 10 ^ (Lib.decDigits n).length + n) := by
  intro n
  induction n using Nat.strongRecOn with
  | _ n ih =>
    intro acc
    by_cases h : n < 10
    · rw [dec_ten h]
      simp [Lib.decFrom, digitVal_c8 h]
    · rw [dec_more h, decFrom_app _ _ _ _ (ih (n / 10) (by omega) acc)]
      simp only [Lib.decFrom, digitVal_c8 (Nat.mod_lt n (show 0 < 10 by decide)), List.length_append, List.length_singleton, Nat.pow_succ]
      congr 1
      rw [Nat.add_mul, Nat.mul_assoc]
      omega
theorem itoa_inj {a b : Nat} (h : Lib.itoa (a : Int) = Lib.itoa (b : Int)) : a = b := by
  rw [itoa_nat, itoa_nat] at h
  have h1 := dec_value a 0
  have h2 := dec_value b 0
  rw [h, h2] at h1
  simp at h1
  exact h1.symm
theorem numOf_itoa {n : Nat} (h : n ≤ mxB) : numOf (Lib.itoa (n : Int)) = some n := by
  have hex : ∃ m : Nat, m ≤ mxB ∧ Lib.itoa (m : Int) = Lib.itoa (n : Int) := ⟨n, h, rfl⟩
  unfold numOf
  rw [dif_pos hex]
  congr 1
  exact itoa_inj (Classical.choose_spec hex).2
theorem numOf_some {l : List UInt8} {n : Nat} (h : numOf l = some n) : n ≤ mxB ∧ Lib.itoa (n : Int) = l := by
  unfold numOf at h
  split at h
  · rename_i hex
    injection h with h
    rw [← h]
    exact Classical.choose_spec hex
  · cases h
theorem numOf_none {l : List UInt8} (h : numOf l = none) {n : Nat} (hn : n ≤ mxB) : Lib.itoa (n : Int) ≠ l := fun e => by
  rw [← e, numOf_itoa hn] at h; cases h
theorem dec_digits : ∀ (n : Nat), ∀ b ∈ Lib.decDigits n, 48 ≤ b.toNat ∧ b.toNat ≤ 57 := by
  intro n
  induction n using Nat.strongRecOn with
  | _ n ih =>
    intro b hb
    by_cases h : n < 10
    · rw [dec_ten h] at hb
      simp only [List.mem_singleton] at hb
      subst hb
      rw [c8_nat h]; omega
    · rw [dec_more h] at hb
      rcases List.mem_append.1 hb with hb | hb
      · exact ih (n / 10) (by omega) b hb
      · simp only [List.mem_singleton] at hb
        subst hb
        rw [c8_nat (Nat.mod_lt n (by decide))]; omega
theorem dec_ne (n : Nat) : Lib.decDigits n ≠ [] := by
  by_cases h : n < 10
  · rw [dec_ten h]; simp
  · rw [dec_more h]; simp
/-- A text before its first colon and behind it. -/
def cutC : List UInt8 → Option (List UInt8 × List UInt8)
  | [] => none
  | b :: r => if b = 58 then some ([], r) else (cutC r).map fun p => (b :: p.1, p.2)
theorem cutC_app : ∀ {a r : List UInt8}, (58 : UInt8) ∉ a → cutC (a ++ 58 :: r) = some (a, r)
  | [], r, _ => by simp [cutC]
  | b :: a, r, h => by
    have hb : b ≠ 58 := fun e => h (by simp [e])
    rw [List.cons_append, cutC, if_neg hb, cutC_app (fun hm => h (List.mem_cons_of_mem _ hm))]
    rfl
theorem cutC_some : ∀ {t a r : List UInt8}, cutC t = some (a, r) → t = a ++ 58 :: r ∧ (58 : UInt8) ∉ a
  | [], a, r, h => by simp [cutC] at h
  | b :: t, a, r, h => by
    unfold cutC at h
    split at h
    · rename_i hb
      injection h with h
      injection h with h1 h2
      subst h1 h2 hb
      exact ⟨rfl, by simp⟩
    · rename_i hb
      cases hc : cutC t with
      | none => rw [hc] at h; cases h
      | some p =>
        obtain ⟨a', r'⟩ := p
        rw [hc] at h
        injection h with h
        injection h with h1 h2
        obtain ⟨e1, e2⟩ := cutC_some hc
        subst h1 h2
        refine ⟨by rw [e1]; rfl, ?_⟩
        intro hm
        rcases List.mem_cons.1 hm with e | hm
        · exact hb e.symm
        · exact e2 hm
theorem cutC_none : ∀ {t : List UInt8}, cutC t = none → (58 : UInt8) ∉ t
  | [], _ => by simp
  | b :: t, h => by
    unfold cutC at h
    split at h
    · cases h
    · rename_i hb
      have : cutC t = none := by
        cases hc : cutC t with
        | none => rfl
        | some p => rw [hc] at h; cases h
      intro hm
      rcases List.mem_cons.1 hm with e | hm
      · exact hb e.symm
      · exact cutC_none this hm
/-- The records of a text. -/
noncomputable def parseK : Nat → List UInt8 → Option (List (List UInt8))
  | 0, t => if t = [] then some [] else none
  | k + 1, t => if t = [] then some [] else (cutC t).bind fun p => (numOf p.1).bind fun n => if n ≤ p.2.length then (parseK k (p.2.drop n)).map (fun rs => p.2.take n :: rs) else none
noncomputable def parseR (t : List UInt8) : Option (List (List UInt8)) := parseK t.length t
theorem parseK_nil : ∀ k, parseK k [] = some []
  | 0 => rfl
  | _ + 1 => rfl
theorem parseK_succ {k : Nat} {t : List UInt8} (h : t ≠ []) : parseK (k + 1) t = (cutC t).bind fun p => (numOf p.1).bind fun n => if n ≤ p.2.length then (parseK k (p.2.drop n)).map (fun rs => p.2.take n :: rs) else none := if_neg h
theorem parseK_step {k : Nat} {a r : List UInt8} {n : Nat} (ha : (58 : UInt8) ∉ a) (hn : numOf a = some n) : parseK (k + 1) (a ++ 58 :: r) = if n ≤ r.length then (parseK k (r.drop n)).map (fun rs => r.take n :: rs) else none := by
  rw [parseK_succ (by simp), cutC_app ha, Option.bind_some, hn, Option.bind_some]
theorem itoa_colon (n : Nat) : (58 : UInt8) ∉ Lib.itoa (n : Int) := fun h => by
  rw [itoa_nat] at h
  have := dec_digits n 58 h
  simp at this
theorem parseK_text : ∀ (rs : List (List UInt8)) (k : Nat), (∀ r ∈ rs, r.length ≤ mxB) → (textR rs).length ≤ k → parseK k (textR rs) = some rs
  | [], k, _, _ => parseK_nil k
  | r :: rs, k, h, hk => by
    have e : textR (r :: rs) = Lib.itoa (r.length : Int) ++ 58 :: (r ++ textR rs) := by simp [textR, recL]
    rw [e] at hk ⊢
    have hk' : 1 + (textR rs).length ≤ k := by simp at hk; omega
    obtain ⟨m, rfl⟩ : ∃ m, k = m + 1 := ⟨k - 1, by omega⟩
    rw [parseK_step (itoa_colon _) (numOf_itoa (h r List.mem_cons_self)), if_pos (by simp), List.drop_left, List.take_left, parseK_text rs m (fun x hx => h x (List.mem_cons_of_mem _ hx)) (by omega)]
    rfl
theorem parse_text {rs : List (List UInt8)} (h : ∀ r ∈ rs, r.length ≤ mxB) : parseR (textR rs) = some rs := parseK_text rs _ h (Nat.le_refl _)
theorem parseK_some : ∀ (k : Nat) (t : List UInt8) (rs : List (List UInt8)), parseK k t = some rs → t = textR rs ∧ ∀ r ∈ rs, r.length ≤ mxB := by
  intro k
  induction k with
  | zero =>
    intro t rs h
    by_cases h0 : t = []
    · subst h0
      rw [parseK_nil] at h
      injection h with h
      subst h
      exact ⟨rfl, by simp⟩
    · have : parseK 0 t = none := if_neg h0
      rw [this] at h; cases h
  | succ k ih =>
    intro t rs h
    by_cases h0 : t = []
    · subst h0
      rw [parseK_nil] at h
      injection h with h
      subst h
      exact ⟨rfl, by simp⟩
    rw [parseK_succ h0] at h
    cases hc : cutC t with
    | none => rw [hc] at h; cases h
    | some p =>
      obtain ⟨a, r⟩ := p
      rw [hc, Option.bind_some] at h
      cases hn : numOf a with
      | none => rw [hn] at h; cases h
      | some n =>
        rw [hn, Option.bind_some] at h
        by_cases hle : n ≤ r.length
        · rw [if_pos hle] at h
          cases hp : parseK k (r.drop n) with
          | none => rw [hp] at h; cases h
          | some rs' =>
            rw [hp] at h
            injection h with h
            subst h
            obtain ⟨e1, e2⟩ := ih _ _ hp
            obtain ⟨e3, e4⟩ := cutC_some hc
            obtain ⟨e5, e6⟩ := numOf_some hn
            have hl : (r.take n).length = n := by rw [List.length_take]; omega
            refine ⟨?_, ?_⟩
            · have e7 : textR (r.take n :: rs') = Lib.itoa ((r.take n).length : Int) ++ 58 :: (r.take n ++ textR rs') := by simp [textR, recL]
              rw [e7, hl, ← e1, e6, List.take_append_drop]
              exact e3
            · intro x hx
              rcases List.mem_cons.1 hx with rfl | hx
              · show (r.take n).length ≤ mxB
                omega
              · exact e2 x hx
        · rw [if_neg hle] at h; cases h
theorem parse_some {t : List UInt8} {rs : List (List UInt8)} (h : parseR t = some rs) : t = textR rs ∧ ∀ r ∈ rs, r.length ≤ mxB := parseK_some _ _ _ h
theorem textR_app (a b : List (List UInt8)) : textR (a ++ b) = textR a ++ textR b := by simp [textR]
end Go.Proofs.YtieicjjmkedgaaaGreatDoor

/- Numerals and colons in the shelf's words; the records of a text, step by step. No program in sight. -/
namespace Go.Proofs.YtieicjjmkedgaaaGreatDoor

theorem parseUint_snoc : ∀ (a : List UInt8) (acc m d : Nat), Lib.parseUint10 acc a = .ok m → m < 1844674407370955161 → d < 10 → Lib.parseUint10 acc (a ++ [c8 d]) = .ok (m * 10 + d)
  | [], acc, m, d, h, hm, hd => by
    simp only [Lib.parseUint10] at h
    injection h with h
    subst h
    have := c8_nat hd
    simp only [List.nil_append, Lib.parseUint10, this]
    rw [if_pos (by omega), if_neg (by omega), if_neg (by omega)]
    congr 1
    omega
  | x :: a, acc, m, d, h, hm, hd => by
    simp only [List.cons_append, Lib.parseUint10] at h ⊢
    by_cases h1 : 48 ≤ x.toNat ∧ x.toNat ≤ 57
    · rw [if_pos h1] at h ⊢
      by_cases h2 : 1844674407370955162 ≤ acc
      · rw [if_pos h2] at h; cases h
      · rw [if_neg h2] at h ⊢
        by_cases h3 : 18446744073709551616 ≤ acc * 10 + (x.toNat - 48)
        · rw [if_pos h3] at h; cases h
        · rw [if_neg h3] at h ⊢
          exact parseUint_snoc a _ m d h hm hd
    · rw [if_neg h1] at h; cases h
theorem parseUint_dec (n : Nat) : n < 1844674407370955161 → Lib.parseUint10 0 (Lib.decDigits n) = .ok n := by
  induction n using Nat.strongRecOn with
  | _ n ih =>
    intro hn
    by_cases h : n < 10
    · rw [dec_ten h]
      have := parseUint_snoc [] 0 0 n rfl (by omega) h
      simpa using this
    · rw [dec_more h, parseUint_snoc _ 0 (n / 10) (n % 10) (ih (n / 10) (by omega) (by omega)) (by omega) (Nat.mod_lt _ (by decide))]
      congr 1
      omega
theorem atoiAll_dec {n : Nat} (h : n < 1844674407370955161) : Lib.atoiAll (Lib.decDigits n) = .ok (n : Int) := by
  obtain ⟨b, r, hb⟩ : ∃ b r, Lib.decDigits n = b :: r := by
    cases hd : Lib.decDigits n with
    | nil => exact absurd hd (dec_ne n)
    | cons b r => exact ⟨b, r, rfl⟩
  have hdig := dec_digits n b (by rw [hb]; exact List.mem_cons_self)
  have hp := parseUint_dec n h
  rw [hb] at hp ⊢
  unfold Lib.atoiAll
  simp only
  rw [if_neg (by omega)]
  unfold Lib.parseMag
  rw [if_neg (by simp), hp]
  simp only
  rw [if_neg (by omega), if_neg (by omega), if_neg (by omega)]
theorem index_first {c : UInt8} {r : List UInt8} : ∀ {p : List UInt8}, c ∉ p → Lib.index (p ++ c :: r) [c] = p.length
  | [], _ => by simp [Lib.index]
  | b :: p, h => by
    have hb : c ≠ b := fun e => h (by simp [e])
    have ih := index_first (p := p) (r := r) (fun hm => h (List.mem_cons_of_mem _ hm))
    show Lib.index (b :: (p ++ c :: r)) [c] = _
    unfold Lib.index
    rw [if_neg (by simp [hb]), if_neg (by rw [ih]; simp), ih]
    simp
theorem index_miss {c : UInt8} : ∀ {p : List UInt8}, c ∉ p → Lib.index p [c] = -1
  | [], _ => by simp [Lib.index]
  | b :: p, h => by
    have hb : c ≠ b := fun e => h (by simp [e])
    have ih := index_miss (p := p) (fun hm => h (List.mem_cons_of_mem _ hm))
    unfold Lib.index
    rw [if_neg (by simp [hb]), if_pos (by rw [ih]; simp)]
theorem cut_hit {a r : List UInt8} (h : (58 : UInt8) ∉ a) : Lib.cut (a ++ 58 :: r) [58] = (a, r, true) := by
  unfold Lib.cut
  rw [index_first h, if_pos (by omega), Int.toNat_natCast, List.take_left]
  congr 1
  rw [show a.length + ([58] : List UInt8).length = (a ++ [58]).length by simp, show a ++ 58 :: r = (a ++ [58]) ++ r by simp, List.drop_left]
theorem cut_miss {t : List UInt8} (h : (58 : UInt8) ∉ t) : Lib.cut t [58] = (t, [], false) := by
  unfold Lib.cut
  rw [index_miss h, if_neg (by omega)]

theorem parseK_more : ∀ (k m : Nat) (t : List UInt8), t.length ≤ k → t.length ≤ m → parseK k t = parseK m t := by
  intro k
  induction k with
  | zero =>
    intro m t h _
    obtain rfl : t = [] := List.length_eq_zero_iff.1 (by omega)
    rw [parseK_nil, parseK_nil]
  | succ k ih =>
    intro m t h h2
    by_cases h0 : t = []
    · subst h0; rw [parseK_nil, parseK_nil]
    · have : 0 < t.length := List.length_pos_iff.2 h0
      obtain ⟨m, rfl⟩ : ∃ v, m = v + 1 := ⟨m - 1, by omega⟩
      rw [parseK_succ h0, parseK_succ h0]
      cases hc : cutC t with
      | none => rw [Option.bind_none, Option.bind_none]
      | some p =>
        obtain ⟨a, r⟩ := p
        rw [Option.bind_some, Option.bind_some]
        cases numOf a with
        | none => rw [Option.bind_none, Option.bind_none]
        | some n =>
          rw [Option.bind_some, Option.bind_some]
          have hl : r.length < t.length := by
            obtain ⟨e, _⟩ := cutC_some hc
            rw [e]; simp; omega
          rw [ih m ((a, r).2.drop n) (by show (r.drop n).length ≤ k; rw [List.length_drop]; omega) (by show (r.drop n).length ≤ m; rw [List.length_drop]; omega)]
theorem parseR_nil : parseR [] = some [] := rfl
theorem parseR_eq (t : List UInt8) : parseR t = parseK t.length t := rfl
theorem parseR_step {t a r : List UInt8} (h : cutC t = some (a, r)) : parseR t = (numOf a).bind fun n => if n ≤ r.length then (parseR (r.drop n)).map (fun rs => r.take n :: rs) else none := by
  have h0 : t ≠ [] := by rintro rfl; simp [cutC] at h
  have hl : r.length < t.length := by
    obtain ⟨e, _⟩ := cutC_some h
    rw [e]; simp; omega
  obtain ⟨k, hk⟩ : ∃ k, t.length = k + 1 := ⟨t.length - 1, by omega⟩
  rw [parseR_eq, hk, parseK_succ h0, h, Option.bind_some]
  cases numOf a with
  | none => rw [Option.bind_none, Option.bind_none]
  | some n =>
    rw [Option.bind_some, Option.bind_some]
    have e := parseK_more k (r.drop n).length (r.drop n) (by rw [List.length_drop]; omega) (Nat.le_refl _)
    rw [parseR_eq, ← e]
theorem parseR_none {t : List UInt8} (h0 : t ≠ []) (h : cutC t = none) : parseR t = none := by
  obtain ⟨k, hk⟩ : ∃ k, t.length = k + 1 := ⟨t.length - 1, by have : 0 < t.length := List.length_pos_iff.2 h0; omega⟩
  rw [parseR_eq, hk, parseK_succ h0, h, Option.bind_none]
end Go.Proofs.YtieicjjmkedgaaaGreatDoor

/- The reference's journal, in plain words: its digest, counts, pieces and records are the package's. No program in sight. -/
namespace Go.Proofs.YtieicjjmkedgaaaGreatDoor

/-! The digest. -/
theorem valF_end (l : List UInt8) (b : UInt8) : valF 0 (l ++ [b]) = valF 0 l * 256 + b.toNat := by
  unfold valF
  rw [List.foldl_append]
  rfl
/-- The last i hexadecimal digits. -/
def hexS (F : Nat) : Nat → List UInt8
  | 0 => []
  | i + 1 => hexc (F / 16 ^ i % 16) :: hexS F i
theorem hexS_all (F : Nat) : hexS F 16 = hexL F := by
  simp [hexS, hexL, List.range_succ, Nat.shiftRight_eq_div_pow]
/-- A block of which t bytes have been read. -/
def blkN (l : List UInt8) (t : Nat) : Nat := valF 0 ((l ++ List.replicate 8 0).take t)
theorem blkN_8 (l : List UInt8) : blkN l 8 = blockN l := rfl
theorem blkN_in {l : List UInt8} {t : Nat} {b : UInt8} (h : l[t]? = some b) : blkN l (t + 1) = blkN l t * 256 + b.toNat := by
  unfold blkN
  have hlt := (List.getElem?_eq_some_iff.1 h).1
  rw [List.take_add_one, List.getElem?_append_left hlt, h]
  exact valF_end _ _
theorem blkN_out {l : List UInt8} {t : Nat} (h : l.length ≤ t) (ht : t < 8) : blkN l (t + 1) = blkN l t * 256 := by
  unfold blkN
  rw [List.take_add_one, List.getElem?_append_right h, List.getElem?_replicate, if_pos (by omega)]
  exact (valF_end _ 0).trans (Nat.add_zero _)
theorem blkN_lt {l : List UInt8} {t : Nat} (ht : t ≤ 8) : blkN l t < 256 ^ t := by
  have := val_lt ((l ++ List.replicate 8 0).take t)
  have e : ((l ++ List.replicate 8 0).take t).length = t := by
    rw [List.length_take, List.length_append, List.length_replicate]
    omega
  rw [e] at this
  exact this
theorem blockN_take {l : List UInt8} (h : 8 ≤ l.length) : blockN (l.take 8) = blockN l := by
  unfold blockN
  congr 1
  rw [List.take_append_of_le_length (by rw [List.length_take]; omega), List.take_append_of_le_length h, List.take_take]
  rfl
theorem sumN_full {l : List UInt8} {st : Nat} (h : 8 ≤ l.length) : sumN (l.length / 8) st l = sumN ((l.drop 8).length / 8) (mixN (st ^^^ blockN l)) (l.drop 8) := by
  rw [show l.length / 8 = (l.drop 8).length / 8 + 1 by rw [List.length_drop]; omega]
  show sumN _ (mixN (st ^^^ blockN (l.take 8))) (l.drop 8) = _
  rw [blockN_take h]
theorem sumN_rest {l : List UInt8} {st : Nat} (h : l.length < 8) : sumN (l.length / 8) st l = mixN (st ^^^ blockN l) := by
  rw [show l.length / 8 = 0 by omega]
  rfl

/-! Counts and pieces. -/
/-- What number says: -1 for what is no number. -/
def numS (l : List UInt8) : Int := match Lib.decFrom 0 l with | some n => (n : Int) | none => -1
def rcntS (place : Nat) (s : List UInt8) (room : Nat) : Int :=
  if s = zeroL then 0 else match Lib.decFrom 0 ((s.drop 16).take 8) with | some n => if n ≤ room ∧ headL place n = s then (n : Int) else -1 | none => -1
theorem rcnt_eq {place room : Nat} {s : List UInt8} (h8 : room < 100000000) : rcntS place s room = cntL place s room := by
  unfold rcntS
  by_cases hz : s = zeroL
  · rw [if_pos hz, hz, cntL_zero]
  · rw [if_neg hz]
    rcases cntL_spec place s room with h | ⟨e, _⟩ | ⟨n, hn, rfl, h⟩
    · cases hd : Lib.decFrom 0 ((s.drop 16).take 8) with
      | none => exact h.symm
      | some n =>
        simp only
        split
        · rename_i hc
          have := cntL_head (place := place) hc.1 (by omega)
          rw [hc.2, h] at this
          omega
        · exact h.symm
    · exact absurd e hz
    · rw [headL_digits, decFrom_lastD 8 n (by omega)]
      simp only
      rw [if_pos ⟨hn, trivial⟩, h]
def rpcS (place : Nat) (s : List UInt8) : List UInt8 := match Lib.decFrom 0 ((s.drop 16).take 2) with | some n => if 1 ≤ n ∧ n ≤ 46 ∧ secL place ((s.drop 18).take n) = s then (s.drop 18).take n else [] | none => []
theorem rpc_eq {place : Nat} {s : List UInt8} : rpcS place s = (pieceOf place s).getD [] := by
  unfold rpcS
  cases hp : pieceOf place s with
  | some p =>
    obtain ⟨h1, h2, rfl⟩ := pieceOf_some hp
    obtain ⟨e1, e2⟩ := secL_parts (place := place) h2
    rw [e1, decFrom_lastD 2 p.length (by omega)]
    simp only
    rw [e2, if_pos ⟨h1, h2, rfl⟩]
    rfl
  | none =>
    cases hd : Lib.decFrom 0 ((s.drop 16).take 2) with
    | none => rfl
    | some n =>
      simp only
      split
      · rename_i hc
        have hl : s.length = 64 := by rw [← hc.2.2]; exact secL_len _ _
        have hpl : ((s.drop 18).take n).length = n := by rw [List.length_take, List.length_drop]; omega
        have := pieceOf_sec (place := place) (p := (s.drop 18).take n) (by omega) (by omega)
        rw [hc.2.2, hp] at this
        cases this
      · rfl
theorem rpc_some {place : Nat} {s : List UInt8} : (rpcS place s = [] ∧ pieceOf place s = none) ∨ (rpcS place s ≠ [] ∧ pieceOf place s = some (rpcS place s)) := by
  rw [rpc_eq]
  cases hp : pieceOf place s with
  | some p =>
    have := (pieceOf_some hp).1
    refine .inr ⟨fun e => ?_, rfl⟩
    simp only [Option.getD_some] at e
    rw [e] at this
    simp at this
  | none => exact .inl ⟨rfl, rfl⟩

/-! Records. -/
theorem decFrom_dec (n : Nat) : Lib.decFrom 0 (Lib.decDigits n) = some n := by
  have := dec_value n 0
  rwa [Nat.zero_mul, Nat.zero_add] at this
/-- Where the search for a colon ends: behind five bytes at the latest. -/
def colS (t : List UInt8) : Nat := ((t.take 5).takeWhile fun b => b != 58).length
theorem num_len {a : List UInt8} {n : Nat} (h : numOf a = some n) : a.length ≤ 5 := by
  obtain ⟨h1, h2⟩ := numOf_some h
  rw [← h2, itoa_nat]
  exact (dec_pad (w := 4) (n := n) (by unfold mxB at h1; omega)).1
theorem num_some {a : List UInt8} {n : Nat} (h : numOf a = some n) : Lib.decFrom 0 a = some n ∧ n ≤ 20000 ∧ Lib.decDigits n = a := by
  obtain ⟨h1, h2⟩ := numOf_some h
  rw [itoa_nat] at h2
  exact ⟨h2 ▸ decFrom_dec n, h1, h2⟩
theorem num_none {a : List UInt8} {n : Nat} (h : numOf a = none) (hn : n ≤ 20000) : Lib.decDigits n ≠ a := fun e => numOf_none h (n := n) hn (by rw [itoa_nat]; exact e)
theorem takeWhile_len {p : UInt8 → Bool} : ∀ (l : List UInt8), ∀ i, i < (l.takeWhile p).length → ∃ b, l[i]? = some b ∧ p b = true
  | [], i, h => by simp at h
  | x :: l, i, h => by
    rw [List.takeWhile_cons] at h
    split at h
    · rename_i hx
      cases i with
      | zero => exact ⟨x, rfl, hx⟩
      | succ i => exact takeWhile_len l i (by simpa using h)
    · simp at h
theorem takeWhile_end {p : UInt8 → Bool} : ∀ (l : List UInt8) (b : UInt8), l[(l.takeWhile p).length]? = some b → p b = false
  | [], b, h => by simp at h
  | x :: l, b, h => by
    rw [List.takeWhile_cons] at h
    split at h
    · rw [List.length_cons, List.getElem?_cons_succ] at h
      exact takeWhile_end l b h
    · rename_i hx
      simp only [List.length_nil, List.getElem?_cons_zero, Option.some.injEq] at h
      subst h
      simpa using hx
theorem takeWhile_le {p : UInt8 → Bool} : ∀ (l : List UInt8), (l.takeWhile p).length ≤ l.length
  | [] => Nat.le_refl _
  | x :: l => by
    rw [List.takeWhile_cons]
    split
    · have := takeWhile_le (p := p) l
      simp only [List.length_cons]
      omega
    · simp
theorem colS_le (t : List UInt8) : colS t ≤ 5 ∧ colS t ≤ t.length := by
  have := takeWhile_le (p := fun b => b != 58) (t.take 5)
  rw [List.length_take] at this
  unfold colS
  omega
theorem colS_before {t : List UInt8} {i : Nat} (h : i < colS t) : ∃ b, t[i]? = some b ∧ b ≠ 58 := by
  obtain ⟨b, h1, h2⟩ := takeWhile_len (t.take 5) i h
  have := (colS_le t).1
  rw [List.getElem?_take_of_lt (by omega)] at h1
  exact ⟨b, h1, by simpa using h2⟩
/-- The search has come this far: it goes on. -/
theorem colS_go {t : List UInt8} {i : Nat} {b : UInt8} (h : i ≤ colS t) (h5 : i < 5) (hb : t[i]? = some b) (hn : b ≠ 58) : i < colS t := by
  rcases Nat.lt_or_ge i (colS t) with h1 | h1
  · exact h1
  · have e : i = colS t := by omega
    have := takeWhile_end (p := fun b => b != 58) (t.take 5) b (by rw [show ((t.take 5).takeWhile fun b => b != 58).length = i from e.symm, List.getElem?_take_of_lt h5]; exact hb)
    simp at this
    exact absurd this hn
theorem colS_end {t : List UInt8} {i : Nat} (h : i ≤ colS t) (hs : i = 5 ∨ t.length ≤ i ∨ t[i]? = some 58) : i = colS t := by
  have h1 := colS_le t
  rcases hs with hs | hs | hs
  · omega
  · omega
  · rcases Nat.lt_or_ge i (colS t) with h2 | h2
    · obtain ⟨b, h3, h4⟩ := colS_before h2
      rw [hs] at h3
      injection h3 with h3
      exact absurd h3.symm h4
    · omega
theorem cut_col {t : List UInt8} (h : t[colS t]? = some 58) : cutC t = some (t.take (colS t), t.drop (colS t + 1)) := by
  have hlt := (List.getElem?_eq_some_iff.1 h).1
  have hsp : t = t.take (colS t) ++ 58 :: t.drop (colS t + 1) := by
    have e1 : t.drop (colS t) = 58 :: t.drop (colS t + 1) := by
      rw [List.drop_eq_getElem_cons hlt]
      congr 1
      exact (List.getElem?_eq_some_iff.1 h).2
    rw [← e1, List.take_append_drop]
  have hnot : (58 : UInt8) ∉ t.take (colS t) := fun hm => by
    obtain ⟨i, hi⟩ := List.getElem?_of_mem hm
    have hil := (List.getElem?_eq_some_iff.1 hi).1
    rw [List.length_take] at hil
    obtain ⟨b, h3, h4⟩ := colS_before (t := t) (i := i) (by omega)
    rw [List.getElem?_take_of_lt (by omega), h3] at hi
    injection hi with hi
    exact h4 hi
  have := cutC_app (r := t.drop (colS t + 1)) hnot
  rwa [← hsp] at this
/-- One record: no colon in time. -/
theorem rparse_no {t : List UInt8} (h0 : t ≠ []) (h : t[colS t]? ≠ some 58) : parseR t = none := by
  cases hc : cutC t with
  | none => exact parseR_none h0 hc
  | some p =>
    obtain ⟨a, r⟩ := p
    obtain ⟨rfl, h58⟩ := cutC_some hc
    have hal : 5 < a.length := by
      rcases Nat.lt_or_ge 5 a.length with h1 | h1
      · exact h1
      · refine absurd ?_ h
        have e : a.length = colS (a ++ 58 :: r) := by
          refine colS_end ?_ (.inr (.inr (by rw [List.getElem?_append_right (Nat.le_refl _), Nat.sub_self]; rfl)))
          rcases Nat.lt_or_ge (colS (a ++ 58 :: r)) a.length with h2 | h2
          · obtain ⟨b, hb⟩ : ∃ b, a[colS (a ++ 58 :: r)]? = some b := ⟨_, List.getElem?_eq_getElem h2⟩
            have := colS_go (t := a ++ 58 :: r) (Nat.le_refl _) (by omega) (by rw [List.getElem?_append_left h2]; exact hb) fun e => h58 (by rw [← e]; exact List.mem_of_getElem? hb)
            omega
          · exact h2
        rw [← e, List.getElem?_append_right (Nat.le_refl _), Nat.sub_self]
        rfl
    rw [parseR_step hc]
    cases hn : numOf a with
    | none => rfl
    | some n =>
      have := num_len hn
      omega
theorem rparse_step {t : List UInt8} (h : t[colS t]? = some 58) : parseR t = (numOf (t.take (colS t))).bind fun n => if n ≤ (t.drop (colS t + 1)).length then (parseR ((t.drop (colS t + 1)).drop n)).map (fun rs => (t.drop (colS t + 1)).take n :: rs) else none := parseR_step (cut_col h)
end Go.Proofs.YtieicjjmkedgaaaGreatDoor
