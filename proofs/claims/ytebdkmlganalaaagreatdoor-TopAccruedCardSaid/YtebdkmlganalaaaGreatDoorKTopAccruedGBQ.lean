/- TopAccrued: what lies in memory while the law works. pandectref32.Named. A box that is made and stored whole within a region that draws its order. TopAccrued: a call's matter that is stored in its box within a region that draws; the rights once one is appended. pandectref06.Equal. -/
import Derived.Test.YtebdkmlganalaaaGreatDoorKTopAccruedYf
import Derived.Test.YtebdkmlganalaaaGreatDoorKTopAccruedGAY
import Derived.Test.YtebdkmlganalaaaGreatDoorKTopAccruedGBO
import Derived.Test.YtebdkmlganalaaaGreatDoorKTopAccruedGBP
import Derived.Test.YtebdkmlganalaaaGreatDoorKTopAccruedMe
import Derived.Test.YtebdkmlganalaaaGreatDoorKTopAccruedQs
import Derived.BigQuiet
import Derived.Test.YtebdkmlganalaaaGreatDoorKTopAccruedMk
namespace Go.Proofs.YtebdkmlganalaaaGreatDoor
open Go.RowKit Go.Shelf

theorem rtCells_setN : ∀ (S : List Rt) (i : Nat) (t : Rt) (n : ByteArray), S[i]? = some t → rtCells (S.set i (n, t.2)) = (rtCells S).set (i * 2) (.string n)
  | [], i, t, n, h => by simp at h
  | s :: S, 0, t, n, h => by
    have h : s = t := by simpa using h
    subst h
    rfl
  | s :: S, i + 1, t, n, h => by
    have ih := rtCells_setN S i t n (by simpa using h)
    have e : (i + 1) * 2 = i * 2 + 1 + 1 := by omega
    rw [e]
    show encR2 s ++ rtCells (S.set i (n, t.2)) = _
    rw [ih]
    rfl
/-- The rights behind t rounds of new names. -/
def renT (rs : List S2) (had : List Rt) (t : Nat) : List Rt := (had.take t).map (fun r => (namedL rs r.1, r.2)) ++ had.drop t
theorem renT_len (rs : List S2) (had : List Rt) (t : Nat) : (renT rs had t).length = had.length := by
  unfold renT
  rw [List.length_append, List.length_map, List.length_take, List.length_drop]
  omega
theorem renT_zero (rs : List S2) (had : List Rt) : renT rs had 0 = had := rfl
theorem renT_all (rs : List S2) (had : List Rt) : renT rs had had.length = had.map (fun r => (namedL rs r.1, r.2)) := by
  unfold renT
  rw [List.take_length, List.drop_length, List.append_nil]
theorem renT_next {rs : List S2} {had : List Rt} {t : Nat} {r : Rt} (h : had[t]? = some r) : renT rs had (t + 1) = (renT rs had t).set t (namedL rs r.1, r.2) := by
  obtain ⟨hk, hg⟩ := List.getElem?_eq_some_iff.1 h
  have hlen : ((had.take t).map (fun r => (namedL rs r.1, r.2))).length = t := by rw [List.length_map, List.length_take]; omega
  unfold renT
  rw [take_snoc' h, List.map_append, List.set_append, if_neg (by rw [hlen]; omega), hlen, Nat.sub_self, List.drop_eq_getElem_cons hk, List.append_assoc]
  rfl
theorem renT_at {rs : List S2} {had : List Rt} {t : Nat} {r : Rt} (h : had[t]? = some r) : (renT rs had t)[t]? = some r := by
  obtain ⟨hk, hg⟩ := List.getElem?_eq_some_iff.1 h
  have hlen : ((had.take t).map (fun r => (namedL rs r.1, r.2))).length = t := by rw [List.length_map, List.length_take]; omega
  unfold renT
  rw [List.getElem?_append_right (by omega), hlen, Nat.sub_self, List.getElem?_drop]
  exact h
/-- The matter m in its box, the procedure p in which it stands in another, the rights that it had in a row: the matter's lists lie in none of these. -/
structure AcS (w W : World) (Cg Cf Ct Cd : Array Value) (m : Mt) (x : MtX) (bp : Nat) (Cp : Array Value) (vh : Value) (hn : Nat) (had : List Rt) : Prop where
  hb : Below w.heap.size w W
  km : Blk W w.heap.size 27 (mtC m x)
  kg : Blk W (w.heap.size + 1) 30 Cg
  kf : Blk W (w.heap.size + 1 + 1) 34 Cf
  kt : Blk W (w.heap.size + 1 + 1 + 1) 34 Ct
  kd : Blk W (w.heap.size + 1 + 1 + 1 + 1) 37 Cd
  kp : Blk W bp 34 Cp
  oh : W.ownsRow w.heap.size 53 2 vh hn (rtCells had)
  ma : MtAt W W.heap.size m x
  om : Off w.heap.size m x
  op : Off bp m x
  oo : ∀ b, vh.ownBlock = some b → Off b m x
  lo : w.heap.size + 1 + 1 + 1 + 1 < bp
section
variable {w W W' : World} {Cg Cf Ct Cd Cp : Array Value} {m : Mt} {x : MtX} {bp hn : Nat} {vh : Value} {had : List Rt}
theorem AcS.below (h : AcS w W Cg Cf Ct Cd m x bp Cp vh hn had) (hb : Below W.heap.size W W') : AcS w W' Cg Cf Ct Cd m x bp Cp vh hn had :=
  ⟨h.hb.trans (hb.mono h.hb.size), h.km.below hb h.km.lt, h.kg.below hb h.kg.lt, h.kf.below hb h.kf.lt, h.kt.below hb h.kt.lt, h.kd.below hb h.kd.lt, h.kp.below hb h.kp.lt, (Only.of_below hb (fun _ => False)).owns h.oh (fun _ _ f => f), (h.ma.below hb).wide hb.size, h.om, h.op, h.oo, h.lo⟩
/-- A block made later turns. -/
theorem AcS.fresh {g : Nat} (h : AcS w W Cg Cf Ct Cd m x bp Cp vh hn had) (ho : Only (fun i => i = g) W W') (hg : bp < g) (h1 : ∀ b, vh.ownBlock = some b → ¬ b = g) (hf : Off g m x) : AcS w W' Cg Cf Ct Cd m x bp Cp vh hn had := by
  have hl := h.lo
  exact ⟨h.hb.trans (ho.below h.hb.size fun i hi => by omega), ho.blk h.km (by omega), ho.blk h.kg (by omega), ho.blk h.kf (by omega), ho.blk h.kt (by omega), ho.blk h.kd (by omega), ho.blk h.kp (by omega), ho.owns h.oh (fun b hb f => h1 b hb f), (h.ma.off ho hf).wide ho.size, h.om, h.op, h.oo, h.lo⟩
/-- The row of rights grows, or an element of it turns. -/
theorem AcS.hadR {v' : Value} {n' : Nat} {had' : List Rt} {g : Nat} (h : AcS w W Cg Cf Ct Cd m x bp Cp vh hn had) (o : W'.ownsRow w.heap.size 53 2 v' n' (rtCells had')) (hv : vh.ownBlock = some g ∨ ∀ b, vh.ownBlock = some b → False) (hg : W.grownBy W' vh.ownBlock) (hn' : ∀ b, v'.ownBlock = some b → Off b m x) : AcS w W' Cg Cf Ct Cd m x bp Cp v' n' had' := by
  have hO := Only.of_grown hg
  have hma : MtAt W' W'.heap.size m x := by
    rcases hv with hv | hv
    · have ho : Only (fun i => i = g) W W' := hO.mono fun i hi => by rw [hv] at hi; injection hi with hi; exact hi.symm
      exact (h.ma.off ho (h.oo g hv)).wide ho.size
    · have ho : Below W.heap.size W W' := hO.below (Nat.le_refl _) fun i hi => absurd hi (hv i)
      exact (h.ma.below ho).wide ho.size
  exact ⟨h.hb.trans (hO.below h.hb.size (fun i hi => (h.oh.lt i hi).1)), hO.blk h.km (own_blk_ne h.oh h.km (by decide)), hO.blk h.kg (own_blk_ne h.oh h.kg (by decide)), hO.blk h.kf (own_blk_ne h.oh h.kf (by decide)), hO.blk h.kt (own_blk_ne h.oh h.kt (by decide)), hO.blk h.kd (own_blk_ne h.oh h.kd (by decide)), hO.blk h.kp (own_blk_ne h.oh h.kp (by decide)), o, hma, h.om, h.op, hn', h.lo⟩
/-- Another procedure. -/
theorem AcS.proc {C' : Array Value} (h : AcS w W Cg Cf Ct Cd m x bp Cp vh hn had) (ho : Only (fun i => i = bp) W W') (hk : Blk W' bp 34 C') : AcS w W' Cg Cf Ct Cd m x bp C' vh hn had := by
  have hl := h.lo
  exact ⟨h.hb.trans (ho.below h.hb.size fun i hi => by omega), ho.blk h.km (by omega), ho.blk h.kg (by omega), ho.blk h.kf (by omega), ho.blk h.kt (by omega), ho.blk h.kd (by omega), hk, ho.owns h.oh (fun b hb f => own_blk_ne h.oh h.kp (by decide) (by rw [hb, f])), (h.ma.off ho h.op).wide ho.size, h.om, h.op, h.oo, h.lo⟩
/-- Another matter. -/
theorem AcS.matter {m' : Mt} {x' : MtX} (h : AcS w W Cg Cf Ct Cd m x bp Cp vh hn had) (ho : Only (fun i => i = w.heap.size) W W') (hk : Blk W' w.heap.size 27 (mtC m' x')) (ha : MtAt W W.heap.size m' x') (h1 : Off w.heap.size m' x') (h2 : Off bp m' x') (h3 : ∀ b, vh.ownBlock = some b → Off b m' x') : AcS w W' Cg Cf Ct Cd m' x' bp Cp vh hn had := by
  have hl := h.lo
  exact ⟨h.hb.trans (ho.below h.hb.size fun i hi => by omega), hk, ho.blk h.kg (by omega), ho.blk h.kf (by omega), ho.blk h.kt (by omega), ho.blk h.kd (by omega), ho.blk h.kp (by omega), ho.owns h.oh (fun b hb f => own_blk_ne h.oh h.km (by decide) (by rw [hb, f])), (ha.off ho h1).wide ho.size, h1, h2, h3, h.lo⟩
end
end Go.Proofs.YtebdkmlganalaaaGreatDoor

namespace Go.Proofs.YtebdkmlganalaaaGreatDoor
open Go.RowKit Go.Shelf

theorem named_found {rs : List S2} {n : ByteArray} {k : Nat} {x : S2} (h : rs[k]? = some x) (hx : x.1 = n) (hn : ∀ r ∈ rs.take k, ¬ r.1 = n) : namedL rs n = x.2 := by
  unfold namedL
  have : (rs.find? fun r => decide (r.1 = n)) = some x := by
    rw [List.find?_eq_some_iff_getElem]
    obtain ⟨hk, he⟩ := List.getElem?_eq_some_iff.1 h
    refine ⟨decide_eq_true hx, k, hk, he, fun j hj => ?_⟩
    have := hn (rs[j]'(by omega)) (List.mem_iff_getElem.2 ⟨j, by rw [List.length_take]; omega, by rw [List.getElem_take]⟩)
    simpa using this
  rw [this]
theorem named_no {rs : List S2} {n : ByteArray} (hn : ∀ r ∈ rs, ¬ r.1 = n) : namedL rs n = n := by
  unfold namedL
  have : (rs.find? fun r => decide (r.1 = n)) = none := by
    rw [List.find?_eq_none]
    intro r hr he
    exact hn r hr (of_decide_eq_true he)
  rw [this]
set_option maxRecDepth 100000 in
set_option maxHeartbeats 2000000 in
theorem rnamed32_any (w : World) (B : Nat) (g : Mg) (x : MgX) (h : PrsAt w B x.a2 g.rs) (hB : B ≤ w.heap.size) (hs : g.rs.length ≤ 4611686018427387904) (n : ByteArray) :
    Calls Tryz.prog 12 #[.agg (mgC g x), .string n] w fun e w' => e = .returned (.string (namedL g.rs n)) ∧ Below w.heap.size w w' := by
  obtain ⟨fr, tn, st, rs, ts⟩ := g
  obtain ⟨a1, c1, a2, c2, a3, c3, tv⟩ := x
  simp only at *
  show Calls Tryz.prog 12 #[.agg #[.string fr, .string tn, .slice a1 st.length c1, .slice a2 rs.length c2, .slice a3 ts.length c3], .string n] w _
  obtain ⟨q, hq⟩ : ∃ q, namedL rs n = q := ⟨_, rfl⟩
  rw [hq]
  have HQ := Lib.hid hq
  have hb := below_self_alloc w (.cells #[.string fr, .string tn, .slice a1 st.length c1, .slice a2 rs.length c2, .slice a3 ts.length c3] 30)
  have kx := Blk.new w 30 #[.string fr, .string tn, .slice a1 st.length c1, .slice a2 rs.length c2, .slice a3 ts.length c3]
  have HH := Lib.hid (h.below (hb.mono hB))
  clear hq h
  obtain ⟨t0, t1, t2⟩ := kx.all
  go_enter Tryz.func12, Tryz.ntmps12
  go_wp2_with fail
  generalize w.alloc (.cells #[.string fr, .string tn, .slice a1 st.length c1, .slice a2 rs.length c2, .slice a3 ts.length c3] 30) = W at *
  have HB := Lib.hid hb
  clear hb kx
  go_loop [5] (fun i => ∃ k : Nat, k ≤ rs.length ∧ i = .int .i64 (k : Int) ∧ Hid (∀ r ∈ rs.take k, ¬ r.1 = n)) (fun i => rs.length - (intOf i).toNat)
  case atStart => exact ⟨0, Nat.zero_le _, rfl, Lib.hid (by simp)⟩
  case round =>
    obtain ⟨k, hk, rfl, HT⟩ := hrel
    by_cases hlt : k < rs.length
    · obtain ⟨x, hx⟩ : ∃ x, rs[k]? = some x := ⟨_, List.getElem?_eq_getElem hlt⟩
      obtain ⟨g, off, hA, hg, p0, p1⟩ := HH.out k x hx
      subst hA
      have ib0 : (0 : Int) ≤ (k : Int) := by omega
      have ib1 : (k : Int) < (rs.length : Int) := by omega
      have HX := Lib.hid hx
      clear hx
      by_cases h1 : x.1 = n
      · have hfin : x.2 = q := by
          rw [← HQ.out]
          exact (named_found HX.out h1 HT.out).symm
        subst hfin
        subst h1
        go_wp2_with fail
        go_ret
        exact ⟨rfl, HB.out⟩
      · have HT2 : Hid (∀ r ∈ rs.take (k + 1), ¬ r.1 = n) := Lib.hid (by
          rw [take_snoc' HX.out]
          intro r hr
          rcases List.mem_append.1 hr with h2 | h2
          · exact HT.out r h2
          · have : r = x := by simpa using h2
            exact this ▸ h1)
        have e3 := str_no h1
        clear h1
        go_wp2_with fail
        go_round
        case rel => exact ⟨k + 1, by omega, by go_num, HT2⟩
        case measure => simp [intOf]; omega
    · obtain rfl : k = rs.length := by omega
      have hfin : n = q := by
        rw [← HQ.out]
        have hno := HT.out
        rw [List.take_length] at hno
        exact (named_no hno).symm
      subst hfin
      go_wp2
      go_ret
      exact ⟨rfl, HB.out⟩

end Go.Proofs.YtebdkmlganalaaaGreatDoor

namespace Go.Proofs.YtebdkmlganalaaaGreatDoor
open Go.RowKit Go.Shelf

theorem own_slice {w : World} {base size n : Nat} {e : TypeId} {v : Value} {xs : List Value} (h : w.ownsRow base e size v n xs) : ∃ A c, v = .slice A n c := by
  rcases h.2 with ⟨hv, h0⟩ | ⟨g, cap, cur, hv, _⟩
  · exact ⟨none, 0, by rw [hv, h0]⟩
  · exact ⟨_, _, hv⟩
theorem PSv.go2 {w V : World} {g : Nat} {cells : Array Value} (h : PSv w V) (hg : w.heap.size ≤ g) : PSv w (V.setRow g cells) :=
  ⟨h.os, h.tape, h.output, by rw [size_setRow]; exact h.size, fun i hi => (setRow_other V g i cells (by omega)).trans (h.block i hi)⟩
def IsB (t : TypeId) (n : Nat) (w : World) (g : Nat) : Prop := ∃ cs, Blk w g t cs ∧ cs.size = n
def FinB (t : TypeId) (Fin : Array Value → Prop) (w : World) (g : Nat) : Prop := ∃ cs, Fin cs ∧ Blk w g t cs
structure RX (base : Nat) (t : TypeId) (n : Nat) (Fin : Array Value → Prop) (w w' : World) : Prop where
  only : Only (fun i => base ≤ i ∧ IsB t n w i) w w'
  is_ : ∀ g, IsB t n w g → IsB t n w' g
  fin : ∀ g, FinB t Fin w g → FinB t Fin w' g
section
variable {base n : Nat} {t : TypeId} {Fin : Array Value → Prop} {w w' : World}
theorem RX.of_below (h : Below w.heap.size w w') : RX base t n Fin w w' where
  only := Only.of_below h _
  is_ g hg := by
    obtain ⟨cs, h1, h2⟩ := hg
    exact ⟨cs, h1.below h h1.lt, h2⟩
  fin g hg := by
    obtain ⟨cs, h1, h2⟩ := hg
    exact ⟨cs, h1, h2.below h h2.lt⟩
theorem RX.store {g : Nat} {cs : Array Value} (hg : base ≤ g) (hm : IsB t n w g) (ho : Only (fun i => i = g) w w') (hk : Blk w' g t cs) (hn : cs.size = n) (hf : Fin cs) : RX base t n Fin w w' ∧ FinB t Fin w' g := by
  refine ⟨⟨ho.mono (fun i hi => by subst hi; exact ⟨hg, hm⟩), fun i hi => ?_, fun i hi => ?_⟩, cs, hf, hk⟩
  · by_cases he : i = g
    · subst he; exact ⟨_, hk, hn⟩
    · obtain ⟨c, h1, h2⟩ := hi
      exact ⟨c, ho.blk h1 he, h2⟩
  · by_cases he : i = g
    · subst he; exact ⟨_, hf, hk⟩
    · obtain ⟨c, h1, h2⟩ := hi
      exact ⟨c, h1, ho.blk h2 he⟩
end
/-- Where the box lies; that it is stored; a value known by a word. -/
def ptrX (base : Nat) (t : TypeId) (n : Nat) : Phi := ⟨none, fun _ v w => ∃ g, v = .pointer (some ⟨g, 0, none⟩) ∧ base ≤ g ∧ IsB t n w g⟩
def finX (base : Nat) (t : TypeId) (Fin : Array Value → Prop) (i : Nat) : Phi := ⟨some i, fun x _ w => ∃ g, x = .pointer (some ⟨g, 0, none⟩) ∧ base ≤ g ∧ FinB t Fin w g⟩
def pV (K : Value → Prop) : Phi := ⟨none, fun _ v _ => K v⟩
section
variable (base : Nat) (t : TypeId) (n : Nat) (Fin : Array Value → Prop)
theorem ptrX_mono : ∀ x v w w', RX base t n Fin w w' → (ptrX base t n).p x v w → (ptrX base t n).p x v w' := fun _ _ _ _ hr ⟨g, h1, h2, h3⟩ => ⟨g, h1, h2, hr.is_ g h3⟩
theorem finX_mono (i : Nat) : ∀ x v w w', RX base t n Fin w w' → (finX base t Fin i).p x v w → (finX base t Fin i).p x v w' := fun _ _ _ _ hr ⟨g, h1, h2, h3⟩ => ⟨g, h1, h2, hr.fin g h3⟩
theorem pV_mono (K : Value → Prop) {R : World → World → Prop} : ∀ x v w w', R w w' → (pV K).p x v w → (pV K).p x v w' := fun _ _ _ _ _ h => h
end
theorem one2 {a : ByteArray} {n : Int} : (#[.string a, .int .i64 n] : Array Value).all (·.oneCell') = true := by simp [Value.oneCell']
theorem one5L {a : ByteArray} {n u f : Int} {A : Option Addr} {m c : Nat} : (#[.string a, .int .i64 n, .int .i64 u, .int .i64 f, .slice A m c] : Array Value).all (·.oneCell') = true := by simp [Value.oneCell']
/-- A right stored whole, a limit stored whole. -/
theorem wp_rowR {ops : Array Oper} {rest : List Oper} {o : Oper} {a : Act} {W : World} {Q : Exit → Act → World → Prop} (hgd : o.guard = none) (x y : Operand) (ho : o.op = .store 53 x y) (g : Nat) (C : Array Value)
    (hx : a.eval x = .pointer (some ⟨g, 0, none⟩)) (hy : a.eval y = .agg C) (hC : C.size = 2) (h1 : C.all (·.oneCell') = true) {old : Array Value} (hold : old.size = 2) (hb : Blk W g 53 old)
    (h : wpList Tryz.prog ops Q rest (a.put o.dst undef) (W.setRow g C)) : wpList Tryz.prog ops Q (o :: rest) a W :=
  wpList_store_row hgd 53 x y ho g C hx hy 53 old hb (by rw [hC]; kernel_rfl) (by rw [hC, hold]) h1 h
theorem wp_rowL {ops : Array Oper} {rest : List Oper} {o : Oper} {a : Act} {W : World} {Q : Exit → Act → World → Prop} (hgd : o.guard = none) (x y : Operand) (ho : o.op = .store 66 x y) (g : Nat) (C : Array Value)
    (hx : a.eval x = .pointer (some ⟨g, 0, none⟩)) (hy : a.eval y = .agg C) (hC : C.size = 5) (h1 : C.all (·.oneCell') = true) {old : Array Value} (hold : old.size = 5) (hb : Blk W g 66 old)
    (h : wpList Tryz.prog ops Q rest (a.put o.dst undef) (W.setRow g C)) : wpList Tryz.prog ops Q (o :: rest) a W :=
  wpList_store_row hgd 66 x y ho g C hx hy 66 old hb (by rw [hC]; kernel_rfl) (by rw [hC, hold]) h1 h
theorem blk_row {W : World} {g : Nat} {t : TypeId} {old cells : Array Value} (h : Blk W g t old) : Blk (W.setRow g cells) g t cells := setRow_heap W g old cells _ _ h
theorem only_row {W : World} {g : Nat} {cells : Array Value} : Only (fun i => i = g) W (W.setRow g cells) :=
  ⟨rfl, rfl, rfl, by rw [size_setRow]; exact Nat.le_refl _, fun i _ hi => setRow_other W g i cells hi⟩
end Go.Proofs.YtebdkmlganalaaaGreatDoor

namespace Go.Proofs.YtebdkmlganalaaaGreatDoor
open Go.RowKit Go.Shelf

/-- The box's block alone has turned. -/
def StS (W0 : World) (bn : Nat) (V : World) : Prop := Only (fun i => i = bn) W0 V ∧ ∃ cs, Blk V bn 27 cs ∧ cs.size = 8
/-- The box holds the matter M. -/
def StF (bn : Nat) (M : Mt) (K : MtX → Prop) (V : World) : Prop := ∃ x, Blk V bn 27 (mtC M x) ∧ MtAt V V.heap.size M x ∧ K x
def StR (bn : Nat) (M : Mt) (K : MtX → Prop) (W W' : World) : Prop := Only (fun i => i = bn) W W' ∧ (StF bn M K W → StF bn M K W')
def tupX (M : Mt) (E : Int) (K : MtX → Prop) : Phi := ⟨none, fun _ v W => ∃ x, v = .tuple #[.agg (mtC M x), .int .i64 E] ∧ MtAt W W.heap.size M x ∧ K x⟩
def aggX (M : Mt) (K : MtX → Prop) : Phi := ⟨none, fun _ v W => ∃ x, v = .agg (mtC M x) ∧ MtAt W W.heap.size M x ∧ K x⟩
def stX (bn : Nat) (M : Mt) (K : MtX → Prop) : Phi := ⟨none, fun _ _ W => StF bn M K W⟩
section
variable {bn : Nat} {M : Mt} {K : MtX → Prop} {W0 W W' : World}
theorem StR.ma (hk : ∀ x, K x → Off bn M x) (h : StR bn M K W W') {x : MtX} (hm : MtAt W W.heap.size M x) (k : K x) : MtAt W' W'.heap.size M x := (hm.off h.1 (hk x k)).wide h.1.size
theorem tupX_mono {E : Int} (hk : ∀ x, K x → Off bn M x) : ∀ x v w w', StR bn M K w w' → (tupX M E K).p x v w → (tupX M E K).p x v w' := fun _ _ _ _ r ⟨x, e, m, k⟩ => ⟨x, e, r.ma hk m k, k⟩
theorem aggX_mono (hk : ∀ x, K x → Off bn M x) : ∀ x v w w', StR bn M K w w' → (aggX M K).p x v w → (aggX M K).p x v w' := fun _ _ _ _ r ⟨x, e, m, k⟩ => ⟨x, e, r.ma hk m k, k⟩
theorem stX_mono : ∀ x v w w', StR bn M K w w' → (stX bn M K).p x v w → (stX bn M K).p x v w' := fun _ _ _ _ r h => r.2 h
theorem StR.of_below (h : Below W.heap.size W W') : StR bn M K W W' := ⟨Only.of_below h _, fun ⟨x, k, m, q⟩ => ⟨x, k.below h k.lt, (m.below h).wide h.size, q⟩⟩
theorem StR.same : StR bn M K W W := ⟨Only.refl _ _, id⟩
theorem StS.go (h : StS W0 bn W) (hb : Below W.heap.size W W') : StS W0 bn W' := ⟨h.1.trans (Only.of_below hb (fun i => i = bn)) (fun _ hi => .inl hi), h.2.imp fun _ k => ⟨k.1.below hb k.1.lt, k.2⟩⟩
theorem StS.start {cs : Array Value} (h : Blk W bn 27 cs) (hc : cs.size = 8) : StS W bn W.drew := ⟨(Only.refl _ _).drew, cs, (Only.refl (fun _ => False) W).drew.blk h id, hc⟩
theorem StS.cell (h : StS W0 bn W) {b i : Nat} {v : Value} (hb : b ≠ bn) (hc : W0.cell? ⟨b, i, none⟩ = some v) : W.cell? ⟨b, i, none⟩ = some v := off_cell h.1 hb hc
/-- The store itself. -/
theorem StS.store {x : MtX} {cs : Array Value} (hk : ∀ x, K x → Off bn M x) (h : StS W0 bn W) (km : Blk W bn 27 cs) (hm : MtAt W W.heap.size M x) (k : K x) :
    StF bn M K (W.setRow bn (mtC M x)) ∧ StS W0 bn (W.setRow bn (mtC M x)) ∧ StR bn M K W (W.setRow bn (mtC M x)) := by
  have o1 := only_row (W := W) (g := bn) (cells := mtC M x)
  have kb := blk_row (cells := mtC M x) km
  have hf : StF bn M K (W.setRow bn (mtC M x)) := ⟨x, kb, (hm.off o1 (hk x k)).wide o1.size, k⟩
  exact ⟨hf, ⟨h.1.trans o1 (fun _ hi => .inl hi), _, kb, rfl⟩, o1, fun _ => hf⟩
end
/-- What a call hands back as a matter, beside what is known of where its lists lie. -/
def PostX (w : World) (E : Int) (M : Mt) (K : MtX → Prop) (e : Ending) (w' : World) : Prop := ∃ x, e = .returned (.tuple #[.agg (mtC M x), .int .i64 E]) ∧ MtAt w' w'.heap.size M x ∧ K x ∧ Below w.heap.size w w'
/-- A right is appended. -/
theorem AcS.push {w W W' : World} {Cg Cf Ct Cd Cp : Array Value} {m : Mt} {x : MtX} {bp H gz cz c : Nat} {A : Option Addr} {had : List Rt} {r : Rt} (h : AcS w W Cg Cf Ct Cd m x bp Cp (.slice A had.length c) had.length had)
    (o : W'.ownsRow w.heap.size 53 2 (.slice (some ⟨gz, 0, none⟩) (had.length + 1) cz) (had.length + 1) (rtCells had ++ [.string r.1, .int .i64 r.2])) (gr : W.grownBy W' (Value.slice A had.length c).ownBlock)
    (hz : (Value.slice A had.length c).ownBlock = some gz ∨ gz = H) (hH : W.heap.size ≤ H) :
    AcS w W' Cg Cf Ct Cd m x bp Cp (.slice (some ⟨gz, 0, none⟩) (had ++ [r]).length cz) (had ++ [r]).length (had ++ [r]) ∧ (∀ {b : Nat} {C : Array Value}, Blk W b 27 C → Blk W' b 27 C) ∧
      ∀ M x2, MtAt W W.heap.size M x2 → (∀ b, (Value.slice A had.length c).ownBlock = some b → Off b M x2) → MtAt W' W'.heap.size M x2 ∧ ∀ b, (Value.slice (some ⟨gz, 0, none⟩) (had ++ [r]).length cz).ownBlock = some b → Off b M x2 := by
  have hO := Only.of_grown gr
  have hoff : ∀ M x2, MtAt W W.heap.size M x2 → (∀ b, (Value.slice A had.length c).ownBlock = some b → Off b M x2) → ∀ b, (Value.slice (some ⟨gz, 0, none⟩) (had ++ [r]).length cz).ownBlock = some b → Off b M x2 := by
    intro M x2 hm hf b hb
    have hb : gz = b := by simpa [Value.ownBlock] using hb
    subst hb
    rcases hz with hz | hz
    · exact hf _ hz
    · exact hm.off_of (by omega)
  have e1 : (had ++ [r]).length = had.length + 1 := by simp
  have e2 : rtCells (had ++ [r]) = rtCells had ++ [.string r.1, .int .i64 r.2] := rtCells_app had [r]
  refine ⟨?_, fun k => hO.blk k (own_blk_ne h.oh k (by decide)), fun M x2 hm hf => ⟨?_, hoff M x2 hm hf⟩⟩
  · have ho := hoff m x h.ma h.oo
    rcases hb : (Value.slice A had.length c).ownBlock with _ | g
    · exact h.hadR (g := 0) (by rw [e1, e2]; exact o) (.inr (fun b h2 => by rw [hb] at h2; cases h2)) gr ho
    · exact h.hadR (g := g) (by rw [e1, e2]; exact o) (.inl hb) gr ho
  · rcases hb : (Value.slice A had.length c).ownBlock with _ | g
    · have ho : Below W.heap.size W W' := hO.below (Nat.le_refl _) fun i hi => by rw [hb] at hi; cases hi
      exact (hm.below ho).wide ho.size
    · have ho : Only (fun i => i = g) W W' := hO.mono fun i hi => by rw [hb] at hi; injection hi with hi; exact hi.symm
      exact (hm.off ho (hf g hb)).wide ho.size
end Go.Proofs.YtebdkmlganalaaaGreatDoor

namespace Go.Proofs.YtebdkmlganalaaaGreatDoor
open Go.RowKit Go.Shelf

set_option maxRecDepth 100000 in
set_option maxHeartbeats 2000000 in
/-- The reference's Equal, of two cases. -/
theorem requal_any (w : World) (B : Nat) (A A' : Option Addr) (l l' : List Int) (c c' : Nat) (h : IntsAt w B A l) (h' : IntsAt w B A' l') (hB : B ≤ w.heap.size) (hs : l.length ≤ 4611686018427387904) :
    Calls Tryz.prog 16 #[.slice A l.length c, .slice A' l'.length c'] w fun e w' => e = .returned (.bool (decide (l = l'))) ∧ Below w.heap.size w w' := by
  obtain ⟨q, hq⟩ : ∃ q, decide (l = l') = q := ⟨_, rfl⟩
  rw [hq]
  have HQ := Lib.hid hq
  have HH := Lib.hid h
  have HH' := Lib.hid h'
  clear hq h h'
  by_cases hl : l.length = l'.length
  case neg =>
    obtain rfl : false = q := by
      rw [← HQ.out]
      exact (decide_eq_false fun e => hl (by rw [e])).symm
    have d0 : ((l.length : Int) == (l'.length : Int)) = false := beq_eq_false_iff_ne.2 (by omega)
    go_enter Tryz.func16, Tryz.ntmps16
    go_wp2
    go_ret
    exact ⟨rfl, Below.refl _ _⟩
  obtain ⟨n, hn⟩ : ∃ n, l'.length = n := ⟨_, rfl⟩
  rw [hn]
  have hln : l.length = n := hl.trans hn
  have HN := Lib.hid hn
  have HL := Lib.hid hln
  rw [hln] at hs ⊢
  clear hn hln hl
  go_enter Tryz.func16, Tryz.ntmps16
  go_wp2_with fail
  go_loopw [5] (fun i wr => ∃ k : Nat, k ≤ n ∧ i = .int .i64 (k : Int) ∧ Hid (l.take k = l'.take k) ∧ Below w.heap.size w wr) (fun i _ => n - (intOf i).toNat)
  case atStart => exact ⟨0, Nat.zero_le _, rfl, Lib.hid rfl, Below.refl _ _⟩
  case round =>
    obtain ⟨k, hk, rfl, HT, hb⟩ := hrel
    by_cases hlt : k < n
    · obtain ⟨x, hx⟩ : ∃ x, l[k]? = some x := ⟨_, List.getElem?_eq_getElem (by have := HL.out; omega)⟩
      obtain ⟨y, hy⟩ : ∃ y, l'[k]? = some y := ⟨_, List.getElem?_eq_getElem (by have := HN.out; omega)⟩
      obtain ⟨g, off, hA, hg, p0⟩ := (HH.out.below (hb.mono hB)) k x hx
      obtain ⟨g', off', hA', hg', p0'⟩ := (HH'.out.below (hb.mono hB)) k y hy
      subst hA hA'
      have HX := Lib.hid hx
      have HY := Lib.hid hy
      clear hx hy
      have HBB := Lib.hid hb
      clear hb
      by_cases h1 : x = y
      · have HT2 : Hid (l.take (k + 1) = l'.take (k + 1)) := Lib.hid (by rw [take_snoc' HX.out, take_snoc' HY.out, HT.out, h1])
        subst h1
        go_wp2_with fail
        go_quiet (fail)
        go_wp2
        go_roundw
        case rel => exact ⟨k + 1, by omega, by go_num, HT2, below_dN HBB.out _⟩
        case measure => simp [intOf]; omega
      · have d0 : (x == y) = false := beq_eq_false_iff_ne.2 h1
        obtain rfl : false = q := by
          rw [← HQ.out]
          refine (decide_eq_false fun e => h1 ?_).symm
          have h2 := HX.out
          rw [e, HY.out] at h2
          exact (Option.some.inj h2).symm
        clear h1
        go_wp2_with fail
        go_quiet (fail)
        go_wp2
        go_ret
        exact ⟨rfl, below_dN HBB.out _⟩
    · obtain rfl : k = n := by omega
      obtain rfl : true = q := by
        rw [← HQ.out]
        refine (decide_eq_true ?_).symm
        have h1 := HT.out
        rw [List.take_of_length_le (by have := HL.out; omega), List.take_of_length_le (by have := HN.out; omega)] at h1
        exact h1
      go_wp2
      go_ret
      exact ⟨rfl, hb⟩
end Go.Proofs.YtebdkmlganalaaaGreatDoor
