/- What the claim's reach says of the records of an argument; a wrap that hands the reach on. -/
import Derived.Test.YtfjejfgdnjnflaaGreatDoorKp
import Derived.SizedLaws
namespace Go.Proofs.YtfjejfgdnjnflaaGreatDoor
open Go.RowKit Go.ChangeShapes Go.WideShapes Go.Deep

section
variable {H : Type} {P : Program}
theorem weightsAll_mem {e : TypeId} {n : Nat} : ∀ {l : List (DataW H)} {d : DataW H}, d ∈ l → n ∈ d.weights P e → n ∈ DataW.weightsAll P e l
  | x :: l, d, hd, hn => by
    simp only [DataW.weightsAll, List.mem_append]
    rcases List.mem_cons.1 hd with rfl | hd
    · exact .inl hn
    · exact .inr (weightsAll_mem hd hn)
theorem weights_elem {t e : TypeId} (ht : P.underlying t = some (.slice e)) {R len : Nat} {D : Nat → DataW H} {sp : List (DataW H)} (h : ∀ n ∈ (DataW.slice ((List.range len).map D) sp).weights P t, n ≤ R) {i : Nat} (hi : i < len) :
    ∀ n ∈ (D i).weights P e, n ≤ R := by
  intro n hn
  refine h n ?_
  simp only [DataW.weights, ht, List.mem_cons, List.mem_append]
  exact .inr (.inl (weightsAll_mem (List.mem_map.2 ⟨i, List.mem_range.2 hi, rfl⟩) hn))
theorem weights_field {e : TypeId} {fs : Array Field} (he : P.underlying e = some (.struct fs)) {R : Nat} {xs : List (DataW H)} (h : ∀ n ∈ (DataW.agg xs).weights P e, n ≤ R) {j : Nat} {f : Field} {d : DataW H} (hf : fs[j]? = some f) (hd : xs[j]? = some d) :
    ∀ n ∈ d.weights P f.type, n ≤ R := by
  intro n hn
  refine h n ?_
  simp only [DataW.weights, he]
  exact DataW.weights_mem_each (ts := fs.toList.map (·.type)) (j := j) (by simp [hf]) hd n hn
end

theorem strs_small {H : Type} {enc : TypeId × Value → H} {w : World} {base : Nat} {spare : Nat → Bool} {held : Bool} {fuel len cap R : Nat} {A : Option Addr} {x : DataW H × List MemPlace}
    (h : DataW.trod enc Tryz.prog w base spare held fuel 26 [.slice A len cap] = some x) (hw : ∀ n ∈ x.1.weights Tryz.prog 26, n ≤ R) {i g off : Nat} {s : ByteArray} (hi : i < len) (hA : A = some ⟨g, off, none⟩)
    (hc : w.cell? ⟨g, off + i, none⟩ = some (.string s)) : s.size ≤ R := by
  have ht := Tryz.underlying26
  have he := Tryz.underlying9
  have c1 : Tryz.prog.cellsOf 9 = 1 := by kernel_rfl
  rcases open_slice ht h with ⟨h0, _⟩ | ⟨a, len', cap', m, n, D, Pl, hcs, hb, hl, hm, hmm, rfl, hall⟩
  · injection h0 with h0
    injection h0 with _ h1 _
    omega
  · injection hcs with hcs _
    injection hcs with hA' hle hca
    subst hle hca
    obtain rfl : a = ⟨g, off, none⟩ := by rw [hA] at hA'; exact (Option.some.inj hA').symm
    obtain ⟨cs', hc', ht'⟩ := hall i (by rw [hmm]; split <;> omega)
    rw [c1, Nat.mul_one] at hc'
    obtain ⟨v, rfl, hx, _⟩ := DataW.trod_string he ht'
    obtain ⟨_, _, hat⟩ := World.cells?_some hc'
    have h1 := hat 0 (by omega)
    rw [add_of_add, Nat.add_zero] at h1
    have h2 : (⟨g, off, none⟩ : Addr).add i = ⟨g, off + i, none⟩ := spot_none (h1.trans rfl)
    rw [h2, hc] at h1
    obtain rfl : s = v := by simpa using h1
    have h3 := weights_elem ht hw hi s.size
    refine h3 ?_
    have : D i = .lit (.string s.data.toList) := (congrArg Prod.fst hx)
    rw [this]
    simp only [DataW.weights, List.mem_singleton]
    rfl
theorem ops_small {H : Type} {enc : TypeId × Value → H} {w : World} {base : Nat} {spare : Nat → Bool} {held : Bool} {cap R : Nat} {A : Option Addr} {l : List OpJ} {d : DataW H} {p : List MemPlace}
    (h : DataW.Trod enc Tryz.prog w base spare held 22 (.slice A l.length cap) d p) (hz : OpsAt w w.heap.size A l) (hw : ∀ n ∈ d.weights Tryz.prog 22, n ≤ R) : ∀ o ∈ l, ∀ r ∈ o.list, r.length ≤ R := by
  intro o ho r hr
  obtain ⟨i, hi⟩ := List.getElem?_of_mem ho
  obtain ⟨k, hk⟩ := List.getElem?_of_mem hr
  have hil : i < l.length := (List.getElem?_eq_some_iff.1 hi).1
  have hkl : k < o.list.length := (List.getElem?_eq_some_iff.1 hk).1
  obtain ⟨fuel, hf⟩ := h
  have ht := Tryz.underlying22
  obtain ⟨fs, he, hone, hfs, f1, hf1, hf1t⟩ : ∃ fs, Tryz.prog.underlying 36 = some (.struct fs) ∧ oneCellFields Tryz.prog fs = true ∧ fs.size = 5 ∧ ∃ f1, fs[1]? = some f1 ∧ f1.type = 26 := ⟨_, Tryz.underlying36, by kernel_rfl, rfl, _, rfl, rfl⟩
  have c5 : Tryz.prog.cellsOf 36 = 5 := by kernel_rfl
  rcases open_slice ht hf with ⟨h0, _⟩ | ⟨a, len', cap', m, n, D, Pl, hcs, hb, hl, hm, hmm, hx, hall⟩
  · injection h0 with h0
    injection h0 with _ h1 _
    omega
  · injection hcs with hcs _
    injection hcs with hA' hle hca
    obtain rfl : d = _ := congrArg Prod.fst hx
    obtain ⟨g, off, hA, hg, hcell⟩ := hz.cell i o hi
    obtain rfl : a = ⟨g, off, none⟩ := by rw [hA] at hA'; exact (Option.some.inj hA').symm
    obtain ⟨cs', hc, ht'⟩ := hall i (by rw [hmm]; split <;> omega)
    rw [c5] at hc
    obtain ⟨xs, n', _, hxe, hlen, hxl, hfld⟩ := DataW.trod_struct he ht'
    have hDi : D i = .agg (xs.map (·.1)) := congrArg Prod.fst hxe
    obtain ⟨_, hcl, hat⟩ := World.cells?_some hc
    have h1 := hat 1 (by omega)
    rw [Go.Deep.add_add] at h1
    rw [List.getElem?_eq_getElem (by omega)] at h1
    have h2 := spot_none h1
    rw [h2] at h1
    have h3 := hcell 1 _ rfl
    rw [show off + i * 5 + 1 = off + (i * 5 + 1) by omega] at h3
    simp only at h1
    rw [h3] at h1
    have h4 := hfld 1 f1 hf1
    obtain ⟨ho1, hk1⟩ := hone_of hone 1 f1 hf1
    rw [ho1, hk1, hf1t] at h4
    have h5 : (cs'.drop 1).take 1 = [cs'[1]'(by omega)] := by
      rw [List.drop_eq_getElem_cons (by omega)]
      rfl
    have h6 : xs[1]? = some (xs[1]'(by omega)) := List.getElem?_eq_getElem _
    rw [h6] at h4
    generalize xs[1]'(by omega) = y at h4 h6
    have h7 : DataW.trod enc Tryz.prog w base spare held n' 26 [.slice o.la o.list.length o.lc] = some y := by
      rw [← h4, Option.some.inj h1, ← h5]
    have hwi : ∀ n ∈ (DataW.agg (xs.map (·.1))).weights Tryz.prog 36, n ≤ R := by
      rw [← hDi]
      exact weights_elem ht hw (by omega)
    have hwy := weights_field he hwi (j := 1) (d := y.1) hf1 (by rw [List.getElem?_map, h6]; rfl)
    rw [hf1t] at hwy
    obtain ⟨g', off', hla, _, hcs'⟩ := (hz.strs o ho).1 k r hk
    have := strs_small h7 hwy hkl hla hcs'
    rwa [bs_size] at this

/-- The library's wrap with a condition on the world; the world's shape and the claim's reach handed on. -/
theorem returns_and_sized {H : Type} {enc : TypeId × Value → H} {a : Assume} {C : Checked} {os : Os} {f : FuncId} {fn : Func} {s : ChangeSpec} {conds : List PathCond} {apart fresh handsOn again : Bool} {X : World → Array Value → Prop}
    (hX : ∀ (w w' : World) (args : Array Value), w.heap = w'.heap → X w args → X w' args)
    (own : ownKnob C.prog.godebug = none) (started : os.Started) (noInit : C.prog.inits.idxOf? f = none) (hfn : C.prog.funcs[f]? = some fn)
    (witness : ∃ (w : World) (tape : Tape) (i : Input), w.os = os ∧ (w.forCall tape i).Shaped C.prog ∧ i.vars = [] ∧ Input.okWide C.prog (w.forCall tape i) .any w.heap.size f i ∧
      ((s.pre enc C.prog fn conds apart (w.forCall tape i).memory i.args ∧ X (w.forCall tape i).memory i.args) ∧ sizedMet enc C.prog fn (OpenSpec.ofChange s) apart (w.forCall tape i).memory i.args) ∧ a.holds C.prog (lone (Frame.enter C.prog f i.args .normal) [] (w.forCall tape i)))
    (contract : ∀ (W : World) (base : Nat) (args : Array Value) (ds gs : List (DataW H)) (before : List MemPlace),
      (∀ (j : Nat) t v, fn.params[j]? = some t → args[j]? = some v → Value.okWide C.prog W .any base t v) →
      DataW.Whole enc C.prog fn.params.toList s.vars apart W args.toList ds gs before → X W args → W.ShapedOpen C.prog →
      (DataW.weightsEach C.prog (fn.params.toList ++ (OpenSpec.ofChange s).bare.plain.varTypes C.prog) (ds ++ gs)).all (· ≤ reachBytes) = true →
      Calls C.prog f args W fun e W' => ∃ v, e = .returned v ∧ s.post enc C.prog fn apart fresh handsOn again W args v W') :
    ReturnsInHanded a C os f .any (fun w args => (s.pre enc C.prog fn conds apart w args ∧ X w args) ∧ sizedMet enc C.prog fn (OpenSpec.ofChange s) apart w args) (s.post enc C.prog fn apart fresh handsOn again) := by
  refine returnsInHanded_of_calls own started noInit witness ?_
  intro w tape i _ hsh _ hok hpre _
  obtain ⟨_, _, _, fn', hfn', _, _, _, _, hval⟩ := hok
  have e : fn' = fn := Option.some.inj (hfn'.symm.trans hfn)
  subst e
  obtain ⟨⟨⟨ds, gs, before, hw, _⟩, hx⟩, hz⟩ := hpre
  have hzw := hz.weights hw
  have hw' := DataW.Whole.of_heap (w' := w.forCall tape i) (by rfl) hw
  refine (contract (w.forCall tape i) w.heap.size i.args ds gs before hval hw' (hX _ _ _ (by rfl) hx) hsh hzw).mono fun e W' ⟨v, he, hp⟩ => ?_
  subst he
  exact ChangeSpec.post_blind hp
end Go.Proofs.YtfjejfgdnjnflaaGreatDoor
