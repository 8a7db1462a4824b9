/- Pages in a law: what the calls leave. -/
import Derived.Test.YtbihklfcdpgcgaaEx
import Derived.Test.YtbihklfcdpgcgaaFa
namespace Go.Proofs.Ytbihklfcdpgcgaa
open Go.RowKit

/-- A page of the law's: at p, its map at b, at most n clauses. -/
structure PP (w : World) (base p b n : Nat) (L : List Cl) : Prop where
  at_ : PgAt w p b L
  lo : base ≤ p
  lob : base ≤ b
  pg : Pg L
  len : L.length ≤ n
theorem pg_bound {L : List Cl} (h : Pg L) : ∀ c ∈ L, -4000000 ≤ c.id.1 ∧ c.id.1 ≤ 4000000 ∧ -4000000 ≤ c.id.2 ∧ c.id.2 ≤ 4000000 := fun c hc => by
  have := (properC_iff.1 (h.proper c hc)).1
  omega
section
variable {w w' : World} {base p b n : Nat} {L : List Cl}
theorem PP.below (h : PP w base p b n L) (k : Below w.heap.size w w') : PP w' base p b n L := ⟨h.at_.below k, h.lo, h.lob, h.pg, h.len⟩
theorem PP.only {F : Foot} (h : PP w base p b n L) (k : Only F w w') (h1 : ¬ F p) (h2 : ¬ F b) : PP w' base p b n L := ⟨h.at_.only k h1 h2, h.lo, h.lob, h.pg, h.len⟩
theorem PP.drewN (h : PP w base p b n L) (q : Nat) : PP (w.drewN q) base p b n L := h.below ⟨rfl, rfl, rfl, Nat.le_refl _, fun _ _ => rfl⟩
theorem PgAt.nep {q d : Nat} {M : List Cl} (h : PgAt w p b L) (k : PgAt w q d M) : p ≠ d := by
  obtain ⟨L', ⟨es, clock, k1, _⟩, _⟩ := k.map
  have := h.blk
  unfold Blk at this
  intro e
  rw [e, k1] at this
  cases this
/-- What a change of one page's map leaves of another page. -/
theorem PP.far {q d m : Nat} {M : List Cl} (h : PP w base p b n L) (k : PP w base q d m M) (hne : b ≠ d) (o : Only (fun i => i = d) w w') : PP w' base p b n L := h.only o (h.at_.nep k.at_) hne
theorem PP.farp {q d m : Nat} {M : List Cl} (h : PP w base p b n L) (k : PP w base q d m M) (hne : p ≠ q) (o : Only (fun i => i = q) w w') : PP w' base p b n L := h.only o hne fun e => k.at_.nep h.at_ e.symm
theorem OwnCls.below {v : Value} {l : List Cl} {B : Nat} (h : OwnCls w B v l) (k : Below w.heap.size w w') : OwnCls w' B v l := (Only.of_below k fun _ => False).owns h fun _ _ => id
theorem OwnCls.dN {v : Value} {l : List Cl} {B : Nat} (h : OwnCls w B v l) (q : Nat) : OwnCls (w.drewN q) B v l := h
theorem OwnCls.far {v : Value} {l : List Cl} {B : Nat} (h : OwnCls w B v l) (k : PgAt w p b L) (o : Only (fun i => i = b) w w') : OwnCls w' B v l := o.owns h fun g hg e => by
  obtain ⟨L', k1, _⟩ := k.map
  exact h.ne_map k1 (by rw [hg, e])
theorem OwnCls.farp {v : Value} {l : List Cl} {B : Nat} (h : OwnCls w B v l) (k : PgAt w p b L) (o : Only (fun i => i = p) w w') : OwnCls w' B v l := o.owns h fun g hg e => h.ne_blk k.blk (by decide) (by rw [hg, e])
theorem OwnCls.len {v : Value} {l : List Cl} {B : Nat} (h : OwnCls w B v l) : ∃ A cap, v = .slice A l.length cap := by
  obtain ⟨A, cap, h1, _⟩ := h.form
  exact ⟨A, cap, h1⟩
end

theorem pp_page (w : World) (base B : Nat) (A : Option Addr) (cap : Nat) (l : List Cl) (h : ClsAt w B A l) (hB : B ≤ w.heap.size) (hl : l.length ≤ 160) (hbase : base ≤ w.heap.size) :
    Calls Try.prog 25 #[.slice A l.length cap] w fun e w' => ∃ p b : Nat, e = .returned (.pointer (some ⟨p, 0, none⟩)) ∧ PP w' base p b 160 (pageS l) ∧ w.heap.size ≤ p ∧ w.heap.size ≤ b ∧ Below w.heap.size w w' :=
  (page_any w B A cap l h hB (by omega)).mono fun e w' ⟨p, b, h1, h2, h3, h4, h5⟩ => ⟨p, b, h1, ⟨h2, by omega, by omega, page_pg l, Nat.le_trans (page_len l) hl⟩, h3, h4, h5⟩
theorem pp_list (w : World) {base p b n : Nat} {L : List Cl} (h : PP w base p b n L) (hn : n ≤ 100000) :
    Calls Try.prog 17 #[.pointer (some ⟨p, 0, none⟩)] w fun e w' => ∃ v, e = .returned v ∧ OwnCls w' w.heap.size v (walkS L) ∧ Below w.heap.size w w' :=
  list_any w p b L h.at_ h.pg.tr (pg_bound h.pg) (by have := h.len; omega)
theorem pp_patches (w : World) {base p b n : Nat} {L : List Cl} (h : PP w base p b n L) (hn : n ≤ 100000) :
    Calls Try.prog 22 #[.pointer (some ⟨p, 0, none⟩)] w fun e w' => ∃ v, e = .returned v ∧ OwnPts w' w.heap.size v (live (walkS L)) ∧ Below w.heap.size w w' :=
  patches_any w p b L h.at_ h.pg.tr (pg_bound h.pg) (by have := h.len; omega)
theorem pp_put (w : World) {base p b n : Nat} {L : List Cl} (h : PP w base p b n L) (hn : n ≤ 100000) (c : Cl) :
    Calls Try.prog 14 #[.pointer (some ⟨p, 0, none⟩), .agg (clA c)] w fun e w' => e = .returned (.int .i64 (putS L c).2) ∧ PP w' base p b (n + 1) (putS L c).1 ∧ Only (fun i => i = b) w w' :=
  (put_any w p b L h.at_ h.pg.uq (by have := h.len; omega) c).mono fun e w' ⟨h1, h2, h3⟩ => ⟨h1, ⟨h2, h.lo, h.lob, h.pg.put c, Nat.le_trans (putS_len L c) (Nat.succ_le_succ h.len)⟩, h3⟩
theorem dropS_len (L : List Cl) (t : St2) : (dropS L t).1.length = L.length := by
  unfold dropS setC
  split <;> simp
theorem pp_drop (w : World) {base p b n : Nat} {L : List Cl} (h : PP w base p b n L) (t : St2) :
    Calls Try.prog 12 #[.pointer (some ⟨p, 0, none⟩), .agg (stA t)] w fun e w' => e = .returned (.int .i64 (dropS L t).2) ∧ PP w' base p b n (dropS L t).1 ∧ Only (fun i => i = b) w w' :=
  (drop_any w p b L h.at_ h.pg.uq t).mono fun e w' ⟨h1, h2, h3⟩ => ⟨h1, ⟨h2, h.lo, h.lob, h.pg.drop t, by rw [dropS_len]; exact h.len⟩, h3⟩
theorem joinS_len (L M : List Cl) : (joinS L M).1.length ≤ L.length + M.length := by
  unfold joinS
  split
  · simp
  · rename_i A hA
    have := addAll_len hA
    split
    · simp
    · exact this
theorem pp_join (w : World) {base p b n q d m : Nat} {L M : List Cl} (h : PP w base p b n L) (h' : PP w base q d m M) (hn : n ≤ 100000) (hm : m ≤ 100000) :
    Calls Try.prog 19 #[.pointer (some ⟨p, 0, none⟩), .pointer (some ⟨q, 0, none⟩)] w fun e w' => e = .returned (.int .i64 (joinS L M).2) ∧ (∃ b', PP w' base p b' (n + m) (joinS L M).1 ∧ (b' = b ∨ w.heap.size ≤ b')) ∧ Only (fun i => i = p) w w' :=
  (join_any w p b q d L M h.at_ h'.at_ h.pg.uq h'.pg.uq (by have := h.len; omega) (by have := h'.len; omega)).mono fun e w' ⟨h1, ⟨b', h2, h3⟩, h4⟩ =>
    ⟨h1, ⟨b', ⟨h2, h.lo, by rcases h3 with rfl | h3; exact h.lob; have := h.at_.blk.lt; have := h.lo; omega, h.pg.join h'.pg, Nat.le_trans (joinS_len L M) (Nat.add_le_add h.len h'.len)⟩, h3⟩, h4⟩
theorem own_same (w : World) {B1 B2 : Nat} {v1 v2 : Value} {l m : List Cl} (h1 : OwnCls w B1 v1 l) (h2 : OwnCls w B2 v2 m) (hl : l.length ≤ 1000000) (hm : m.length ≤ 1000000) :
    Calls Try.prog 16 #[v1, v2] w fun e w' => e = .returned (.bool (decide (l = m))) ∧ ∃ n, w' = w.drewN n := by
  obtain ⟨A1, c1, rfl, k1⟩ := h1.form
  obtain ⟨A2, c2, rfl, k2⟩ := h2.form
  exact rSame_any w _ _ A1 A2 c1 c2 l m k1 k2 hl hm
theorem own_patches (w : World) {B1 B2 : Nat} {v1 v2 : Value} {l m : List Pt} (h1 : OwnPts w B1 v1 l) (h2 : OwnPts w B2 v2 m) (hl : l.length ≤ 1000000) (hm : m.length ≤ 1000000) :
    Calls Try.prog 21 #[v1, v2] w fun e w' => e = .returned (.bool (decide (l = m))) ∧ ∃ n, w' = w.drewN n := by
  obtain ⟨A1, c1, rfl, k1⟩ := h1.form
  obtain ⟨A2, c2, rfl, k2⟩ := h2.form
  exact rPatches_any w _ _ A1 A2 c1 c2 l m k1 k2 hl hm
theorem own_find (w : World) {B : Nat} {v : Value} {l : List Cl} (h : OwnCls w B v l) (hl : l.length ≤ 1000000) (t : St2) :
    Calls Try.prog 27 #[v, .agg (stA t)] w fun e w' => e = .returned (.int .i64 (findS l t)) ∧ Below w.heap.size w w' := by
  obtain ⟨A, c, rfl, k⟩ := h.form
  exact rFind_any w _ A c l k (Nat.le_refl _) hl t
theorem own_open (w : World) {B : Nat} {v : Value} {l : List Cl} (h : OwnCls w B v l) (hl : l.length ≤ 1000000) :
    Calls Try.prog 26 #[v] w fun e w' => e = .returned (.int .i64 (openN l : Nat)) ∧ w' = w := by
  obtain ⟨A, c, rfl, k⟩ := h.form
  exact rOpen_any w _ A c l k hl
theorem own_page (w : World) {base B : Nat} {v : Value} {l : List Cl} (h : OwnCls w B v l) (hl : l.length ≤ 160) (hbase : base ≤ w.heap.size) :
    Calls Try.prog 25 #[v] w fun e w' => ∃ p b : Nat, e = .returned (.pointer (some ⟨p, 0, none⟩)) ∧ PP w' base p b 160 (pageS l) ∧ w.heap.size ≤ p ∧ w.heap.size ≤ b ∧ Below w.heap.size w w' := by
  obtain ⟨A, c, rfl, k⟩ := h.form
  exact pp_page w base _ A c l k (Nat.le_refl _) hl hbase
theorem walk_len {L : List Cl} (h : Pg L) : (walkS L).length = L.length := (walk_perm h.tr).length_eq
end Go.Proofs.Ytbihklfcdpgcgaa
