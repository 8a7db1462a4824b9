/- One contract a method of the reference's disk; want; a disk beside a disk of the reference. -/
import Derived.Test.YtahkahmkoibmhaaSf
import Derived.Test.YtahkahmkoibmhaaRa
namespace Go.Proofs.Ytahkahmkoibmhaa
open Go.RowKit

theorem RefAt.keep {w w' : World} {m : Nat} {d : Dk} {F G : Foot} (h : RefAt w m d F) (hO : Only G w w') (hd : ∀ i, F i → ¬ G i) : RefAt w' m d F := by
  obtain ⟨g1, g2, c1, c2, qv, b, x, y, z, h⟩ := h
  exact (h.keep hO hd).ref
theorem RefAt.below {w w' : World} {m : Nat} {d : Dk} {F : Foot} (h : RefAt w m d F) (hb : Below w.heap.size w w') : RefAt w' m d F := h.keep (Only.of_below hb (fun _ => False)) (by simp)
theorem RefAt.lt {w : World} {m : Nat} {d : Dk} {F : Foot} (h : RefAt w m d F) : ∀ i, F i → i < w.heap.size := by
  obtain ⟨g1, g2, c1, c2, qv, b, x, y, z, h⟩ := h
  exact h.fl
theorem RefAt.ok {w : World} {m : Nat} {d : Dk} {F : Foot} (h : RefAt w m d F) : d.Ok := by
  obtain ⟨g1, g2, c1, c2, qv, b, x, y, z, h⟩ := h
  exact h.ok
theorem RStp.same {w w' : World} {a : Nat} {d : Dk} {F : Foot} (h : RefAt w a d F) (hb : Below w.heap.size w w') : RStp w w' a d F := ⟨F, Only.of_below hb _, fun _ hk => .inl hk, h.below hb⟩

section
variable {w : World} {m : Nat} {d : Dk} {F : Foot}
set_option maxHeartbeats 800000 in
theorem rfail_off (h : RefAt w m d F) (ho : d.off = true) (x y : Int) : Calls Try.prog 34 #[.pointer (some ⟨m, 0, none⟩), .int .i64 x, .int .i64 y] w fun e w' => e = .returned (.tuple #[]) ∧ w = w' := by
  obtain ⟨g1, g2, c1, c2, qv, b, x, y, z, h⟩ := h
  obtain ⟨c0, f0, hlt⟩ := h.main.all
  simp only [ho] at c0
  clear ho
  go_enter Try.func34, Try.ntmps34
  go_wp2
  refine bodyPost_ret (results_none rfl _ _ _) rfl ?_
  exact ⟨rfl, rfl⟩
theorem rfailA (h : RefAt w m d F) (x y : Int) : Calls Try.prog 34 #[.pointer (some ⟨m, 0, none⟩), .int .i64 x, .int .i64 y] w fun e w' => e = .returned (.tuple #[]) ∧ RStp w w' m (d.fail x y) F := by
  cases ho : d.off with
  | true =>
    have e : d.fail x y = d := by unfold Dk.fail; rw [ho]; rfl
    rw [e]
    exact (rfail_off h ho x y).mono fun _ _ ⟨h1, h2⟩ => ⟨h1, RStp.same h (by rw [← h2]; exact Below.refl _ _)⟩
  | false =>
    obtain ⟨g1, g2, c1, c2, qv, b, p, q, r, h⟩ := h
    exact (rfail_on h ho x y).mono fun _ _ ⟨h1, h2, h3⟩ => ⟨h1, RStp.of h2 h3.ref⟩
theorem rwriteA (h : RefAt w m d F) (hl : d.q.length < 4096) (s : Int) (t : ByteArray) : Calls Try.prog 32 #[.pointer (some ⟨m, 0, none⟩), .int .i64 s, .string t] w fun e w' => e = .returned (.int .i64 (d.write s t).2) ∧ RStp w w' m (d.write s t).1 F := by
  obtain ⟨g1, g2, c1, c2, qv, b, p, q, r, h⟩ := h
  exact rwrite_any h hl s t
theorem rreadA (h : RefAt w m d F) (s : Int) : Calls Try.prog 18 #[.pointer (some ⟨m, 0, none⟩), .int .i64 s] w fun e w' => e = .returned (.tuple #[.string (d.read s).1, .int .i64 (d.read s).2]) ∧ Below w.heap.size w w' := by
  obtain ⟨g1, g2, c1, c2, qv, b, p, q, r, h⟩ := h
  exact (rread_any h s).mono fun _ _ ⟨h1, h2⟩ => ⟨h1, by rw [← h2]; exact Below.refl _ _⟩
theorem rsyncA (h : RefAt w m d F) : Calls Try.prog 33 #[.pointer (some ⟨m, 0, none⟩)] w fun e w' => e = .returned (.int .i64 d.sync.2) ∧ RStp w w' m d.sync.1 F := by
  obtain ⟨g1, g2, c1, c2, qv, b, p, q, r, h⟩ := h
  exact (rsync_any h).mono fun _ _ ⟨h1, h2, h3⟩ => ⟨h1, RStp.of h2 h3⟩
theorem rstartA (h : RefAt w m d F) : Calls Try.prog 35 #[.pointer (some ⟨m, 0, none⟩)] w fun e w' => e = .returned (.tuple #[]) ∧ RStp w w' m d.start F := by
  obtain ⟨g1, g2, c1, c2, qv, b, p, q, r, h⟩ := h
  exact (rstart_any h).mono fun _ _ ⟨h1, h2, h3⟩ => ⟨h1, RStp.of h2 h3⟩
theorem rarmA (h : RefAt w m d F) (x y z : Int) (hx : x ≤ 9223372036854775807) : Calls Try.prog 36 #[.pointer (some ⟨m, 0, none⟩), .int .i64 x, .int .i64 y, .int .i64 z] w fun e w' => e = .returned (.tuple #[]) ∧ RStp w w' m (d.doArm x y z) F := by
  obtain ⟨g1, g2, c1, c2, qv, b, p, q, r, h⟩ := h
  exact (rarm_any h x y z hx).mono fun _ _ ⟨h1, h2, h3⟩ => ⟨h1, RStp.of h2 h3⟩
theorem rrotA (h : RefAt w m d F) (x y z : Int) : Calls Try.prog 37 #[.pointer (some ⟨m, 0, none⟩), .int .i64 x, .int .i64 y, .int .i64 z] w fun e w' => e = .returned (.tuple #[]) ∧ RStp w w' m (d.rot x y z) F := by
  obtain ⟨g1, g2, c1, c2, qv, b, p, q, r, h⟩ := h
  exact (rrot_any h x y z).mono fun _ _ ⟨h1, h2, h3⟩ => ⟨h1, RStp.of h2 h3⟩
theorem rstaleA (h : RefAt w m d F) (x : Int) : Calls Try.prog 38 #[.pointer (some ⟨m, 0, none⟩), .int .i64 x] w fun e w' => e = .returned (.tuple #[]) ∧ RStp w w' m (d.stale x) F := by
  obtain ⟨g1, g2, c1, c2, qv, b, p, q, r, h⟩ := h
  exact (rstale_any h x).mono fun _ _ ⟨h1, h2, h3⟩ => ⟨h1, RStp.of h2 h3⟩
end

theorem RStp.box {w w' : World} {a : Nat} {d' : Dk} {F : Foot} {o : Obj} (h : RStp (w.alloc o) w' a d' F) : RStp w w' a d' F := by
  obtain ⟨F', hO, hF, hD⟩ := h
  have hO' : Only F' w w' := ((Only.refl F' w).alloc o).trans hO (fun i hi => .inl hi)
  exact ⟨F', hO', fun k hk => by rcases hF k hk with h1 | h1; exact .inl h1; right; simp at h1; omega, hD⟩
theorem RStp.after {w w1 w' : World} {a : Nat} {d' : Dk} {F : Foot} (hb : Below w.heap.size w w1) (h : RStp w1 w' a d' F) : RStp w w' a d' F := by
  obtain ⟨F', hO, hF, hD⟩ := h
  have hs := hb.size
  exact ⟨F', (Only.of_below hb F').trans hO (fun i hi => .inl hi), fun k hk => by rcases hF k hk with h1 | h1; exact .inl h1; right; omega, hD⟩

section
variable {w : World} {a : Nat} {d : Dk} {F : Foot}

set_option maxHeartbeats 800000 in
theorem rdo_write (h : RefAt w a d F) (hl : d.q.length < 4096) (x : Ac) (ht : x.text.size ≤ 100) (hk : x.kind = 0) :
    Calls Try.prog 16 #[.pointer (some ⟨a, 0, none⟩), x.val] w fun e w' => e = .returned (.tuple #[.string ⟨#[]⟩, .int .i64 (d.write x.sector x.txt).2]) ∧ RStp w w' a (d.write x.sector x.txt).1 F := by
  obtain ⟨k, s, b, t, o, af⟩ := x
  simp only at hk
  subst hk
  simp only [Ac.val] at *
  have hlt : ∀ i, F i → i < w.heap.size := h.lt
  go_enter Try.func16, Try.ntmps16
  go_wp2
  have hbx : Blk (w.alloc (.cells #[.int .i64 0, .int .i64 s, .int .i64 b, .string t, .bool o, .int .i64 af] 34)) w.heap.size 34 #[.int .i64 0, .int .i64 s, .int .i64 b, .string t, .bool o, .int .i64 af] := Blk.new w _ _
  refine wp_region_hold (fun W => Blk W w.heap.size 34 #[.int .i64 0, .int .i64 s, .int .i64 b, .string t, .bool o, .int .i64 af]) [0, 1, 2, 3] [4] [5, 6, 7] (by kernel_rfl) (by kernel_rfl) (fun _ d _ _ _ h => by cases d <;> exact h) hbx.drew ?_
  simp only [pick, List.drop_succ_cons, List.drop_zero, List.head?_cons, Option.toList_some, List.cons_append, List.nil_append, List.append_nil]
  repeat (refine wpHeld_step ?_ rfl ?_ ?_; rotate_left; · (intro W hW; obtain ⟨y1, y2, y3⟩ := Blk.all hW; go_simp; with_reducible rfl))
  refine wpHeld_nil ?_
  simp only [wpEarly]
  go_wp2_with fail
  refine (text_any _ ⟨0, s, b, t, o, af⟩ ht).mono ?_
  rintro e w2 ⟨rfl, hb⟩
  go_wp2_with fail
  refine ⟨hbx.drew.below hb (by simp), ?_⟩
  have hb' : Below w.heap.size w w2 := ((Below.refl _ w).alloc (Nat.le_refl _) _).drew.trans (hb.mono (by simp))
  have h2 := h.below hb'
  clear hb hbx
  go_wp2_with fail
  refine (rwriteA h2 hl s _).mono ?_
  rintro e w3 ⟨rfl, hs⟩
  go_wp2
  go_ret2
  exact ⟨rfl, hs.after hb'⟩

set_option maxHeartbeats 400000 in
theorem rdo_read (h : RefAt w a d F) (x : Ac) (hk : x.kind = 1) :
    Calls Try.prog 16 #[.pointer (some ⟨a, 0, none⟩), x.val] w fun e w' => e = .returned (.tuple #[.string (d.read x.sector).1, .int .i64 (d.read x.sector).2]) ∧ RStp w w' a d F := by
  obtain ⟨k, s, b, t, o, af⟩ := x
  simp only at hk
  subst hk
  simp only [Ac.val] at *
  have h' := h.below ((Below.refl _ w).alloc (Nat.le_refl _) (.cells #[.int .i64 1, .int .i64 s, .int .i64 b, .string t, .bool o, .int .i64 af] 34))
  go_enter Try.func16, Try.ntmps16
  go_wp2_with fail
  refine (rreadA h' s).mono ?_
  rintro e w3 ⟨rfl, hb⟩
  go_wp2
  go_ret2
  exact ⟨rfl, RStp.same h (below_alloc hb)⟩

set_option maxHeartbeats 400000 in
theorem rdo_sync (h : RefAt w a d F) (x : Ac) (hk : x.kind = 2) :
    Calls Try.prog 16 #[.pointer (some ⟨a, 0, none⟩), x.val] w fun e w' => e = .returned (.tuple #[.string ⟨#[]⟩, .int .i64 d.sync.2]) ∧ RStp w w' a d.sync.1 F := by
  obtain ⟨k, s, b, t, o, af⟩ := x
  simp only at hk
  subst hk
  simp only [Ac.val] at *
  have h' := h.below ((Below.refl _ w).alloc (Nat.le_refl _) (.cells #[.int .i64 2, .int .i64 s, .int .i64 b, .string t, .bool o, .int .i64 af] 34))
  go_enter Try.func16, Try.ntmps16
  go_wp2_with fail
  refine (rsyncA h').mono ?_
  rintro e w3 ⟨rfl, hs⟩
  go_wp2
  go_ret2
  exact ⟨rfl, hs.box⟩

set_option maxHeartbeats 400000 in
theorem rdo_fail (h : RefAt w a d F) (x : Ac) (hk : x.kind = 3) :
    Calls Try.prog 16 #[.pointer (some ⟨a, 0, none⟩), x.val] w fun e w' => e = .returned (.tuple #[.string ⟨#[]⟩, .int .i64 0]) ∧ RStp w w' a (d.fail x.sector x.bytes) F := by
  obtain ⟨k, s, b, t, o, af⟩ := x
  simp only at hk
  subst hk
  simp only [Ac.val] at *
  have h' := h.below ((Below.refl _ w).alloc (Nat.le_refl _) (.cells #[.int .i64 3, .int .i64 s, .int .i64 b, .string t, .bool o, .int .i64 af] 34))
  go_enter Try.func16, Try.ntmps16
  go_wp2_with fail
  refine (rfailA h' s b).mono ?_
  rintro e w3 ⟨rfl, hs⟩
  go_wp2
  go_ret2
  exact ⟨rfl, hs.box⟩

set_option maxHeartbeats 400000 in
theorem rdo_start (h : RefAt w a d F) (x : Ac) (hk : x.kind = 4) :
    Calls Try.prog 16 #[.pointer (some ⟨a, 0, none⟩), x.val] w fun e w' => e = .returned (.tuple #[.string ⟨#[]⟩, .int .i64 0]) ∧ RStp w w' a d.start F := by
  obtain ⟨k, s, b, t, o, af⟩ := x
  simp only at hk
  subst hk
  simp only [Ac.val] at *
  have h' := h.below ((Below.refl _ w).alloc (Nat.le_refl _) (.cells #[.int .i64 4, .int .i64 s, .int .i64 b, .string t, .bool o, .int .i64 af] 34))
  go_enter Try.func16, Try.ntmps16
  go_wp2_with fail
  refine (rstartA h').mono ?_
  rintro e w3 ⟨rfl, hs⟩
  go_wp2
  go_ret2
  exact ⟨rfl, hs.box⟩

set_option maxHeartbeats 400000 in
theorem rdo_arm (h : RefAt w a d F) (x : Ac) (hk : x.kind = 5) (ha : x.after ≤ 9223372036854775807) :
    Calls Try.prog 16 #[.pointer (some ⟨a, 0, none⟩), x.val] w fun e w' => e = .returned (.tuple #[.string ⟨#[]⟩, .int .i64 0]) ∧ RStp w w' a (d.doArm x.after x.sector x.bytes) F := by
  obtain ⟨k, s, b, t, o, af⟩ := x
  simp only at hk
  subst hk
  simp only [Ac.val] at *
  have h' := h.below ((Below.refl _ w).alloc (Nat.le_refl _) (.cells #[.int .i64 5, .int .i64 s, .int .i64 b, .string t, .bool o, .int .i64 af] 34))
  go_enter Try.func16, Try.ntmps16
  go_wp2_with fail
  refine (rarmA h' af s b ha).mono ?_
  rintro e w3 ⟨rfl, hs⟩
  go_wp2
  go_ret2
  exact ⟨rfl, hs.box⟩

set_option maxHeartbeats 400000 in
theorem rdo_rot (h : RefAt w a d F) (x : Ac) (hk : x.kind = 6) :
    Calls Try.prog 16 #[.pointer (some ⟨a, 0, none⟩), x.val] w fun e w' => e = .returned (.tuple #[.string ⟨#[]⟩, .int .i64 0]) ∧ RStp w w' a (d.rot x.sector x.bytes x.after) F := by
  obtain ⟨k, s, b, t, o, af⟩ := x
  simp only at hk
  subst hk
  simp only [Ac.val] at *
  have h' := h.below ((Below.refl _ w).alloc (Nat.le_refl _) (.cells #[.int .i64 6, .int .i64 s, .int .i64 b, .string t, .bool o, .int .i64 af] 34))
  go_enter Try.func16, Try.ntmps16
  go_wp2_with fail
  refine (rrotA h' s b af).mono ?_
  rintro e w3 ⟨rfl, hs⟩
  go_wp2
  go_ret2
  exact ⟨rfl, hs.box⟩

set_option maxHeartbeats 400000 in
theorem rdo_stale (h : RefAt w a d F) (x : Ac) (hk : x.kind = 7) :
    Calls Try.prog 16 #[.pointer (some ⟨a, 0, none⟩), x.val] w fun e w' => e = .returned (.tuple #[.string ⟨#[]⟩, .int .i64 0]) ∧ RStp w w' a (d.stale x.sector) F := by
  obtain ⟨k, s, b, t, o, af⟩ := x
  simp only at hk
  subst hk
  simp only [Ac.val] at *
  have h' := h.below ((Below.refl _ w).alloc (Nat.le_refl _) (.cells #[.int .i64 7, .int .i64 s, .int .i64 b, .string t, .bool o, .int .i64 af] 34))
  go_enter Try.func16, Try.ntmps16
  go_wp2_with fail
  refine (rstaleA h' s).mono ?_
  rintro e w3 ⟨rfl, hs⟩
  go_wp2
  go_ret2
  exact ⟨rfl, hs.box⟩

set_option maxHeartbeats 400000 in
theorem rdo_none (h : RefAt w a d F) (x : Ac) (hk : x.kind < 0 ∨ 7 < x.kind) :
    Calls Try.prog 16 #[.pointer (some ⟨a, 0, none⟩), x.val] w fun e w' => e = .returned (.tuple #[.string ⟨#[]⟩, .int .i64 0]) ∧ RStp w w' a d F := by
  obtain ⟨k, s, b, t, o, af⟩ := x
  simp only [Ac.val] at *
  rcases hk with hk | hk
  all_goals
    go_enter Try.func16, Try.ntmps16
    go_wp2
    go_ret2
    exact ⟨rfl, RStp.same h ((Below.refl _ _).alloc (Nat.le_refl _) _)⟩

theorem rdo_any (h : RefAt w a d F) (hl : d.q.length < 4096) (x : Ac) (ht : x.text.size ≤ 100) (ha : x.after ≤ 9223372036854775807) :
    Calls Try.prog 16 #[.pointer (some ⟨a, 0, none⟩), x.val] w fun e w' => e = .returned (.tuple #[.string (d.act x).2.1, .int .i64 (d.act x).2.2]) ∧ RStp w w' a (d.act x).1 F := by
  unfold Dk.act
  by_cases h0 : x.kind = 0
  · simp only [h0, if_true]; exact rdo_write h hl x ht h0
  by_cases h1 : x.kind = 1
  · simp only [h1]; exact rdo_read h x h1
  by_cases h2 : x.kind = 2
  · simp only [h2]; exact rdo_sync h x h2
  by_cases h3 : x.kind = 3
  · simp only [h3]; exact rdo_fail h x h3
  by_cases h4 : x.kind = 4
  · simp only [h4]; exact rdo_start h x h4
  by_cases h5 : x.kind = 5
  · simp only [h5]; exact rdo_arm h x h5 ha
  by_cases h6 : x.kind = 6
  · simp only [h6]; exact rdo_rot h x h6
  by_cases h7 : x.kind = 7
  · simp only [h7]; exact rdo_stale h x h7
  simp only [h0, h1, h2, h3, h4, h5, h6, h7, if_false]
  exact rdo_none h x (by omega)
end

/-- A disk beside a disk of the reference. -/
structure Mix (w0 w : World) (a : Nat) (d : Dk) (b : Nat) (e : Dk) : Prop where
  below : Below w0.heap.size w0 w
  disks : ∃ F G, DiskAt w a d F ∧ RefAt w b e G ∧ (∀ i, F i → w0.heap.size ≤ i) ∧ (∀ i, G i → w0.heap.size ≤ i) ∧ (∀ i, F i → ¬ G i)
theorem RefAt.only {w w' : World} {m : Nat} {d : Dk} {F G : Foot} (h : RefAt w m d F) (hO : Only G w w') (hd : ∀ i, F i → ¬ G i) : RefAt w' m d F := h.keep hO hd
section
variable {w0 w w' : World} {a b : Nat} {d d' e e' : Dk} {F G H : Foot}
theorem Mix.same (h : Mix w0 w a d b e) (hb : Below w.heap.size w w') : Mix w0 w' a d b e := by
  obtain ⟨F, G, h1, h2, h3, h4, h5⟩ := h.disks
  exact ⟨h.below.trans (hb.mono h.below.size), F, G, h1.below hb, h2.below hb, h3, h4, h5⟩
theorem Mix.left {P : Program} {f : FuncId} {args : Array Value} {v : Value} (h : Mix w0 w a d b e) (hc : ∀ F, DiskAt w a d F → Calls P f args w fun e w' => e = .returned v ∧ Stp w w' a d' F) :
    Calls P f args w fun r w' => r = .returned v ∧ Mix w0 w' a d' b e := by
  obtain ⟨F, G, h1, h2, h3, h4, h5⟩ := h.disks
  refine (hc F h1).mono ?_
  rintro r w' ⟨he, F', hO, hF, hD⟩
  refine ⟨he, ?_⟩
  have hge : ∀ i, F' i → w0.heap.size ≤ i := fun i hi => by
    rcases hF i hi with h4 | h4
    · exact h3 i h4
    · have := h.below.size; omega
  have hap : ∀ i, F' i → ¬ G i := fun i hi hg => by
    rcases hF i hi with h6 | h6
    · exact h5 i h6 hg
    · have := h2.lt i hg; omega
  exact ⟨h.below.trans (hO.below h.below.size hge), F', G, hD, h2.only hO (fun i hg hf => hap i hf hg), hge, h4, hap⟩
theorem Mix.right {P : Program} {f : FuncId} {args : Array Value} {v : Value} (h : Mix w0 w a d b e) (hc : ∀ F, RefAt w b e F → Calls P f args w fun r w' => r = .returned v ∧ RStp w w' b e' F) :
    Calls P f args w fun r w' => r = .returned v ∧ Mix w0 w' a d b e' := by
  obtain ⟨F, G, h1, h2, h3, h4, h5⟩ := h.disks
  refine (hc G h2).mono ?_
  rintro r w' ⟨he, G', hO, hG, hD⟩
  refine ⟨he, ?_⟩
  have hge : ∀ i, G' i → w0.heap.size ≤ i := fun i hi => by
    rcases hG i hi with h6 | h6
    · exact h4 i h6
    · have := h.below.size; omega
  have hap : ∀ i, F i → ¬ G' i := fun i hf hg => by
    rcases hG i hg with h6 | h6
    · exact h5 i hf h6
    · have := h1.lt i hf; omega
  exact ⟨h.below.trans (hO.below h.below.size hge), F, G', h1.only hO (fun i hf hg => hap i hf hg), hD, h3, hge, hap⟩
theorem Mix.lookl {P : Program} {f : FuncId} {args : Array Value} {R : Ending → World → Prop} (h : Mix w0 w a d b e) (hc : ∀ F, DiskAt w a d F → Calls P f args w R) : Calls P f args w R := by
  obtain ⟨F, G, h1, _⟩ := h.disks
  exact hc F h1
theorem Mix.lookr {P : Program} {f : FuncId} {args : Array Value} {R : Ending → World → Prop} (h : Mix w0 w a d b e) (hc : ∀ F, RefAt w b e F → Calls P f args w R) : Calls P f args w R := by
  obtain ⟨F, G, _, h1, _⟩ := h.disks
  exact hc G h1
theorem Mix.of_new {n : Nat} (h : Live w0 w a d G) (hb : Below w.heap.size w w') (hD : RefAt w' b (Dk.new n) (fun i => w.heap.size ≤ i ∧ i < w'.heap.size)) : Mix w0 w' a d b (Dk.new n) := by
  obtain ⟨F, h1, h2, h3⟩ := h.disk
  have := h.below.size
  exact ⟨h.below.trans (hb.mono h.below.size), F, _, h1.below hb, hD, h2, fun i hi => by omega, fun i hf hg => by have := h1.lt i hf; omega⟩
end
end Go.Proofs.Ytahkahmkoibmhaa
