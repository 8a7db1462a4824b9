/- do of the statements about the disk: one operation. -/
import Derived.Test.YtahkahmkoibmhaaLb
namespace Go.Proofs.Ytahkahmkoibmhaa
open Go.RowKit

/-- What one operation does, and what it returns. -/
def Dk.act (d : Dk) (a : Ac) : Dk × ByteArray × Int :=
  if a.kind = 0 then ((d.write a.sector a.txt).1, ByteArray.empty, (d.write a.sector a.txt).2) else
  if a.kind = 1 then (d, (d.read a.sector).1, (d.read a.sector).2) else
  if a.kind = 2 then (d.sync.1, ByteArray.empty, d.sync.2) else
  if a.kind = 3 then (d.fail a.sector a.bytes, ByteArray.empty, 0) else
  if a.kind = 4 then (d.start, ByteArray.empty, 0) else
  if a.kind = 5 then (d.doArm a.after a.sector a.bytes, ByteArray.empty, 0) else
  if a.kind = 6 then (d.rot a.sector a.bytes a.after, ByteArray.empty, 0) else
  if a.kind = 7 then (d.stale a.sector, ByteArray.empty, 0) else (d, ByteArray.empty, 0)

theorem Stp.box {w w' : World} {a : Nat} {d' : Dk} {F : Foot} {o : Obj} (h : Stp (w.alloc o) w' a d' F) : Stp w w' a d' F := by
  obtain ⟨F', hO, hF, hD⟩ := h
  have hO' : Only F' w w' := ((Only.refl F' w).alloc o).trans hO (fun i hi => .inl hi)
  exact ⟨F', hO', fun k hk => by rcases hF k hk with h1 | h1; exact .inl h1; right; simp at h1; omega, hD⟩
theorem Stp.after {w w1 w' : World} {a : Nat} {d' : Dk} {F : Foot} (hb : Below w.heap.size w w1) (h : Stp w1 w' a d' F) : Stp w w' a d' F := by
  obtain ⟨F', hO, hF, hD⟩ := h
  have hs := hb.size
  exact ⟨F', (Only.of_below hb F').trans hO (fun i hi => .inl hi), fun k hk => by rcases hF k hk with h1 | h1; exact .inl h1; right; omega, hD⟩

section
variable {w : World} {a : Nat} {d : Dk} {F : Foot}

set_option maxHeartbeats 800000 in
theorem do_write (h : DiskAt w a d F) (hl : d.q.length < 4096) (x : Ac) (ht : x.text.size ≤ 100) (hk : x.kind = 0) :
    Calls Try.prog 15 #[.pointer (some ⟨a, 0, none⟩), x.val] w fun e w' => e = .returned (.tuple #[.string ⟨#[]⟩, .int .i64 (d.write x.sector x.txt).2]) ∧ Stp w w' a (d.write x.sector x.txt).1 F := by
  obtain ⟨k, s, b, t, o, af⟩ := x
  simp only at hk
  subst hk
  simp only [Ac.val] at *
  have hlt : ∀ i, F i → i < w.heap.size := h.lt
  go_enter Try.func15, Try.ntmps15
  go_wp2
  have hbx : Blk (w.alloc (.cells #[.int .i64 0, .int .i64 s, .int .i64 b, .string t, .bool o, .int .i64 af] 34)) w.heap.size 34 #[.int .i64 0, .int .i64 s, .int .i64 b, .string t, .bool o, .int .i64 af] := Blk.new w _ _
  refine wp_region_hold (fun W => Blk W w.heap.size 34 #[.int .i64 0, .int .i64 s, .int .i64 b, .string t, .bool o, .int .i64 af]) [0, 1, 2, 3] [4] [5, 6, 7] (by kernel_rfl) (by kernel_rfl) (fun _ d _ _ _ h => by cases d <;> exact h) hbx.drew ?_
  simp only [pick, List.drop_succ_cons, List.drop_zero, List.head?_cons, Option.toList_some, List.cons_append, List.nil_append, List.append_nil]
  repeat (refine wpHeld_step ?_ rfl ?_ ?_; rotate_left; · (intro W hW; obtain ⟨y1, y2, y3⟩ := Blk.all hW; go_simp; with_reducible rfl))
  refine wpHeld_nil ?_
  simp only [wpEarly]
  go_wp2_with fail
  refine (text_any _ ⟨0, s, b, t, o, af⟩ ht).mono ?_
  rintro e w2 ⟨rfl, hb⟩
  go_wp2_with fail
  refine ⟨hbx.drew.below hb (by simp), ?_⟩
  have hb' : Below w.heap.size w w2 := ((Below.refl _ w).alloc (Nat.le_refl _) _).drew.trans (hb.mono (by simp))
  have h2 := h.below hb'
  clear hb hbx
  go_wp2_with fail
  refine (write_any h2 hl s _).mono ?_
  rintro e w3 ⟨rfl, hs⟩
  go_wp2
  go_ret2
  exact ⟨rfl, hs.after hb'⟩

set_option maxHeartbeats 400000 in
theorem do_read (h : DiskAt w a d F) (x : Ac) (hk : x.kind = 1) :
    Calls Try.prog 15 #[.pointer (some ⟨a, 0, none⟩), x.val] w fun e w' => e = .returned (.tuple #[.string (d.read x.sector).1, .int .i64 (d.read x.sector).2]) ∧ Stp w w' a d F := by
  obtain ⟨k, s, b, t, o, af⟩ := x
  simp only at hk
  subst hk
  simp only [Ac.val] at *
  have h' := h.below ((Below.refl _ w).alloc (Nat.le_refl _) (.cells #[.int .i64 1, .int .i64 s, .int .i64 b, .string t, .bool o, .int .i64 af] 34))
  go_enter Try.func15, Try.ntmps15
  go_wp2_with fail
  refine (read_any h' s).mono ?_
  rintro e w3 ⟨rfl, hb⟩
  go_wp2
  go_ret2
  exact ⟨rfl, Stp.same h (below_alloc hb)⟩

set_option maxHeartbeats 400000 in
theorem do_sync (h : DiskAt w a d F) (x : Ac) (hk : x.kind = 2) :
    Calls Try.prog 15 #[.pointer (some ⟨a, 0, none⟩), x.val] w fun e w' => e = .returned (.tuple #[.string ⟨#[]⟩, .int .i64 d.sync.2]) ∧ Stp w w' a d.sync.1 F := by
  obtain ⟨k, s, b, t, o, af⟩ := x
  simp only at hk
  subst hk
  simp only [Ac.val] at *
  have h' := h.below ((Below.refl _ w).alloc (Nat.le_refl _) (.cells #[.int .i64 2, .int .i64 s, .int .i64 b, .string t, .bool o, .int .i64 af] 34))
  go_enter Try.func15, Try.ntmps15
  go_wp2_with fail
  refine (sync_any h').mono ?_
  rintro e w3 ⟨rfl, hs⟩
  go_wp2
  go_ret2
  exact ⟨rfl, hs.box⟩

set_option maxHeartbeats 400000 in
theorem do_fail (h : DiskAt w a d F) (x : Ac) (hk : x.kind = 3) :
    Calls Try.prog 15 #[.pointer (some ⟨a, 0, none⟩), x.val] w fun e w' => e = .returned (.tuple #[.string ⟨#[]⟩, .int .i64 0]) ∧ Stp w w' a (d.fail x.sector x.bytes) F := by
  obtain ⟨k, s, b, t, o, af⟩ := x
  simp only at hk
  subst hk
  simp only [Ac.val] at *
  have h' := h.below ((Below.refl _ w).alloc (Nat.le_refl _) (.cells #[.int .i64 3, .int .i64 s, .int .i64 b, .string t, .bool o, .int .i64 af] 34))
  go_enter Try.func15, Try.ntmps15
  go_wp2_with fail
  refine (fail_any h' s b).mono ?_
  rintro e w3 ⟨rfl, hs⟩
  go_wp2
  go_ret2
  exact ⟨rfl, hs.box⟩

set_option maxHeartbeats 400000 in
theorem do_start (h : DiskAt w a d F) (x : Ac) (hk : x.kind = 4) :
    Calls Try.prog 15 #[.pointer (some ⟨a, 0, none⟩), x.val] w fun e w' => e = .returned (.tuple #[.string ⟨#[]⟩, .int .i64 0]) ∧ Stp w w' a d.start F := by
  obtain ⟨k, s, b, t, o, af⟩ := x
  simp only at hk
  subst hk
  simp only [Ac.val] at *
  have h' := h.below ((Below.refl _ w).alloc (Nat.le_refl _) (.cells #[.int .i64 4, .int .i64 s, .int .i64 b, .string t, .bool o, .int .i64 af] 34))
  go_enter Try.func15, Try.ntmps15
  go_wp2_with fail
  refine (startany h').mono ?_
  rintro e w3 ⟨rfl, hs⟩
  go_wp2
  go_ret2
  exact ⟨rfl, hs.box⟩

set_option maxHeartbeats 400000 in
theorem do_arm (h : DiskAt w a d F) (x : Ac) (hk : x.kind = 5) (ha : x.after ≤ 9223372036854775807) :
    Calls Try.prog 15 #[.pointer (some ⟨a, 0, none⟩), x.val] w fun e w' => e = .returned (.tuple #[.string ⟨#[]⟩, .int .i64 0]) ∧ Stp w w' a (d.doArm x.after x.sector x.bytes) F := by
  obtain ⟨k, s, b, t, o, af⟩ := x
  simp only at hk
  subst hk
  simp only [Ac.val] at *
  have h' := h.below ((Below.refl _ w).alloc (Nat.le_refl _) (.cells #[.int .i64 5, .int .i64 s, .int .i64 b, .string t, .bool o, .int .i64 af] 34))
  go_enter Try.func15, Try.ntmps15
  go_wp2_with fail
  refine (arm_any h' af s b ha).mono ?_
  rintro e w3 ⟨rfl, hs⟩
  go_wp2
  go_ret2
  exact ⟨rfl, hs.box⟩

set_option maxHeartbeats 400000 in
theorem do_rot (h : DiskAt w a d F) (x : Ac) (hk : x.kind = 6) :
    Calls Try.prog 15 #[.pointer (some ⟨a, 0, none⟩), x.val] w fun e w' => e = .returned (.tuple #[.string ⟨#[]⟩, .int .i64 0]) ∧ Stp w w' a (d.rot x.sector x.bytes x.after) F := by
  obtain ⟨k, s, b, t, o, af⟩ := x
  simp only at hk
  subst hk
  simp only [Ac.val] at *
  have h' := h.below ((Below.refl _ w).alloc (Nat.le_refl _) (.cells #[.int .i64 6, .int .i64 s, .int .i64 b, .string t, .bool o, .int .i64 af] 34))
  go_enter Try.func15, Try.ntmps15
  go_wp2_with fail
  refine (rot_any h' s b af).mono ?_
  rintro e w3 ⟨rfl, hs⟩
  go_wp2
  go_ret2
  exact ⟨rfl, hs.box⟩

set_option maxHeartbeats 400000 in
theorem do_stale (h : DiskAt w a d F) (x : Ac) (hk : x.kind = 7) :
    Calls Try.prog 15 #[.pointer (some ⟨a, 0, none⟩), x.val] w fun e w' => e = .returned (.tuple #[.string ⟨#[]⟩, .int .i64 0]) ∧ Stp w w' a (d.stale x.sector) F := by
  obtain ⟨k, s, b, t, o, af⟩ := x
  simp only at hk
  subst hk
  simp only [Ac.val] at *
  have h' := h.below ((Below.refl _ w).alloc (Nat.le_refl _) (.cells #[.int .i64 7, .int .i64 s, .int .i64 b, .string t, .bool o, .int .i64 af] 34))
  go_enter Try.func15, Try.ntmps15
  go_wp2_with fail
  refine (stale_any h' s).mono ?_
  rintro e w3 ⟨rfl, hs⟩
  go_wp2
  go_ret2
  exact ⟨rfl, hs.box⟩

set_option maxHeartbeats 400000 in
theorem do_none (h : DiskAt w a d F) (x : Ac) (hk : x.kind < 0 ∨ 7 < x.kind) :
    Calls Try.prog 15 #[.pointer (some ⟨a, 0, none⟩), x.val] w fun e w' => e = .returned (.tuple #[.string ⟨#[]⟩, .int .i64 0]) ∧ Stp w w' a d F := by
  obtain ⟨k, s, b, t, o, af⟩ := x
  simp only [Ac.val] at *
  rcases hk with hk | hk
  all_goals
    go_enter Try.func15, Try.ntmps15
    go_wp2
    go_ret2
    exact ⟨rfl, Stp.same h ((Below.refl _ _).alloc (Nat.le_refl _) _)⟩

theorem do_any (h : DiskAt w a d F) (hl : d.q.length < 4096) (x : Ac) (ht : x.text.size ≤ 100) (ha : x.after ≤ 9223372036854775807) :
    Calls Try.prog 15 #[.pointer (some ⟨a, 0, none⟩), x.val] w fun e w' => e = .returned (.tuple #[.string (d.act x).2.1, .int .i64 (d.act x).2.2]) ∧ Stp w w' a (d.act x).1 F := by
  unfold Dk.act
  by_cases h0 : x.kind = 0
  · simp only [h0, if_true]; exact do_write h hl x ht h0
  by_cases h1 : x.kind = 1
  · simp only [h1]; exact do_read h x h1
  by_cases h2 : x.kind = 2
  · simp only [h2]; exact do_sync h x h2
  by_cases h3 : x.kind = 3
  · simp only [h3]; exact do_fail h x h3
  by_cases h4 : x.kind = 4
  · simp only [h4]; exact do_start h x h4
  by_cases h5 : x.kind = 5
  · simp only [h5]; exact do_arm h x h5 ha
  by_cases h6 : x.kind = 6
  · simp only [h6]; exact do_rot h x h6
  by_cases h7 : x.kind = 7
  · simp only [h7]; exact do_stale h x h7
  simp only [h0, h1, h2, h3, h4, h5, h6, h7, if_false]
  exact do_none h x (by omega)
end
end Go.Proofs.Ytahkahmkoibmhaa
