/- A text of a claim's proof: see the last text of the claim. -/
import Derived.Test.YtngickhakedonaaDp03
set_option linter.all false
namespace Go.Proofs.Ytngickhakedonaa
open Go.RowKit Go.Tk Go.Dk

/-! ### a disk that is nil -/
abbrev F0 : Nat → Prop := fun _ => False
section
variable (w : World)
theorem starts_nil (m : Bool) (v : Value) : Calls Try.prog 49 #[.pointer none, .bool m, v] w fun e w' => e = .returned (.tuple #[.bool false, .int .i64 1]) ∧ w = w' := by
  go_enter Try.func49, Try.ntmps49
  go_wp2_with fail
  go_ret2
  exact ⟨rfl, rfl⟩
theorem append_nil (s : ByteArray) : Calls Try.prog 26 #[.pointer none, .string s, .slice none 0 0] w fun e w' => e = .returned (.int .i64 1) ∧ Frm F0 w w' := by
  go_enter Try.func26, Try.ntmps26
  go_wp2_with fail
  refine (starts_nil _ false _).mono ?_
  rintro e _ ⟨rfl, rfl⟩
  go_wp2_with fail
  go_ret
  exact ⟨rfl, by first | exact (Frm.refl _ _).alloc _ | exact ((Frm.refl _ _).alloc _).alloc _⟩
theorem read_nil (s : ByteArray) : Calls Try.prog 29 #[.pointer none, .string s] w fun e w' => e = .returned (.tuple #[.slice none 0 0, .int .i64 1]) ∧ Frm F0 w w' := by
  go_enter Try.func29, Try.ntmps29
  go_wp2_with fail
  refine (starts_nil _ true _).mono ?_
  rintro e _ ⟨rfl, rfl⟩
  go_wp2_with fail
  go_ret2
  exact ⟨rfl, by first | exact (Frm.refl _ _).alloc _ | exact ((Frm.refl _ _).alloc _).alloc _⟩
theorem readAt_nil (s : ByteArray) : Calls Try.prog 33 #[.pointer none, .string s, .int .i64 0, .int .i64 0] w fun e w' => e = .returned (.tuple #[.slice none 0 0, .int .i64 1]) ∧ Frm F0 w w' := by
  go_enter Try.func33, Try.ntmps33
  go_wp2_with fail
  refine (starts_nil _ true _).mono ?_
  rintro e _ ⟨rfl, rfl⟩
  go_wp2_with fail
  go_ret2
  exact ⟨rfl, by first | exact (Frm.refl _ _).alloc _ | exact ((Frm.refl _ _).alloc _).alloc _⟩
theorem sync_nil (s : ByteArray) : Calls Try.prog 27 #[.pointer none, .string s] w fun e w' => e = .returned (.int .i64 1) ∧ Frm F0 w w' := by
  go_enter Try.func27, Try.ntmps27
  go_wp2_with fail
  refine (starts_nil _ true _).mono ?_
  rintro e _ ⟨rfl, rfl⟩
  go_wp2_with fail
  go_ret
  exact ⟨rfl, by first | exact (Frm.refl _ _).alloc _ | exact ((Frm.refl _ _).alloc _).alloc _⟩
theorem syncdir_nil : Calls Try.prog 34 #[.pointer none] w fun e w' => e = .returned (.int .i64 1) ∧ Frm F0 w w' := by
  go_enter Try.func34, Try.ntmps34
  go_wp2_with fail
  refine (starts_nil _ false _).mono ?_
  rintro e _ ⟨rfl, rfl⟩
  go_wp2_with fail
  go_ret
  exact ⟨rfl, by first | exact Frm.refl _ _ | exact (Frm.refl _ _).alloc _⟩
theorem rename_nil (s t : ByteArray) : Calls Try.prog 35 #[.pointer none, .string s, .string t] w fun e w' => e = .returned (.int .i64 1) ∧ Frm F0 w w' := by
  go_enter Try.func35, Try.ntmps35
  go_wp2_with fail
  refine (starts_nil _ true _).mono ?_
  rintro e _ ⟨rfl, rfl⟩
  go_wp2_with fail
  go_ret
  exact ⟨rfl, by first | exact (Frm.refl _ _).alloc _ | exact ((Frm.refl _ _).alloc _).alloc _ | exact (((Frm.refl _ _).alloc _).alloc _).alloc _⟩
theorem remove_nil (s : ByteArray) : Calls Try.prog 36 #[.pointer none, .string s] w fun e w' => e = .returned (.int .i64 1) ∧ Frm F0 w w' := by
  go_enter Try.func36, Try.ntmps36
  go_wp2_with fail
  refine (starts_nil _ true _).mono ?_
  rintro e _ ⟨rfl, rfl⟩
  go_wp2_with fail
  go_ret
  exact ⟨rfl, by first | exact (Frm.refl _ _).alloc _ | exact ((Frm.refl _ _).alloc _).alloc _⟩
theorem turn_nil (s : ByteArray) : Calls Try.prog 37 #[.pointer none, .string s, .int .i64 0, .int .u8 1] w fun e w' => e = .returned (.int .i64 1) ∧ w = w' := by
  go_enter Try.func37, Try.ntmps37
  go_wp2_with fail
  go_ret
  exact ⟨rfl, rfl⟩
theorem room_nil (n : Int) : Calls Try.prog 38 #[.pointer none, .int .i64 n] w fun e w' => e = .returned (.tuple #[]) ∧ w = w' := by
  go_enter Try.func38, Try.ntmps38
  go_wp2_with fail
  go_end0
  exact ⟨rfl, rfl⟩
theorem cut_nil (n : Int) : Calls Try.prog 39 #[.pointer none, .int .i64 n] w fun e w' => e = .returned (.tuple #[]) ∧ w = w' := by
  go_enter Try.func39, Try.ntmps39
  go_wp2_with fail
  go_end0
  exact ⟨rfl, rfl⟩
theorem names_nil : Calls Try.prog 32 #[.pointer none] w fun e w' => e = .returned (.slice none 0 0) ∧ w = w' := by
  go_enter Try.func32, Try.ntmps32
  go_wp2_with fail
  go_ret
  exact ⟨rfl, rfl⟩
theorem size_nil (s : ByteArray) : Calls Try.prog 31 #[.pointer none, .string s] w fun e w' => e = .returned (.int .i64 (-1)) ∧ w = w' := by
  go_enter Try.func31, Try.ntmps31
  go_wp2_with fail
  go_ret
  exact ⟨rfl, rfl⟩
theorem ops_nil : Calls Try.prog 41 #[.pointer none] w fun e w' => e = .returned (.int .i64 0) ∧ w = w' := by
  go_enter Try.func41, Try.ntmps41
  go_wp2_with fail
  go_ret
  exact ⟨rfl, rfl⟩
theorem loose_nil : Calls Try.prog 30 #[.pointer none] w fun e w' => e = .returned (.int .i64 0) ∧ w = w' := by
  go_enter Try.func30, Try.ntmps30
  go_wp2_with fail
  go_ret
  exact ⟨rfl, rfl⟩
set_option maxRecDepth 100000 in
set_option maxHeartbeats 1000000 in
theorem crash_nil (a b : Int) : Calls Try.prog 28 #[.pointer none, .int .i64 a, .int .i64 b] w fun e w' => e = .returned (.pointer none) ∧ Frm F0 w w' := by
  go_enter Try.func28, Try.ntmps28
  go_wp2_with fail
  go_ret
  exact ⟨rfl, by first | exact Frm.refl _ _ | exact (Frm.refl _ _).alloc _⟩
end
end Go.Proofs.Ytngickhakedonaa
