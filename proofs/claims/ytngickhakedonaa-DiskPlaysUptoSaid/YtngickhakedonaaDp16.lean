/- A text of a claim's proof: see the last text of the claim. -/
import Derived.Test.YtngickhakedonaaDp07
import Derived.Test.YtngickhakedonaaDp14
set_option linter.all false
namespace Go.Proofs.Ytngickhakedonaa
open Go.RowKit Go.Tk Go.Dk
theorem failAt_nil (w : World) (g : Nat) (h : w.cell? ⟨g, 0, none⟩ = some (.int .i64 1)) : Calls Try.prog 40 #[.pointer none, .slice (some ⟨g, 0, none⟩) 1 1] w fun e w' => e = .returned (.tuple #[]) ∧ Frm F0 w w' := by
  have hg := World.block_lt_of_cell? _ _ h
  go_enter Try.func40, Try.ntmps40
  go_wp2_with fail
  go_loopw [5, 8] (fun _ i wr => ∃ k : Nat, k ≤ 1 ∧ i = .int .i64 k ∧ Hid (Frm F0 w wr)) (fun _ i _ => 1 - (intOf i).toNat)
  case atStart => exact ⟨0, Nat.zero_le _, rfl, Lib.hid (Frm.refl _ _)⟩
  case round =>
    obtain ⟨k, hk, rfl, hR⟩ := hrel
    by_cases hlt : k < 1
    · have e : k = 0 := by omega
      subst e
      have r1 := (hR.out.cell (p := ⟨g, 0, none⟩) hg (fun h => h)).trans h
      clear h
      go_wp2_with fail
      exact ⟨⟨1, by omega, by go_num, hR⟩, by simp [intOf]⟩
    · have e : k = 1 := by omega
      subst e
      go_wp2_with fail
      go_end0
      exact ⟨rfl, hR.out⟩

set_option maxRecDepth 100000 in
set_option maxHeartbeats 2000000 in
theorem none_any (w : World) : Calls Try.prog 13 #[] w fun e w' => e = .returned (.bool true) ∧ Frm F0 w w' := by
  go_enter Try.func13, Try.ntmps13
  go_wp2_with fail
  refine (append_nil w _).mono ?_
  rintro e w1 ⟨rfl, f1⟩
  go_wp2_with fail
  refine (read_nil w1 _).mono ?_
  rintro e w2 ⟨rfl, f2⟩
  go_wp2_with fail
  refine (readAt_nil w2 _).mono ?_
  rintro e w3 ⟨rfl, f3⟩
  go_wp2_with fail
  refine (sync_nil w3 _).mono ?_
  rintro e w4 ⟨rfl, f4⟩
  go_wp2_with fail
  refine (syncdir_nil w4).mono ?_
  rintro e w5 ⟨rfl, f5⟩
  go_wp2_with fail
  refine (rename_nil w5 _ _).mono ?_
  rintro e w6 ⟨rfl, f6⟩
  go_wp2_with fail
  refine (remove_nil w6 _).mono ?_
  rintro e w7 ⟨rfl, f7⟩
  have F7 : Frm F0 w w7 := f1.trans (f2.trans (f3.trans (f4.trans (f5.trans (f6.trans f7)))))
  clear f1 f2 f3 f4 f5 f6 f7
  go_wp2_with fail
  refine (turn_nil w7 _).mono ?_
  rintro e _ ⟨rfl, rfl⟩
  go_wp2_with fail
  refine (room_nil w7 _).mono ?_
  rintro e _ ⟨rfl, rfl⟩
  go_wp2_with fail
  refine (cut_nil w7 _).mono ?_
  rintro e _ ⟨rfl, rfl⟩
  go_wp2_with fail
  refine (failAt_nil _ _ (by simp)).mono ?_
  rintro e w8 ⟨rfl, f8⟩
  have F8 : Frm F0 w w8 := F7.trans (((Frm.refl _ _).alloc _).trans f8)
  clear F7 f8
  go_wp2_with fail
  refine (new_no (-1) w8 (by decide)).mono ?_
  rintro e _ ⟨rfl, rfl⟩
  go_wp2_with fail
  refine (names_nil w8).mono ?_
  rintro e _ ⟨rfl, rfl⟩
  go_wp2_with fail
  refine (size_nil w8 _).mono ?_
  rintro e _ ⟨rfl, rfl⟩
  go_wp2_with fail
  refine (ops_nil w8).mono ?_
  rintro e _ ⟨rfl, rfl⟩
  go_wp2_with fail
  refine (loose_nil w8).mono ?_
  rintro e _ ⟨rfl, rfl⟩
  go_wp2_with fail
  refine (crash_nil w8 _ _).mono ?_
  rintro e w9 ⟨rfl, f9⟩
  go_wp2_with fail
  go_ret
  exact ⟨rfl, F8.trans f9⟩
end Go.Proofs.Ytngickhakedonaa
