/- A text of a claim's proof: see the last text of the claim. -/
import Derived.Test.YteecdpdidhjdlaaRows
import Derived.Test.YteecdpdidhjdlaaLruRep
import Derived.WalkKit
import Derived.WalkSpells
import Derived.RegionTactic
import Derived.ChangeAlike
import Derived.BigRegion
import Derived.Deep.QuietTactic
import Derived.BigQuiet
set_option linter.all false
namespace Go.Proofs.Yteecdpdidhjdlaa
open Go.RowKit

theorem loose_any (r x p n : Nat) (u v : Value) (w : World) 
    (hp : w.cell? ⟨x, 2, none⟩ = some (.pointer (some ⟨p, 0, none⟩))) (hn : w.cell? ⟨x, 3, none⟩ = some (.pointer (some ⟨n, 0, none⟩)))
    (h1 : w.cell? ⟨p, 3, none⟩ = some u) (h2 : w.cell? ⟨n, 2, none⟩ = some v) (f1 : w.frozen? ⟨p, 3, none⟩ = false) (f2 : w.frozen? ⟨n, 2, none⟩ = false) :
    Calls Try.prog 23 #[.pointer (some ⟨r, 0, none⟩), .pointer (some ⟨x, 0, none⟩)] w fun e w' => e = .returned (.tuple #[]) ∧
      w' = ((w.setCell ⟨p, 3, none⟩ (.pointer (some ⟨n, 0, none⟩))).setCell ⟨n, 2, none⟩ (.pointer (some ⟨p, 0, none⟩))).drew := by
  go_enter Try.func23, Try.ntmps23
  go_wp2
  go_region
  go_end0
  exact ⟨rfl, rfl⟩
theorem begin_any (r : Nat) (u v : Value) (w : World) (h1 : w.cell? ⟨r, 3, none⟩ = some u) (h2 : w.cell? ⟨r, 2, none⟩ = some v) (f1 : w.frozen? ⟨r, 3, none⟩ = false) (f2 : w.frozen? ⟨r, 2, none⟩ = false) :
    Calls Try.prog 22 #[.pointer (some ⟨r, 0, none⟩)] w fun e w' => e = .returned (.tuple #[]) ∧
      w' = ((w.setCell ⟨r, 3, none⟩ (.pointer (some ⟨r, 0, none⟩))).setCell ⟨r, 2, none⟩ (.pointer (some ⟨r, 0, none⟩))).drew := by
  go_enter Try.func22, Try.ntmps22
  go_wp2
  go_region
  go_end0
  exact ⟨rfl, rfl⟩

theorem use_any (r x f : Nat) (u1 u2 u3 : Value) (w : World) (hrx : r ≠ x) (hfx : f ≠ x)
    (hf : w.cell? ⟨r, 3, none⟩ = some (.pointer (some ⟨f, 0, none⟩)))
    (h1 : w.cell? ⟨x, 2, none⟩ = some u1) (h2 : w.cell? ⟨x, 3, none⟩ = some u2) (h3 : w.cell? ⟨f, 2, none⟩ = some u3)
    (f1 : w.frozen? ⟨x, 2, none⟩ = false) (f2 : w.frozen? ⟨x, 3, none⟩ = false) (f3 : w.frozen? ⟨r, 3, none⟩ = false) (f4 : w.frozen? ⟨f, 2, none⟩ = false) :
    Calls Try.prog 24 #[.pointer (some ⟨r, 0, none⟩), .pointer (some ⟨x, 0, none⟩)] w fun e w' => e = .returned (.tuple #[]) ∧
      w' = ((((w.setCell ⟨x, 2, none⟩ (.pointer (some ⟨r, 0, none⟩))).setCell ⟨x, 3, none⟩ (.pointer (some ⟨f, 0, none⟩))).setCell ⟨r, 3, none⟩ (.pointer (some ⟨x, 0, none⟩))).setCell ⟨f, 2, none⟩ (.pointer (some ⟨x, 0, none⟩))).drew.drew := by
  go_enter Try.func24, Try.ntmps24
  go_wp2
  go_region
  go_wp2
  go_region
  go_end0
  exact ⟨rfl, rfl⟩

theorem eldest_any (r x : Nat) (w : World) (h : w.cell? ⟨r, 2, none⟩ = some (.pointer (some ⟨x, 0, none⟩))) :
    Calls Try.prog 25 #[.pointer (some ⟨r, 0, none⟩)] w fun e w' => e = .returned (.pointer (some ⟨x, 0, none⟩)) ∧ w = w' := by
  go_enter Try.func25, Try.ntmps25
  go_wp2
  go_ret
  exact ⟨rfl, rfl⟩

theorem new_any (b : Int) (hb : 0 ≤ b) (w : World) :
    Calls Try.prog 7 #[.int .i64 b] w fun e w' => e = .returned (.pointer (some ⟨w.heap.size + 1, 0, none⟩)) ∧
      w' = ((w.alloc (.map #[] 0)).alloc (.cells #[.string ⟨#[]⟩, .string ⟨#[]⟩, .pointer (some ⟨w.heap.size + 1, 0, none⟩), .pointer (some ⟨w.heap.size + 1, 0, none⟩), .map (some w.heap.size), .int .i64 b, .int .i64 0] 60)).drew := by
  have hmm := @run_makeMap Try.prog
  go_enter Try.func7, Try.ntmps7
  go_wp2_with (go_at_call 22; refine (begin_any _ (.pointer none) (.pointer none) _ (by simp [go_sem]) (by simp [go_sem]) (by simp [go_sem]) (by simp [go_sem])).mono ?_; rintro e w' ⟨rfl, rfl⟩)
  go_ret

  exact ⟨rfl, rfl⟩

end Go.Proofs.Yteecdpdidhjdlaa
