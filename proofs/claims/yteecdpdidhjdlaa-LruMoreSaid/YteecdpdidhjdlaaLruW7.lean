/- A text of a claim's proof: see the last text of the claim. -/
import Derived.Test.YteecdpdidhjdlaaLruW6
set_option linter.all false
namespace Go.Proofs.Yteecdpdidhjdlaa
open Go.RowKit Go.Tk Go.Lru

def pickI (c n : Int) : Int := (if c < 0 then -(c + 1) else c) % n
theorem pickI_lo (c n : Int) (hn : 0 < n) : 0 ≤ pickI c n := Int.emod_nonneg _ (by omega)
theorem pickI_hi (c n : Int) (hn : 0 < n) : pickI c n < n := Int.emod_lt_of_pos _ hn

theorem pick_any (c n : Int) (w : World) (hc : -9223372036854775808 ≤ c) (hc' : c ≤ 9223372036854775807) (hn : 0 < n) (hn' : n ≤ 1000000) :
    Calls Try.prog 6 #[.int .i64 c, .int .i64 n] w fun e w' => e = .returned (.int .i64 (pickI c n)) ∧ w = w' := by
  by_cases h : c < 0
  · have e1 : pickI c n = (-(c + 1)) % n := by simp [pickI, h]
    have E1 := Lib.hid e1
    clear e1
    have h2 : 0 ≤ -(c + 1) := by omega
    have h3 : (n == 0) = false := by rw [beq_eq_false_iff_ne]; omega
    go_enter Try.func6, Try.ntmps6
    go_wp2_with fail
    go_ret
    refine ⟨?_, rfl⟩
    rw [E1.out]
    show Ending.returned (Value.int IntKind.i64 (-(c + 1).tmod n)) = _
    rw [← Int.neg_tmod, Int.tmod_eq_emod_of_nonneg h2]
  · have e1 : pickI c n = c % n := by simp [pickI, h]
    have E1 := Lib.hid e1
    clear e1
    have h2 : 0 ≤ c := by omega
    have h3 : (n == 0) = false := by rw [beq_eq_false_iff_ne]; omega
    go_enter Try.func6, Try.ntmps6
    go_wp2_with fail
    go_ret
    refine ⟨?_, rfl⟩
    rw [E1.out]
    rfl

theorem lru_new (w : World) (b : Nat) : Lru (((w.alloc (.map #[] 0)).alloc (.cells #[.string ⟨#[]⟩, .string ⟨#[]⟩, .pointer (some ⟨w.heap.size + 1, 0, none⟩), .pointer (some ⟨w.heap.size + 1, 0, none⟩), .map (some w.heap.size), .int .i64 b, .int .i64 0] 60)).drew) (w.heap.size + 1) w.heap.size b [] := by
  have hc : ∀ o, (((w.alloc (.map #[] 0)).alloc (.cells #[.string ⟨#[]⟩, .string ⟨#[]⟩, .pointer (some ⟨w.heap.size + 1, 0, none⟩), .pointer (some ⟨w.heap.size + 1, 0, none⟩), .map (some w.heap.size), .int .i64 b, .int .i64 0] 60)).drew).cell? ⟨w.heap.size + 1, o, none⟩ = #[Value.string ⟨#[]⟩, .string ⟨#[]⟩, .pointer (some ⟨w.heap.size + 1, 0, none⟩), .pointer (some ⟨w.heap.size + 1, 0, none⟩), .map (some w.heap.size), .int .i64 b, .int .i64 0][o]? := fun o => by
    rw [World.cell?_drew]
    have := World.cell?_alloc_new (w := w.alloc (.map #[] 0)) #[Value.string ⟨#[]⟩, .string ⟨#[]⟩, .pointer (some ⟨w.heap.size + 1, 0, none⟩), .pointer (some ⟨w.heap.size + 1, 0, none⟩), .map (some w.heap.size), .int .i64 b, .int .i64 0] 60 o
    rw [World.size_alloc] at this
    exact this
  refine ⟨⟨⟨hc 3, hc 2⟩, by simp, by simp, fun b1 hb => ?_, by simp⟩, hc 4, hc 5, hc 6, ⟨[], ?_, find_nil⟩, by simp⟩
  · simp at hb
    subst hb
    have := Fz.new (w.alloc (.map #[] 0)) #[Value.string ⟨#[]⟩, .string ⟨#[]⟩, .pointer (some ⟨w.heap.size + 1, 0, none⟩), .pointer (some ⟨w.heap.size + 1, 0, none⟩), .map (some w.heap.size), .int .i64 b, .int .i64 0] 60
    rw [World.size_alloc] at this
    exact this
  · exact (GMap.made w).frm (((Frm.refl (fun _ => False) _).alloc _).drew) (fun h => h)
theorem new_lru (b : Nat) (w : World) : Calls Try.prog 7 #[.int .i64 b] w fun e w' => ∃ cb mb, e = .returned (.pointer (some ⟨cb, 0, none⟩)) ∧ w.heap.size ≤ mb ∧ w.heap.size ≤ cb ∧ Lru w' cb mb b [] ∧ Frm (fun _ => False) w w' := by
  refine (new_any b (by omega) w).mono ?_
  rintro e w' ⟨rfl, rfl⟩
  exact ⟨_, _, rfl, Nat.le_refl _, Nat.le_succ _, lru_new w b, (((Frm.refl _ _).alloc _).alloc _).drew⟩
end Go.Proofs.Yteecdpdidhjdlaa
