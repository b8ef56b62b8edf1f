/- A text of a claim's proof: see the last text of the claim. -/
import Derived.Test.YteecdpdidhjdlaaLruW4
import Derived.Lib.SlicesS
set_option linter.all false
namespace Go.Proofs.Yteecdpdidhjdlaa
open Go.RowKit Go.Tk Go.Lru

theorem take_succ_eq {α : Type} {xs ys : List α} {k : Nat} (ha : k < xs.length) (hb : k < ys.length) (h : xs.take k = ys.take k) (e : xs[k] = ys[k]) : xs.take (k + 1) = ys.take (k + 1) := by
  rw [List.take_succ_eq_append_getElem ha, List.take_succ_eq_append_getElem hb, h, e]

set_option maxRecDepth 100000 in
set_option maxHeartbeats 400000 in
theorem same_any (va vb : Value) (xs ys : List ByteArray) (w : World) (ha : StrSl w va xs) (hb : StrSl w vb ys) (hl : xs.length ≤ 9223372036854775807) :
    Calls Try.prog 11 #[va, vb] w fun e w' => e = .returned (.bool (decide (xs = ys))) ∧ Frm (fun _ => False) w w' := by
  obtain ⟨ao, cap, rfl, _, hca⟩ := ha
  obtain ⟨bo, cap', rfl, _, hcb⟩ := hb
  by_cases hlen : xs.length = ys.length
  · have hl0 : ((xs.length : Int) != (ys.length : Int)) = false := by rw [bne_eq_false_iff_eq]; omega
    have Hlen := Lib.hid hlen
    clear hlen
    go_enter Try.func11, Try.ntmps11
    go_wp2_with fail
    go_loopw [5] (fun i wr => ∃ k : Nat, k ≤ xs.length ∧ i = .int .i64 k ∧ xs.take k = ys.take k ∧ Frm (fun _ => False) w wr) (fun i _ => xs.length - (intOf i).toNat)
    case atStart => exact ⟨0, Nat.zero_le _, rfl, rfl, Frm.refl _ _⟩
    case round =>
      obtain ⟨k, hk, rfl, htk, hf⟩ := hrel
      have Htk := Lib.hid htk
      clear htk
      by_cases hlt : k < xs.length
      · have hlt' : k < ys.length := by have := Hlen.out; omega
        obtain ⟨b, off, rfl, c1⟩ := hca k hlt
        obtain ⟨b', off', rfl, c2⟩ := hcb k hlt'
        have c1' := (hf.cell (p := ⟨b, off + k, none⟩) (World.block_lt_of_cell? _ _ c1) (fun h => h)).trans c1
        have c2' := (hf.cell (p := ⟨b', off' + k, none⟩) (World.block_lt_of_cell? _ _ c2) (fun h => h)).trans c2
        have Hc := Lib.hid (And.intro hca hcb)
        clear c1 c2 hca hcb
        have i1 : (0 : Int) ≤ k := by omega
        have i2 : (k : Int) < xs.length := by omega
        have i3 : (k : Int) < ys.length := by omega
        generalize hx : xs[k] = x at c1'
        generalize hy : ys[k] = y at c2'
        by_cases hxy : x = y
        · subst hxy
          have Hs := Lib.hid (take_succ_eq hlt hlt' Htk.out (hx.trans hy.symm))
          clear hx hy
          go_wp2_with fail
          go_quiet (fail)
          go_wp2_with fail
          exact ⟨⟨k + 1, by omega, by go_num, Hs.out, hf.drewN _⟩, by simp [intOf]; omega⟩
        · have Hx := Lib.hid hx
          have Hy := Lib.hid hy
          have Hxy := Lib.hid hxy
          have hn : (x.toList == y.toList) = false := (Lib.bytes_beq_false_iff x y).2 hxy
          clear hx hy hxy
          go_wp2_with fail
          go_quiet (fail)
          go_wp2_with fail
          go_ret
          refine ⟨?_, hf.drewN _⟩
          rw [decide_eq_false]
          · rfl
          · rintro rfl
            exact Hxy.out (Hx.out.symm.trans Hy.out)
      · have : k = xs.length := by omega
        subst this
        go_wp2_with fail
        go_ret
        refine ⟨?_, hf⟩
        have := Htk.out
        rw [List.take_length, Hlen.out, List.take_length] at this
        rw [decide_eq_true this]
        rfl
  · have hl0 : ((xs.length : Int) != (ys.length : Int)) = true := by rw [bne_iff_ne]; omega
    go_enter Try.func11, Try.ntmps11
    go_wp2_with fail
    go_ret
    exact ⟨by rw [decide_eq_false (fun e => hlen (by rw [e]))]; rfl, Frm.refl _ _⟩
end Go.Proofs.Yteecdpdidhjdlaa
