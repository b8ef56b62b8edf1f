/- A text of a claim's proof: see the last text of the claim. -/
import Derived.Test.YtngickhakedonaaDp13
import Derived.Test.YtngickhakedonaaDp15
import Derived.Test.YtngickhakedonaaDp16
import Derived.Test.YtngickhakedonaaDp17
import Derived.Test.YtngickhakedonaaDp18
import Derived.Test.YtngickhakedonaaDp19
import Derived.Test.YtngickhakedonaaDp20
import Derived.Test.YtngickhakedonaaDp21
import Derived.Test.YtngickhakedonaaDp22
import Derived.Test.YtngickhakedonaaDp23
import Derived.Test.YtngickhakedonaaDp24
import Derived.Test.YtngickhakedonaaDp25
import Derived.Test.YtngickhakedonaaDp26
import Derived.Test.YtngickhakedonaaDp27
set_option linter.all false
namespace Go.Proofs.Ytngickhakedonaa
open Go.RowKit Go.Tk Go.Dk
theorem does_any (o : Op3) {base M : Nat} {w : World} {d r : Nat} {L : PL} {B : Nat → Prop} {s : DS} (h : Two base w d r L B s s) (hfit : Fit s M) (ho : OpOk base M w o) :
    Calls Try.prog 17 #[.pointer (some ⟨d, 0, none⟩), .pointer (some ⟨r, 0, none⟩), opV o] w (DoesQ base w s o) := by
  have p1 := pickI_lo o.kind 15 (by decide)
  have p2 := pickI_hi o.kind 15 (by decide)
  have hk : pickI o.kind 15 = 0 ∨ pickI o.kind 15 = 1 ∨ pickI o.kind 15 = 2 ∨ pickI o.kind 15 = 3 ∨ pickI o.kind 15 = 4 ∨ pickI o.kind 15 = 5 ∨ pickI o.kind 15 = 6 ∨ pickI o.kind 15 = 7 ∨ pickI o.kind 15 = 8 ∨ pickI o.kind 15 = 9 ∨ pickI o.kind 15 = 10 ∨ pickI o.kind 15 = 11 ∨ pickI o.kind 15 = 12 ∨ pickI o.kind 15 = 13 ∨ pickI o.kind 15 = 14 := by omega
  rcases hk with hk | hk | hk | hk | hk | hk | hk | hk | hk | hk | hk | hk | hk | hk | hk
  · exact does_0 o hk h hfit ho
  · exact does_1 o hk h hfit ho
  · exact does_2 o hk h hfit ho
  · exact does_3 o hk h hfit ho
  · exact does_4 o hk h hfit ho
  · exact does_5 o hk h hfit ho
  · exact does_6 o hk h hfit ho
  · exact does_7 o hk h hfit ho
  · exact does_8 o hk h hfit ho
  · by_cases hn : 0 ≤ o.n
    · exact does_9b o hk h hfit ho hn
    · exact does_9a o hk h hfit ho (by omega)
  · exact does_10 o hk h hfit ho
  · exact does_11 o hk h hfit ho
  · exact does_12 o hk h hfit ho
  · exact does_13 o hk h hfit ho
  · exact does_14 o hk h hfit ho
end Go.Proofs.Ytngickhakedonaa

namespace Go.Proofs.Ytngickhakedonaa
open Go.RowKit Go.Tk Go.Dk

/-- the script's i-th element: six cells below base -/
def OpAt (base M : Nat) (w : World) (ao : Option Addr) (i : Nat) (o : Op3) : Prop :=
  ∃ b off, ao = some ⟨b, off, none⟩ ∧ b < base ∧ w.cell? ⟨b, off + i * 6, none⟩ = some (.int .i64 o.kind) ∧ w.cell? ⟨b, off + i * 6 + 1, none⟩ = some (.string o.name) ∧ w.cell? ⟨b, off + i * 6 + 2, none⟩ = some (.string o.too) ∧
    w.cell? ⟨b, off + i * 6 + 3, none⟩ = some (.slice o.ba o.b.size o.bc) ∧ w.cell? ⟨b, off + i * 6 + 4, none⟩ = some (.int .i64 o.n) ∧ w.cell? ⟨b, off + i * 6 + 5, none⟩ = some (.int .i64 o.torn) ∧ OpOk base M w o

set_option maxRecDepth 100000 in
set_option maxHeartbeats 2000000 in
theorem plays_any (room : Int) (ao : Option Addr) (len cap M : Nat) (ops : Nat → Op3) (w : World) (hr : -9223372036854775808 ≤ room) (hr' : room ≤ 9223372036854775807) (hlen : len ≤ 9223372036854775807) (hM : M ≤ 1048576)
    (hops : ∀ i, i < len → OpAt w.heap.size M w ao i (ops i)) :
    Calls Try.prog 4 #[.int .i64 room, .slice ao len cap] w fun e w' => e = .returned (.bool true) ∧ Frm F0 w w' := by
  have HO := Lib.hid hops
  have HM := Lib.hid hM
  have p1 := pickI_lo room 300 (by decide)
  have p2 := pickI_hi room 300 (by decide)
  have hpk : ∀ wx, Calls Try.prog 15 #[.int .i64 room, .int .i64 300] wx fun e w' => e = .returned (.int .i64 (pickI room 300)) ∧ wx = w' := fun wx => pick03_any room 300 wx hr hr' (by decide) (by decide)
  have HP := Lib.hid hpk
  generalize pickI room 300 = R at *
  clear hops hpk hM
  go_enter Try.func4, Try.ntmps4
  go_wp2_with fail
  refine (shown_any w).mono ?_
  rintro e w1 ⟨rfl, f1⟩
  go_wp2_with fail
  refine (none_any w1).mono ?_
  rintro e w2 ⟨rfl, f2⟩
  have f12 := Lib.hid (f1.trans f2)
  clear f1 f2
  go_wp2_with fail
  refine (HP.out w2).mono ?_
  rintro e _ ⟨rfl, rfl⟩
  go_wp2_with fail
  refine (new_any R w2 p1).mono ?_
  rintro e w3 ⟨rfl, q3, f3, hs3⟩
  have Q3 := Lib.hid (And.intro q3 (And.intro f3 hs3))
  clear q3 f3 hs3
  go_wp2_with fail
  refine (HP.out w3).mono ?_
  rintro e _ ⟨rfl, rfl⟩
  go_wp2_with fail
  refine (rnew_any R w3).mono ?_
  rintro e w4 ⟨rfl, q4, f4, hs4⟩
  have hb : Both w.heap.size w4 (w2.heap.size + 3) w3.heap.size (newDS R) := by
    have h12 := f12.out.size
    have h3 := Q3.out.2.2
    refine ⟨newL w2.heap.size, _, Q3.out.1.keep f4, q4, fun b hb => ?_, fun b hb => ?_, ?_⟩
    · have := newL_role _ b hb
      exact ⟨by omega, fun e => by omega⟩
    · have e : b = w3.heap.size := hb
      omega
    · omega
  have hfr : Frm (fun b => w.heap.size ≤ b) w w4 := (f12.out.trans (Q3.out.2.1.trans f4)).mono (fun _ _ h => h.elim)
  have HB := Lib.hid (And.intro hb (And.intro (Inv.fresh R) (And.intro (Sz.fresh (k := 0) (M := M) R p1) hfr)))
  clear hb hfr q4 f4 hs4 Q3 f12 HP p1 p2
  generalize w2.heap.size + 3 = d0 at *
  generalize w3.heap.size = r0 at *
  generalize newDS R = s0 at *
  go_wp2_with fail
  go_loopw [7, 9, 10, 11, 12, 13, 14] (fun dv rv i _ _ _ _ wr => ∃ (k d r : Nat) (s : DS), k ≤ len ∧ k ≤ 200 ∧ i = .int .i64 k ∧ dv = .pointer (some ⟨d, 0, none⟩) ∧ rv = .pointer (some ⟨r, 0, none⟩) ∧ Hid (Both w.heap.size wr d r s ∧ Inv s ∧ Sz s k M ∧ Frm (fun b => w.heap.size ≤ b) w wr)) (fun _ _ i _ _ _ _ _ => 200 - (intOf i).toNat)
  case atStart => exact ⟨0, d0, r0, s0, Nat.zero_le _, Nat.zero_le _, rfl, rfl, rfl, HB⟩
  case round =>
    obtain ⟨k, d, r, s, hk, hk', rfl, rfl, rfl, hI⟩ := hrel
    have i1 : (0 : Int) ≤ k := by omega
    by_cases h1 : k < len
    · by_cases h2 : k < 200
      · obtain ⟨b, off, rfl, hbl, o0, o1, o2, o3, o4, o5, hok⟩ := HO.out k h1
        have hok2 := hok.frm hI.out.2.2.2
        have hnb : ¬ w.heap.size ≤ b := by omega
        generalize ops k = o at *
        have r0 := (hI.out.2.2.2.cell (p := ⟨b, off + k * 6, none⟩) (World.block_lt_of_cell? _ _ o0) hnb).trans o0
        have r1 := (hI.out.2.2.2.cell (p := ⟨b, off + k * 6 + 1, none⟩) (World.block_lt_of_cell? _ _ o1) hnb).trans o1
        have r2 := (hI.out.2.2.2.cell (p := ⟨b, off + k * 6 + 2, none⟩) (World.block_lt_of_cell? _ _ o2) hnb).trans o2
        have r3 := (hI.out.2.2.2.cell (p := ⟨b, off + k * 6 + 3, none⟩) (World.block_lt_of_cell? _ _ o3) hnb).trans o3
        have r4 := (hI.out.2.2.2.cell (p := ⟨b, off + k * 6 + 4, none⟩) (World.block_lt_of_cell? _ _ o4) hnb).trans o4
        have r5 := (hI.out.2.2.2.cell (p := ⟨b, off + k * 6 + 5, none⟩) (World.block_lt_of_cell? _ _ o5) hnb).trans o5
        have h1' : (k : Int) < len := by omega
        have h2' : (k : Int) < 200 := by omega
        have hdo : Calls Try.prog 17 #[.pointer (some ⟨d, 0, none⟩), .pointer (some ⟨r, 0, none⟩), opV o] wr (DoesQ w.heap.size wr s o) := by
          obtain ⟨L, B, hT⟩ := hI.out.1
          exact does_any o hT (Fit.of hI.out.2.1 hI.out.2.2.1 (by omega) HM.out) hok2
        have hob : o.b.size ≤ M := hok.b
        have HDo := Lib.hid (And.intro hdo hob)
        clear o0 o1 o2 o3 o4 o5 hok hok2 hdo hob
        go_wp2_with fail
        refine HDo.out.1.mono ?_
        rintro e w5 ⟨d', r', rfl, hb5, f5⟩
        have HB5 := Lib.hid (And.intro hb5 (hI.out.2.2.2.trans f5))
        have hal : Calls Try.prog 18 #[.pointer (some ⟨d', 0, none⟩), .pointer (some ⟨r', 0, none⟩)] w5 fun e w' => e = .returned (.bool true) ∧ Frm (fun _ => False) w5 w' := by
          obtain ⟨L, B, hT⟩ := hb5
          exact alike_any hT (Fit.of (hI.out.2.1.step o) (hI.out.2.2.1.step o HDo.out.2) (by omega) HM.out)
        have HAL := Lib.hid hal
        clear hb5 f5 hal r0 r1 r2 r3 r4 r5
        go_wp2_with fail
        refine HAL.out.mono ?_
        rintro e w6 ⟨rfl, f6⟩
        have hb6 : Both w.heap.size w6 d' r' (stepD s o) := by
          obtain ⟨L, B, hT⟩ := HB5.out.1
          exact ⟨L, B, hT.keep f6⟩
        have HB6 := Lib.hid (And.intro hb6 (And.intro (hI.out.2.1.step o) (And.intro (hI.out.2.2.1.step o HDo.out.2) (HB5.out.2.trans (f6.mono (fun _ _ h => h.elim))))))
        clear hb6 f6
        go_wp2_with fail
        exact ⟨⟨k + 1, d', r', stepD s o, by omega, by omega, by go_num, rfl, rfl, HB6⟩, by simp [intOf]; omega⟩
      · have h2' : decide ((k : Int) < 200) = false := decide_eq_false (by omega)
        have h1' : (k : Int) < len := by omega
        have hfu : Calls Try.prog 19 #[.pointer (some ⟨d, 0, none⟩), .pointer (some ⟨r, 0, none⟩)] wr fun e w' => e = .returned (.bool true) ∧ Frm (fun b => w.heap.size ≤ b) wr w' := by
          obtain ⟨L, B, hT⟩ := hI.out.1
          exact full_any hT hI.out.2.1 hI.out.2.2.1 (by omega) HM.out
        have HFU := Lib.hid hfu
        clear hfu
        go_wp2_with fail
        refine HFU.out.mono ?_
        rintro e w5 ⟨rfl, f5⟩
        have hfin := hI.out.2.2.2.trans f5
        go_wp2_with fail
        go_ret
        exact ⟨rfl, hfin.mono (fun b hb h => absurd hb (Nat.not_lt.2 h))⟩
    · have h1' : decide ((k : Int) < len) = false := decide_eq_false (by omega)
      have hfu : Calls Try.prog 19 #[.pointer (some ⟨d, 0, none⟩), .pointer (some ⟨r, 0, none⟩)] wr fun e w' => e = .returned (.bool true) ∧ Frm (fun b => w.heap.size ≤ b) wr w' := by
        obtain ⟨L, B, hT⟩ := hI.out.1
        exact full_any hT hI.out.2.1 hI.out.2.2.1 (by omega) HM.out
      have HFU := Lib.hid hfu
      clear hfu
      go_wp2_with fail
      refine HFU.out.mono ?_
      rintro e w5 ⟨rfl, f5⟩
      have hfin := hI.out.2.2.2.trans f5
      go_wp2_with fail
      go_ret
      exact ⟨rfl, hfin.mono (fun b hb h => absurd hb (Nat.not_lt.2 h))⟩
end Go.Proofs.Ytngickhakedonaa
