/- A text of a claim's proof: see the last text of the claim. -/
import Derived.Test.YtngickhakedonaaDp10
import Derived.BigQuiet
import Derived.Deep.QuietTactic
import Derived.Deep.RegionHeld3
import Derived.Lib.MinMax
set_option linter.all false
namespace Go.Proofs.Ytngickhakedonaa
open Go.RowKit Go.Tk Go.Dk

theorem RX.n_cell {w : World} {r : Nat} {B : Nat → Prop} {s : DS} (h : RX w r B s) : w.cell? ⟨r, 5, none⟩ = some (.int .i64 s.n) := by
  obtain ⟨_, _, _, _, _, h, _⟩ := h
  exact h.c5
theorem RX.set_room {w : World} {r : Nat} {B : Nat → Prop} {s : DS} (h : RX w r B s) (n : Int) : w.cell? ⟨r, 4, none⟩ = some (.int .i64 s.room) ∧ (∀ o, w.frozen? ⟨r, o, none⟩ = false) ∧ RX (w.setCell ⟨r, 4, none⟩ (.int .i64 n)) r B { s with room := n } ∧ Frm B w (w.setCell ⟨r, 4, none⟩ (.int .i64 n)) := by
  obtain ⟨vf, vd, vs, va, vn, h, h0, h1, h2, h3, h4, h5⟩ := h
  exact ⟨h.c4, h.fz.frozen, ⟨vf, vd, vs, va, vn, RD.set_room h n, h0, h1, h2, h3, h4, h5⟩, (Frm.refl B w).setCell (p := ⟨r, 4, none⟩) (fun _ => h0) _⟩

set_option maxRecDepth 100000 in
set_option maxHeartbeats 2000000 in
theorem does_9a (o : Op3) (hk : pickI o.kind 15 = 9) {base M : Nat} {w : World} {d r : Nat} {L : PL} {B : Nat → Prop} {s : DS} (h : Two base w d r L B s s) (hfit : Fit s M) (ho : OpOk base M w o) (hneg : o.n < 0) :
    Calls Try.prog 17 #[.pointer (some ⟨d, 0, none⟩), .pointer (some ⟨r, 0, none⟩), opV o] w (DoesQ base w s o) := by
  have HH := Lib.hid (Head.new h ho)
  have HF := Lib.hid hfit
  obtain ⟨b0, b1, b2, b3, b4, b5⟩ := HH.out.box
  have HNM : Hid (∀ w, Calls Try.prog 42 #[.string o.name, .int .i64 o.n] w fun e w' => e = .returned (.string o.nm) ∧ w = w') := Lib.hid (fun w => named_any o.name o.n w ho.n.1 ho.n.2)
  have HTO : Hid (∀ w, Calls Try.prog 42 #[.string o.too, .int .i64 o.torn] w fun e w' => e = .returned (.string o.to) ∧ w = w') := Lib.hid (fun w => named_any o.too o.torn w ho.torn.1 ho.torn.2)
  have HPK : Hid (∀ w, Calls Try.prog 15 #[.int .i64 o.kind, .int .i64 15] w fun e w' => e = .returned (.int .i64 9) ∧ w = w') := Lib.hid (fun w => by
    have := pick03_any o.kind 15 w ho.kind.1 ho.kind.2 (by decide) (by decide)
    rw [hk] at this; exact this)
  have HK := Lib.hid hk
  have hns : o.nm.size ≤ 2305843009213693952 := by have := namedD_size (s := o.name) o.n ho.name; show (namedD o.name o.n).size ≤ _; omega
  have hts : o.to.size ≤ 2305843009213693952 := by have := namedD_size (s := o.too) o.torn ho.too; show (namedD o.too o.torn).size ≤ _; omega
  have HS := Lib.hid (And.intro hns hts)
  have hno := ho.n
  have hto := ho.torn
  clear h hfit ho hk hns hts
  go_enter Try.func17, Try.ntmps17
  go_wp2_with fail
  refine (HNM.out _).mono ?_
  rintro e _ ⟨rfl, rfl⟩
  go_wp2_with fail
  refine (HTO.out _).mono ?_
  rintro e _ ⟨rfl, rfl⟩
  go_wp2_with fail
  refine (HPK.out _).mono ?_
  rintro e _ ⟨rfl, rfl⟩
  clear HNM HTO HPK
  generalize w.alloc (.cells #[.int .i64 o.kind, .string o.name, .string o.too, .slice o.ba o.b.size o.bc, .int .i64 o.n, .int .i64 o.torn] 47) = wo at *
  generalize w.heap.size = c at *
  have t1 : decide (0 ≤ o.n) = false := decide_eq_false (by omega)
  have hst : stepD s o = { s with off := false, cut := -1 } := by
    unfold stepD
    simp only [HK.out]
    simp only [show ¬ (0 ≤ o.n) by omega, if_false]
    rfl
  have HST := Lib.hid hst
  clear hst hneg
  go_wp2_with fail
  refine (cut_any (-1) _ HH.out.two.p).mono ?_
  rintro e w2 ⟨rfl, p2, f2⟩
  have H2 := Lib.hid (HH.out.pd p2 f2)
  clear p2 f2
  go_wp2_with fail
  refine (rcut_any (-1) _ H2.out.two.q).mono ?_
  rintro e w3 ⟨rfl, p3, f3⟩
  have H3 := Lib.hid (H2.out.rsame p3 f3)
  clear p3 f3
  go_wp2_with fail
  go_ret3
  exact H3.out.done HST.out

set_option maxRecDepth 100000 in
set_option maxHeartbeats 2000000 in
theorem does_9b (o : Op3) (hk : pickI o.kind 15 = 9) {base M : Nat} {w : World} {d r : Nat} {L : PL} {B : Nat → Prop} {s : DS} (h : Two base w d r L B s s) (hfit : Fit s M) (ho : OpOk base M w o) (hneg : 0 ≤ o.n) :
    Calls Try.prog 17 #[.pointer (some ⟨d, 0, none⟩), .pointer (some ⟨r, 0, none⟩), opV o] w (DoesQ base w s o) := by
  have HH := Lib.hid (Head.new h ho)
  have HF := Lib.hid hfit
  obtain ⟨b0, b1, b2, b3, b4, b5⟩ := HH.out.box
  have HNM : Hid (∀ w, Calls Try.prog 42 #[.string o.name, .int .i64 o.n] w fun e w' => e = .returned (.string o.nm) ∧ w = w') := Lib.hid (fun w => named_any o.name o.n w ho.n.1 ho.n.2)
  have HTO : Hid (∀ w, Calls Try.prog 42 #[.string o.too, .int .i64 o.torn] w fun e w' => e = .returned (.string o.to) ∧ w = w') := Lib.hid (fun w => named_any o.too o.torn w ho.torn.1 ho.torn.2)
  have HPK : Hid (∀ w, Calls Try.prog 15 #[.int .i64 o.kind, .int .i64 15] w fun e w' => e = .returned (.int .i64 9) ∧ w = w') := Lib.hid (fun w => by
    have := pick03_any o.kind 15 w ho.kind.1 ho.kind.2 (by decide) (by decide)
    rw [hk] at this; exact this)
  have HK := Lib.hid hk
  have hns : o.nm.size ≤ 2305843009213693952 := by have := namedD_size (s := o.name) o.n ho.name; show (namedD o.name o.n).size ≤ _; omega
  have hts : o.to.size ≤ 2305843009213693952 := by have := namedD_size (s := o.too) o.torn ho.too; show (namedD o.too o.torn).size ≤ _; omega
  have HS := Lib.hid (And.intro hns hts)
  have hno := ho.n
  have hto := ho.torn
  clear h hfit ho hk hns hts
  go_enter Try.func17, Try.ntmps17
  go_wp2_with fail
  refine (HNM.out _).mono ?_
  rintro e _ ⟨rfl, rfl⟩
  go_wp2_with fail
  refine (HTO.out _).mono ?_
  rintro e _ ⟨rfl, rfl⟩
  go_wp2_with fail
  refine (HPK.out _).mono ?_
  rintro e _ ⟨rfl, rfl⟩
  clear HNM HTO HPK
  generalize w.alloc (.cells #[.int .i64 o.kind, .string o.name, .string o.too, .slice o.ba o.b.size o.bc, .int .i64 o.n, .int .i64 o.torn] 47) = wo at *
  generalize w.heap.size = c at *
  have hst : stepD s o = { s with off := false, cut := s.n + o.n.tmod 20 } := by
    unfold stepD
    simp only [HK.out]
    simp only [hneg, if_true]
    rfl
  have HST := Lib.hid hst
  have c5r := RX.n_cell HH.out.two.q
  have hsn := HF.out.n
  obtain ⟨m, hm⟩ : ∃ m, m = o.n.tmod 20 := ⟨_, rfl⟩
  have hm1 : 0 ≤ m ∧ m < 20 := by rw [hm, Int.tmod_eq_emod_of_nonneg hneg]; omega
  have hw : IntKind.i64.wrap ((s.n : Int) + o.n.tmod 20) = (s.n : Int) + m := by rw [← hm]; exact IntWalk.i64_in _ (by omega)
  have hw2 : IntKind.i64.wrap ((s.n : Int) + m) = (s.n : Int) + m := IntWalk.i64_in _ (by omega)
  have HW := Lib.hid (And.intro hw hw2)
  rw [← hm] at HST
  have HM := Lib.hid hm
  clear hst hm hw hw2
  go_wp2_with fail
  go_region_held3 (fun w' => w'.cell? ⟨r, 5, none⟩ = some (.int .i64 s.n) ∧ w'.cell? ⟨c, 4, none⟩ = some (.int .i64 o.n)) (exact ⟨c5r, b4⟩) (fail)
  rw [HW.out.1]
  go_wp2_with fail
  refine (cut_any ((s.n : Int) + m) _ (HH.out.keep ((Frm.refl _ _).drewN _)).two.p).mono ?_
  rintro e w2 ⟨rfl, p2, f2⟩
  have H2 := Lib.hid ((HH.out.keep ((Frm.refl _ _).drewN _)).pd p2 f2)
  clear p2 f2
  go_wp2_with fail
  refine (rcut_any ((s.n : Int) + m) _ H2.out.two.q).mono ?_
  rintro e w3 ⟨rfl, p3, f3⟩
  have H3 := Lib.hid (H2.out.rsame p3 f3)
  clear p3 f3
  go_wp2_with fail
  go_ret3
  exact H3.out.done HST.out

set_option maxRecDepth 100000 in
set_option maxHeartbeats 2000000 in
theorem does_11 (o : Op3) (hk : pickI o.kind 15 = 11) {base M : Nat} {w : World} {d r : Nat} {L : PL} {B : Nat → Prop} {s : DS} (h : Two base w d r L B s s) (hfit : Fit s M) (ho : OpOk base M w o) :
    Calls Try.prog 17 #[.pointer (some ⟨d, 0, none⟩), .pointer (some ⟨r, 0, none⟩), opV o] w (DoesQ base w s o) := by
  have HH := Lib.hid (Head.new h ho)
  have HF := Lib.hid hfit
  obtain ⟨b0, b1, b2, b3, b4, b5⟩ := HH.out.box
  have HNM : Hid (∀ w, Calls Try.prog 42 #[.string o.name, .int .i64 o.n] w fun e w' => e = .returned (.string o.nm) ∧ w = w') := Lib.hid (fun w => named_any o.name o.n w ho.n.1 ho.n.2)
  have HTO : Hid (∀ w, Calls Try.prog 42 #[.string o.too, .int .i64 o.torn] w fun e w' => e = .returned (.string o.to) ∧ w = w') := Lib.hid (fun w => named_any o.too o.torn w ho.torn.1 ho.torn.2)
  have HPK : Hid (∀ w, Calls Try.prog 15 #[.int .i64 o.kind, .int .i64 15] w fun e w' => e = .returned (.int .i64 11) ∧ w = w') := Lib.hid (fun w => by
    have := pick03_any o.kind 15 w ho.kind.1 ho.kind.2 (by decide) (by decide)
    rw [hk] at this; exact this)
  have HK := Lib.hid hk
  have hns : o.nm.size ≤ 2305843009213693952 := by have := namedD_size (s := o.name) o.n ho.name; show (namedD o.name o.n).size ≤ _; omega
  have hts : o.to.size ≤ 2305843009213693952 := by have := namedD_size (s := o.too) o.torn ho.too; show (namedD o.too o.torn).size ≤ _; omega
  have HS := Lib.hid (And.intro hns hts)
  have hno := ho.n
  have hto := ho.torn
  clear h hfit ho hk hns hts
  go_enter Try.func17, Try.ntmps17
  go_wp2_with fail
  refine (HNM.out _).mono ?_
  rintro e _ ⟨rfl, rfl⟩
  go_wp2_with fail
  refine (HTO.out _).mono ?_
  rintro e _ ⟨rfl, rfl⟩
  go_wp2_with fail
  refine (HPK.out _).mono ?_
  rintro e _ ⟨rfl, rfl⟩
  clear HNM HTO HPK
  generalize w.alloc (.cells #[.int .i64 o.kind, .string o.name, .string o.too, .slice o.ba o.b.size o.bc, .int .i64 o.n, .int .i64 o.torn] 47) = wo at *
  generalize w.heap.size = c at *
  have hst : stepD s o = { s with room := max o.n 0 } := by unfold stepD; simp [HK.out]
  have HST := Lib.hid hst
  clear hst
  go_wp2_with fail
  refine (room_any o.n _ HH.out.two.p).mono ?_
  rintro e w2 ⟨rfl, p2, f2⟩
  have H2 := Lib.hid (HH.out.pd p2 f2)
  obtain ⟨c4r, fzr, hset⟩ := RX.set_room H2.out.two.q (max o.n 0)
  have q4 := H2.out.box.b4
  have H3 := Lib.hid (H2.out.rsame hset.1 hset.2)
  clear p2 f2 hset
  go_wp2_with fail
  go_ret3
  exact H3.out.done HST.out
end Go.Proofs.Ytngickhakedonaa
