/- A text of a claim's proof: see the last text of the claim. -/
import Derived.Test.YtngickhakedonaaDp10
import Derived.BigQuiet
import Derived.Deep.QuietTactic
import Derived.Deep.RegionHeld3
import Derived.Lib.MinMax
set_option linter.all false
namespace Go.Proofs.Ytngickhakedonaa
open Go.RowKit Go.Tk Go.Dk

set_option maxRecDepth 100000 in
set_option maxHeartbeats 2000000 in
theorem does_3 (o : Op3) (hk : pickI o.kind 15 = 3) {base M : Nat} {w : World} {d r : Nat} {L : PL} {B : Nat → Prop} {s : DS} (h : Two base w d r L B s s) (hfit : Fit s M) (ho : OpOk base M w o) :
    Calls Try.prog 17 #[.pointer (some ⟨d, 0, none⟩), .pointer (some ⟨r, 0, none⟩), opV o] w (DoesQ base w s o) := by
  have HH := Lib.hid (Head.new h ho)
  have HF := Lib.hid hfit
  obtain ⟨b0, b1, b2, b3, b4, b5⟩ := HH.out.box
  have HNM : Hid (∀ w, Calls Try.prog 42 #[.string o.name, .int .i64 o.n] w fun e w' => e = .returned (.string o.nm) ∧ w = w') := Lib.hid (fun w => named_any o.name o.n w ho.n.1 ho.n.2)
  have HTO : Hid (∀ w, Calls Try.prog 42 #[.string o.too, .int .i64 o.torn] w fun e w' => e = .returned (.string o.to) ∧ w = w') := Lib.hid (fun w => named_any o.too o.torn w ho.torn.1 ho.torn.2)
  have HPK : Hid (∀ w, Calls Try.prog 15 #[.int .i64 o.kind, .int .i64 15] w fun e w' => e = .returned (.int .i64 3) ∧ w = w') := Lib.hid (fun w => by
    have := pick03_any o.kind 15 w ho.kind.1 ho.kind.2 (by decide) (by decide)
    rw [hk] at this; exact this)
  have HK := Lib.hid hk
  have hns : o.nm.size ≤ 2305843009213693952 := by have := namedD_size (s := o.name) o.n ho.name; show (namedD o.name o.n).size ≤ _; omega
  have hts : o.to.size ≤ 2305843009213693952 := by have := namedD_size (s := o.too) o.torn ho.too; show (namedD o.too o.torn).size ≤ _; omega
  have HS := Lib.hid (And.intro hns hts)
  have hno := ho.n
  have hto := ho.torn
  clear h hfit ho hk hns hts
  go_enter Try.func17, Try.ntmps17
  go_wp2_with fail
  refine (HNM.out _).mono ?_
  rintro e _ ⟨rfl, rfl⟩
  go_wp2_with fail
  refine (HTO.out _).mono ?_
  rintro e _ ⟨rfl, rfl⟩
  go_wp2_with fail
  refine (HPK.out _).mono ?_
  rintro e _ ⟨rfl, rfl⟩
  clear HNM HTO HPK
  generalize w.alloc (.cells #[.int .i64 o.kind, .string o.name, .string o.too, .slice o.ba o.b.size o.bc, .int .i64 o.n, .int .i64 o.torn] 47) = wo at *
  generalize w.heap.size = c at *
  obtain ⟨D, hD⟩ : ∃ D, doD s 1 o.nm ⟨#[]⟩ ⟨#[]⟩ = D := ⟨_, rfl⟩
  have HD := Lib.hid hD
  go_wp2_with fail
  refine (read_any o.nm ⟨#[]⟩ ⟨#[]⟩ _ HH.out.two.p HF.out.inv (by have := HF.out.n; omega) HS.out.1 (fun k => by have := HF.out.fs k; omega)).mono ?_
  rw [hD]
  rintro e w2 ⟨v, rfl, hbv, hnew, p2, s2⟩
  obtain ⟨bo, bc, rfl, hle⟩ := hbv.slice
  have hst : stepD s o = D.2.2 := by unfold stepD; simp [HK.out]; exact congrArg (fun x => x.2.2) hD
  have HST := Lib.hid hst
  have H2 := Lib.hid (HH.out.pstep p2 s2)
  have hsp2 : ∀ b, (Value.slice bo D.1.size bc).ownBlock = some b → base ≤ b ∧ L.role b = .free ∧ ¬ B b ∧ b ≠ c := fun b hb => HH.out.spare (hnew b hb)
  have HB := Lib.hid (And.intro hbv (And.intro hle hsp2))
  clear hbv hnew p2 s2 hle hsp2 hst hD
  skip
  go_wp2_with fail
  refine (rdo_1 o.nm ⟨#[]⟩ ⟨#[]⟩ _ H2.out.two.q HF.out.wf HS.out.1 (by decide)).mono ?_
  rw [HD.out]
  rintro e w3 ⟨rfl, p3, f3⟩
  have H3 := Lib.hid (H2.out.rstep p3 f3)
  have hbv3 : BV w3 (.slice bo D.1.size bc) D.1 := HB.out.1.frm f3 (fun g hg => (HB.out.2.2 g hg).2.2.1)
  have hown3 : Own w3 bo D.1.size := hbv3.own rfl
  have hcv := conv_reads hbv3.reads bc
  have hsp3 : ∀ b, (Value.slice bo D.1.size bc).ownBlock = some b → base ≤ b ∧ L.role b = .free ∧ ¬ up w2 w3 B b ∧ b ≠ c := fun b hb => spare_up (HB.out.2.2 b hb) (HB.out.1.own_lt hb)
  have HO := Lib.hid (And.intro hown3 hsp3)
  clear p3 f3 hbv3 hown3 hsp3 HD
  obtain ⟨D1, D2, D3⟩ := D
  simp only at *
  have hN : D1.size ≤ 9223372036854775807 := HB.out.1.le
  clear b0 b1 b2 b3 b4 b5
  go_wp2_with fail
  go_loopw [21] (fun i wr => ∃ j : Nat, j ≤ D1.size ∧ i = .int .i64 j ∧ Hid (Frm (fun b => (Value.slice bo D1.size bc).ownBlock = some b) w3 wr ∧ Own wr bo D1.size)) (fun i _ => D1.size - (intOf i).toNat)
  case atStart => exact ⟨0, Nat.zero_le _, rfl, Lib.hid ⟨Frm.refl _ _, HO.out.1⟩⟩
  case round =>
    obtain ⟨j, hj, rfl, hI⟩ := hrel
    by_cases hlt : j < D1.size
    · obtain ⟨g, hg, hfz, hcs⟩ := hI.out.2.at_ (by omega)
      subst hg
      obtain ⟨u, hu⟩ := hcs j hlt
      have i1 : (0 : Int) ≤ j := by omega
      have i2 : (j : Int) < D1.size := by omega
      have hfz' := hfz j
      clear hcs
      go_wp2_with fail
      exact ⟨⟨j + 1, by omega, by go_num, Lib.hid ⟨hI.out.1.setCell (p := ⟨g, j, none⟩) (fun _ => rfl) _, hI.out.2.set _ _⟩⟩, by simp [intOf]; omega⟩
    · have i2 : decide ((j : Int) < D1.size) = false := decide_eq_false (by omega)
      have H4 := Lib.hid (H3.out.own hI.out.1 HO.out.2)
      go_wp2_with fail
      go_ret3
      exact H4.out.done HST.out
end Go.Proofs.Ytngickhakedonaa
