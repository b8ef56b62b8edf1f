/- A text of a claim's proof: see the last text of the claim. -/
import Derived.Test.YtngickhakedonaaDp10
import Derived.BigQuiet
import Derived.Deep.QuietTactic
import Derived.Deep.RegionHeld3
import Derived.Lib.MinMax
set_option linter.all false
namespace Go.Proofs.Ytngickhakedonaa
open Go.RowKit Go.Tk Go.Dk

set_option maxRecDepth 100000 in
set_option maxHeartbeats 2000000 in
theorem does_12 (o : Op3) (hk : pickI o.kind 15 = 12) {base M : Nat} {w : World} {d r : Nat} {L : PL} {B : Nat → Prop} {s : DS} (h : Two base w d r L B s s) (hfit : Fit s M) (ho : OpOk base M w o) :
    Calls Try.prog 17 #[.pointer (some ⟨d, 0, none⟩), .pointer (some ⟨r, 0, none⟩), opV o] w (DoesQ base w s o) := by
  have HH := Lib.hid (Head.new h ho)
  have HF := Lib.hid hfit
  obtain ⟨b0, b1, b2, b3, b4, b5⟩ := HH.out.box
  have HNM : Hid (∀ w, Calls Try.prog 42 #[.string o.name, .int .i64 o.n] w fun e w' => e = .returned (.string o.nm) ∧ w = w') := Lib.hid (fun w => named_any o.name o.n w ho.n.1 ho.n.2)
  have HTO : Hid (∀ w, Calls Try.prog 42 #[.string o.too, .int .i64 o.torn] w fun e w' => e = .returned (.string o.to) ∧ w = w') := Lib.hid (fun w => named_any o.too o.torn w ho.torn.1 ho.torn.2)
  have HPK : Hid (∀ w, Calls Try.prog 15 #[.int .i64 o.kind, .int .i64 15] w fun e w' => e = .returned (.int .i64 12) ∧ w = w') := Lib.hid (fun w => by
    have := pick03_any o.kind 15 w ho.kind.1 ho.kind.2 (by decide) (by decide)
    rw [hk] at this; exact this)
  have HK := Lib.hid hk
  have hns : o.nm.size ≤ 2305843009213693952 := by have := namedD_size (s := o.name) o.n ho.name; show (namedD o.name o.n).size ≤ _; omega
  have hts : o.to.size ≤ 2305843009213693952 := by have := namedD_size (s := o.too) o.torn ho.too; show (namedD o.too o.torn).size ≤ _; omega
  have HS := Lib.hid (And.intro hns hts)
  have hno := ho.n
  have hto := ho.torn
  clear h hfit ho hk hns hts
  go_enter Try.func17, Try.ntmps17
  go_wp2_with fail
  refine (HNM.out _).mono ?_
  rintro e _ ⟨rfl, rfl⟩
  go_wp2_with fail
  refine (HTO.out _).mono ?_
  rintro e _ ⟨rfl, rfl⟩
  go_wp2_with fail
  refine (HPK.out _).mono ?_
  rintro e _ ⟨rfl, rfl⟩
  clear HNM HTO HPK
  generalize w.alloc (.cells #[.int .i64 o.kind, .string o.name, .string o.too, .slice o.ba o.b.size o.bc, .int .i64 o.n, .int .i64 o.torn] 47) = wo at *
  generalize w.heap.size = c at *
  obtain ⟨b, hb⟩ : ∃ b : Nat, b = (o.torn % 256).toNat := ⟨_, rfl⟩
  have hb1 : IntKind.u8.wrap o.torn = (b : Int) := by
    rw [hb]
    show o.torn % 256 = _
    omega
  have hb2 : b < 256 := by omega
  obtain ⟨D, hD⟩ : ∃ D, turnD s o.nm o.n b = D := ⟨_, rfl⟩
  have hst : stepD s o = D.2 := by unfold stepD; simp [HK.out]; rw [← hb, hD]
  have HST := Lib.hid hst
  have hP : ∀ wx, Frm (fun _ => False) wo wx → Calls Try.prog 37 #[.pointer (some ⟨d, 0, none⟩), .string o.nm, .int .i64 o.n, .int .u8 b] wx fun e w' => e = .returned (.int .i64 D.1) ∧ ∃ L', PD w' d L' D.2 ∧ PStep wx w' L L' := fun wx hx => by
    have := turnb_any o.nm o.n b hb2 wx (HH.out.two.p.keep hx) HF.out.inv (fun k => by have := HF.out.fs k; omega) hno.1 hno.2
    rw [hD] at this; exact this
  have hR : ∀ wx, RX wx r B s → Calls Try.prog 45 #[.pointer (some ⟨r, 0, none⟩), .string o.nm, .int .i64 o.n, .int .u8 b] wx fun e w' => e = .returned (.int .i64 D.1) ∧ RX w' r B D.2 ∧ Frm B wx w' := fun wx hx => by
    have := rturn_any o.nm o.n b hb2 wx hx HF.out.wf hno.1 hno.2
    rw [hD] at this; exact this
  have HPR := Lib.hid (And.intro hP hR)
  clear hP hR hst hD hb
  obtain ⟨D1, D2⟩ := D
  simp only at *
  have q4 := b4
  have q5 := b5
  go_wp2_with fail
  go_region_held3 (fun w' => w'.cell? ⟨c, 4, none⟩ = some (.int .i64 o.n) ∧ w'.cell? ⟨c, 5, none⟩ = some (.int .i64 o.torn)) (first | exact ⟨q4, q5⟩ | exact Hb2.out | exact Hb3.out) (first
    | (go_at_call 37; refine (HPR.out.1 wo.drew (Frm.refl _ _).drew).mono ?_; rintro e w2 ⟨rfl, L2, p2, s2⟩; have H2 := Lib.hid ((HH.out.keep (Frm.refl _ _).drew).pstep p2 s2); have Hb2 := Lib.hid (And.intro H2.out.box.b4 H2.out.box.b5); clear p2 s2)
    | (go_at_call 45; refine (HPR.out.2 w2 H2.out.two.q).mono ?_; rintro e w3 ⟨rfl, p3, f3⟩; have H3 := Lib.hid (H2.out.rsame p3 f3); have Hb3 := Lib.hid (And.intro H3.out.box.b4 H3.out.box.b5); clear p3 f3))
  go_wp2_with fail
  go_ret3
  exact H3.out.done HST.out
end Go.Proofs.Ytngickhakedonaa
