/- A text of a claim's proof: see the last text of the claim. -/
import Derived.Test.YtngickhakedonaaDp10
import Derived.Test.YtngickhakedonaaDp12
import Derived.BigQuiet
import Derived.Deep.QuietTactic
import Derived.Deep.RegionHeld3
import Derived.Lib.MinMax
set_option linter.all false
namespace Go.Proofs.Ytngickhakedonaa
open Go.RowKit Go.Tk Go.Dk

set_option maxRecDepth 100000 in
set_option maxHeartbeats 2000000 in
theorem does_13 (o : Op3) (hk : pickI o.kind 15 = 13) {base M : Nat} {w : World} {d r : Nat} {L : PL} {B : Nat → Prop} {s : DS} (h : Two base w d r L B s s) (hfit : Fit s M) (ho : OpOk base M w o) :
    Calls Try.prog 17 #[.pointer (some ⟨d, 0, none⟩), .pointer (some ⟨r, 0, none⟩), opV o] w (DoesQ base w s o) := by
  have HH := Lib.hid (Head.new h ho)
  have HF := Lib.hid hfit
  obtain ⟨b0, b1, b2, b3, b4, b5⟩ := HH.out.box
  have HNM : Hid (∀ w, Calls Try.prog 42 #[.string o.name, .int .i64 o.n] w fun e w' => e = .returned (.string o.nm) ∧ w = w') := Lib.hid (fun w => named_any o.name o.n w ho.n.1 ho.n.2)
  have HTO : Hid (∀ w, Calls Try.prog 42 #[.string o.too, .int .i64 o.torn] w fun e w' => e = .returned (.string o.to) ∧ w = w') := Lib.hid (fun w => named_any o.too o.torn w ho.torn.1 ho.torn.2)
  have HPK : Hid (∀ w, Calls Try.prog 15 #[.int .i64 o.kind, .int .i64 15] w fun e w' => e = .returned (.int .i64 13) ∧ w = w') := Lib.hid (fun w => by
    have := pick03_any o.kind 15 w ho.kind.1 ho.kind.2 (by decide) (by decide)
    rw [hk] at this; exact this)
  have HK := Lib.hid hk
  have hns : o.nm.size ≤ 2305843009213693952 := by have := namedD_size (s := o.name) o.n ho.name; show (namedD o.name o.n).size ≤ _; omega
  have hts : o.to.size ≤ 2305843009213693952 := by have := namedD_size (s := o.too) o.torn ho.too; show (namedD o.too o.torn).size ≤ _; omega
  have HS := Lib.hid (And.intro hns hts)
  have hno := ho.n
  have hto := ho.torn
  clear h hfit ho hk hns hts
  go_enter Try.func17, Try.ntmps17
  go_wp2_with fail
  refine (HNM.out _).mono ?_
  rintro e _ ⟨rfl, rfl⟩
  go_wp2_with fail
  refine (HTO.out _).mono ?_
  rintro e _ ⟨rfl, rfl⟩
  go_wp2_with fail
  refine (HPK.out _).mono ?_
  rintro e _ ⟨rfl, rfl⟩
  clear HNM HTO HPK
  generalize w.alloc (.cells #[.int .i64 o.kind, .string o.name, .string o.too, .slice o.ba o.b.size o.bc, .int .i64 o.n, .int .i64 o.torn] 47) = wo at *
  generalize w.heap.size = c at *
  have hst : stepD s o = crashD s o.n o.torn := by unfold stepD; simp [HK.out]
  have HST := Lib.hid hst
  have hP : ∀ wx, Frm (fun _ => False) wo wx → Calls Try.prog 28 #[.pointer (some ⟨d, 0, none⟩), .int .i64 o.n, .int .i64 o.torn] wx fun e w' => ∃ X Lx, e = .returned (.pointer (some ⟨X, 0, none⟩)) ∧ PD w' X Lx (crashD s o.n o.torn) ∧ Frm (fun _ => False) wx w' ∧ (∀ b, Lx.role b ≠ .free → wx.heap.size ≤ b) := fun wx hx =>
    crash_any o.n o.torn wx (HH.out.two.p.keep hx) HF.out.inv (by have := HF.out.al; omega) (fun k => by have := HF.out.fs k; omega) HF.out.room hno.1 hno.2 hto.1 hto.2
  have hR : ∀ wx, Frm (fun _ => False) wo wx → Calls Try.prog 46 #[.pointer (some ⟨r, 0, none⟩), .int .i64 o.n, .int .i64 o.torn] wx fun e w' => ∃ x, e = .returned (.pointer (some ⟨x, 0, none⟩)) ∧ RX w' x (fun b => B b ∨ wx.heap.size ≤ b) (crashD s o.n o.torn) ∧ Frm (fun _ => False) wx w' := fun wx hx =>
    rcrash_any o.n o.torn wx (RX.keep HH.out.two.q hx) HF.out.inv (by have := HF.out.al; omega) (by have := HF.out.fl; omega) (by have := HF.out.sl; omega) (fun k => by have := HF.out.fs k; omega) hno.1 hno.2 hto.1 hto.2
  have HPR := Lib.hid (And.intro hP hR)
  clear hP hR hst
  generalize crashD s o.n o.torn = S at *
  have q4 := b4
  have q5 := b5
  go_wp2_with fail
  go_region_held3 (fun w' => w'.cell? ⟨c, 4, none⟩ = some (.int .i64 o.n) ∧ w'.cell? ⟨c, 5, none⟩ = some (.int .i64 o.torn)) (first | exact ⟨q4, q5⟩ | exact Hb2.out | exact Hb3.out) (first
    | (go_at_call 28; refine (HPR.out.1 wo.drew (Frm.refl _ _).drew).mono ?_; rintro e w2 ⟨X, Lx, rfl, p2, f2, r2⟩; have H2 := Lib.hid (And.intro p2 (And.intro ((Frm.refl (fun _ => False) wo).drew.trans f2) r2)); have Hb2 := Lib.hid (And.intro (HH.out.keep H2.out.2.1).box.b4 (HH.out.keep H2.out.2.1).box.b5); clear p2 f2 r2)
    | (go_at_call 46; refine (HPR.out.2 w2 H2.out.2.1).mono ?_; rintro e w3 ⟨x, rfl, p3, f3⟩; have H3 := Lib.hid (And.intro p3 f3); have Hb3 := Lib.hid (And.intro (HH.out.keep (H2.out.2.1.trans f3)).box.b4 (HH.out.keep (H2.out.2.1.trans f3)).box.b5); clear p3 f3))
  go_wp2_with fail
  go_ret3
  exact ⟨X, x, rfl, by rw [HST.out]; exact ⟨_, _, HH.out.two.crash H2.out.2.1 H2.out.1 H2.out.2.2 H3.out.2 H3.out.1⟩, HH.out.frm.trans ((H2.out.2.1.trans H3.out.2).mono (fun _ _ h => h.elim))⟩
end Go.Proofs.Ytngickhakedonaa
