/- A text of a claim's proof: see the last text of the claim. -/
import Derived.Test.YtngickhakedonaaDp10
import Derived.BigQuiet
import Derived.Deep.QuietTactic
import Derived.Deep.RegionHeld3
import Derived.Lib.MinMax
set_option linter.all false
namespace Go.Proofs.Ytngickhakedonaa
open Go.RowKit Go.Tk Go.Dk

set_option maxRecDepth 100000 in
set_option maxHeartbeats 2000000 in
theorem does_4 (o : Op3) (hk : pickI o.kind 15 = 4) {base M : Nat} {w : World} {d r : Nat} {L : PL} {B : Nat → Prop} {s : DS} (h : Two base w d r L B s s) (hfit : Fit s M) (ho : OpOk base M w o) :
    Calls Try.prog 17 #[.pointer (some ⟨d, 0, none⟩), .pointer (some ⟨r, 0, none⟩), opV o] w (DoesQ base w s o) := by
  have HH := Lib.hid (Head.new h ho)
  have HF := Lib.hid hfit
  obtain ⟨b0, b1, b2, b3, b4, b5⟩ := HH.out.box
  have HNM : Hid (∀ w, Calls Try.prog 42 #[.string o.name, .int .i64 o.n] w fun e w' => e = .returned (.string o.nm) ∧ w = w') := Lib.hid (fun w => named_any o.name o.n w ho.n.1 ho.n.2)
  have HTO : Hid (∀ w, Calls Try.prog 42 #[.string o.too, .int .i64 o.torn] w fun e w' => e = .returned (.string o.to) ∧ w = w') := Lib.hid (fun w => named_any o.too o.torn w ho.torn.1 ho.torn.2)
  have HPK : Hid (∀ w, Calls Try.prog 15 #[.int .i64 o.kind, .int .i64 15] w fun e w' => e = .returned (.int .i64 4) ∧ w = w') := Lib.hid (fun w => by
    have := pick03_any o.kind 15 w ho.kind.1 ho.kind.2 (by decide) (by decide)
    rw [hk] at this; exact this)
  have HK := Lib.hid hk
  have hns : o.nm.size ≤ 2305843009213693952 := by have := namedD_size (s := o.name) o.n ho.name; show (namedD o.name o.n).size ≤ _; omega
  have hts : o.to.size ≤ 2305843009213693952 := by have := namedD_size (s := o.too) o.torn ho.too; show (namedD o.too o.torn).size ≤ _; omega
  have HS := Lib.hid (And.intro hns hts)
  have hno := ho.n
  have hto := ho.torn
  clear h hfit ho hk hns hts
  go_enter Try.func17, Try.ntmps17
  go_wp2_with fail
  refine (HNM.out _).mono ?_
  rintro e _ ⟨rfl, rfl⟩
  go_wp2_with fail
  refine (HTO.out _).mono ?_
  rintro e _ ⟨rfl, rfl⟩
  go_wp2_with fail
  refine (HPK.out _).mono ?_
  rintro e _ ⟨rfl, rfl⟩
  clear HNM HTO HPK
  generalize w.alloc (.cells #[.int .i64 o.kind, .string o.name, .string o.too, .slice o.ba o.b.size o.bc, .int .i64 o.n, .int .i64 o.torn] 47) = wo at *
  generalize w.heap.size = c at *
  obtain ⟨D, hD⟩ : ∃ D, doD s 2 o.nm ⟨#[]⟩ ⟨#[]⟩ = D := ⟨_, rfl⟩
  have hst : stepD s o = D.2.2 := by unfold stepD; simp [HK.out]; exact congrArg (fun x => x.2.2) hD
  have HST := Lib.hid hst
  have HD := Lib.hid hD
  clear hst hD
  go_wp2_with fail
  refine (rdo_2 o.nm ⟨#[]⟩ ⟨#[]⟩ _ HH.out.two.q HF.out.wf HS.out.1 (by decide)).mono ?_
  rw [HD.out]
  rintro e w2 ⟨rfl, p2, f2⟩
  have H2 := Lib.hid (HH.out.rstep p2 f2)
  clear p2 f2
  go_wp2_with fail
  refine (sync_any o.nm ⟨#[]⟩ ⟨#[]⟩ _ H2.out.two.p HF.out.inv (by have := HF.out.n; omega) HS.out.1 (by have := HF.out.al; omega)).mono ?_
  rw [HD.out]
  rintro e w3 ⟨rfl, L3, p3, s3⟩
  have H3 := Lib.hid (H2.out.pstep p3 s3)
  clear p3 s3 HD
  obtain ⟨D1, D2, D3⟩ := D
  simp only at *
  go_wp2_with fail
  go_ret3
  exact H3.out.done HST.out

set_option maxRecDepth 100000 in
set_option maxHeartbeats 2000000 in
theorem does_5 (o : Op3) (hk : pickI o.kind 15 = 5) {base M : Nat} {w : World} {d r : Nat} {L : PL} {B : Nat → Prop} {s : DS} (h : Two base w d r L B s s) (hfit : Fit s M) (ho : OpOk base M w o) :
    Calls Try.prog 17 #[.pointer (some ⟨d, 0, none⟩), .pointer (some ⟨r, 0, none⟩), opV o] w (DoesQ base w s o) := by
  have HH := Lib.hid (Head.new h ho)
  have HF := Lib.hid hfit
  obtain ⟨b0, b1, b2, b3, b4, b5⟩ := HH.out.box
  have HNM : Hid (∀ w, Calls Try.prog 42 #[.string o.name, .int .i64 o.n] w fun e w' => e = .returned (.string o.nm) ∧ w = w') := Lib.hid (fun w => named_any o.name o.n w ho.n.1 ho.n.2)
  have HTO : Hid (∀ w, Calls Try.prog 42 #[.string o.too, .int .i64 o.torn] w fun e w' => e = .returned (.string o.to) ∧ w = w') := Lib.hid (fun w => named_any o.too o.torn w ho.torn.1 ho.torn.2)
  have HPK : Hid (∀ w, Calls Try.prog 15 #[.int .i64 o.kind, .int .i64 15] w fun e w' => e = .returned (.int .i64 5) ∧ w = w') := Lib.hid (fun w => by
    have := pick03_any o.kind 15 w ho.kind.1 ho.kind.2 (by decide) (by decide)
    rw [hk] at this; exact this)
  have HK := Lib.hid hk
  have hns : o.nm.size ≤ 2305843009213693952 := by have := namedD_size (s := o.name) o.n ho.name; show (namedD o.name o.n).size ≤ _; omega
  have hts : o.to.size ≤ 2305843009213693952 := by have := namedD_size (s := o.too) o.torn ho.too; show (namedD o.too o.torn).size ≤ _; omega
  have HS := Lib.hid (And.intro hns hts)
  have hno := ho.n
  have hto := ho.torn
  clear h hfit ho hk hns hts
  go_enter Try.func17, Try.ntmps17
  go_wp2_with fail
  refine (HNM.out _).mono ?_
  rintro e _ ⟨rfl, rfl⟩
  go_wp2_with fail
  refine (HTO.out _).mono ?_
  rintro e _ ⟨rfl, rfl⟩
  go_wp2_with fail
  refine (HPK.out _).mono ?_
  rintro e _ ⟨rfl, rfl⟩
  clear HNM HTO HPK
  generalize w.alloc (.cells #[.int .i64 o.kind, .string o.name, .string o.too, .slice o.ba o.b.size o.bc, .int .i64 o.n, .int .i64 o.torn] 47) = wo at *
  generalize w.heap.size = c at *
  obtain ⟨D, hD⟩ : ∃ D, doD s 2 o.nm ⟨#[]⟩ ⟨#[]⟩ = D := ⟨_, rfl⟩
  have hst : stepD s o = D.2.2 := by unfold stepD; simp [HK.out]; exact congrArg (fun x => x.2.2) hD
  have HST := Lib.hid hst
  have HD := Lib.hid hD
  clear hst hD
  go_wp2_with fail
  refine (rdo_2 o.nm ⟨#[]⟩ ⟨#[]⟩ _ HH.out.two.q HF.out.wf HS.out.1 (by decide)).mono ?_
  rw [HD.out]
  rintro e w2 ⟨rfl, p2, f2⟩
  have H2 := Lib.hid (HH.out.rstep p2 f2)
  clear p2 f2
  go_wp2_with fail
  refine (sync_any o.nm ⟨#[]⟩ ⟨#[]⟩ _ H2.out.two.p HF.out.inv (by have := HF.out.n; omega) HS.out.1 (by have := HF.out.al; omega)).mono ?_
  rw [HD.out]
  rintro e w3 ⟨rfl, L3, p3, s3⟩
  have H3 := Lib.hid (H2.out.pstep p3 s3)
  clear p3 s3 HD
  obtain ⟨D1, D2, D3⟩ := D
  simp only at *
  go_wp2_with fail
  go_ret3
  exact H3.out.done HST.out

set_option maxRecDepth 100000 in
set_option maxHeartbeats 2000000 in
theorem does_6 (o : Op3) (hk : pickI o.kind 15 = 6) {base M : Nat} {w : World} {d r : Nat} {L : PL} {B : Nat → Prop} {s : DS} (h : Two base w d r L B s s) (hfit : Fit s M) (ho : OpOk base M w o) :
    Calls Try.prog 17 #[.pointer (some ⟨d, 0, none⟩), .pointer (some ⟨r, 0, none⟩), opV o] w (DoesQ base w s o) := by
  have HH := Lib.hid (Head.new h ho)
  have HF := Lib.hid hfit
  obtain ⟨b0, b1, b2, b3, b4, b5⟩ := HH.out.box
  have HNM : Hid (∀ w, Calls Try.prog 42 #[.string o.name, .int .i64 o.n] w fun e w' => e = .returned (.string o.nm) ∧ w = w') := Lib.hid (fun w => named_any o.name o.n w ho.n.1 ho.n.2)
  have HTO : Hid (∀ w, Calls Try.prog 42 #[.string o.too, .int .i64 o.torn] w fun e w' => e = .returned (.string o.to) ∧ w = w') := Lib.hid (fun w => named_any o.too o.torn w ho.torn.1 ho.torn.2)
  have HPK : Hid (∀ w, Calls Try.prog 15 #[.int .i64 o.kind, .int .i64 15] w fun e w' => e = .returned (.int .i64 6) ∧ w = w') := Lib.hid (fun w => by
    have := pick03_any o.kind 15 w ho.kind.1 ho.kind.2 (by decide) (by decide)
    rw [hk] at this; exact this)
  have HK := Lib.hid hk
  have hns : o.nm.size ≤ 2305843009213693952 := by have := namedD_size (s := o.name) o.n ho.name; show (namedD o.name o.n).size ≤ _; omega
  have hts : o.to.size ≤ 2305843009213693952 := by have := namedD_size (s := o.too) o.torn ho.too; show (namedD o.too o.torn).size ≤ _; omega
  have HS := Lib.hid (And.intro hns hts)
  have hno := ho.n
  have hto := ho.torn
  clear h hfit ho hk hns hts
  go_enter Try.func17, Try.ntmps17
  go_wp2_with fail
  refine (HNM.out _).mono ?_
  rintro e _ ⟨rfl, rfl⟩
  go_wp2_with fail
  refine (HTO.out _).mono ?_
  rintro e _ ⟨rfl, rfl⟩
  go_wp2_with fail
  refine (HPK.out _).mono ?_
  rintro e _ ⟨rfl, rfl⟩
  clear HNM HTO HPK
  generalize w.alloc (.cells #[.int .i64 o.kind, .string o.name, .string o.too, .slice o.ba o.b.size o.bc, .int .i64 o.n, .int .i64 o.torn] 47) = wo at *
  generalize w.heap.size = c at *
  obtain ⟨D, hD⟩ : ∃ D, doD s 3 ⟨#[]⟩ ⟨#[]⟩ ⟨#[]⟩ = D := ⟨_, rfl⟩
  have hst : stepD s o = D.2.2 := by unfold stepD; simp [HK.out]; exact congrArg (fun x => x.2.2) hD
  have HST := Lib.hid hst
  have HD := Lib.hid hD
  clear hst hD
  go_wp2_with fail
  refine (rdo_3 ⟨#[]⟩ ⟨#[]⟩ ⟨#[]⟩ _ HH.out.two.q HF.out.wf (by decide) (by decide)).mono ?_
  rw [HD.out]
  rintro e w2 ⟨rfl, p2, f2⟩
  have H2 := Lib.hid (HH.out.rstep p2 f2)
  clear p2 f2
  go_wp2_with fail
  refine (syncdir_any ⟨#[]⟩ ⟨#[]⟩ ⟨#[]⟩ _ H2.out.two.p HF.out.inv (by have := HF.out.n; omega) (by have := HF.out.al; omega)).mono ?_
  rw [HD.out]
  rintro e w3 ⟨rfl, L3, p3, s3⟩
  have H3 := Lib.hid (H2.out.pstep p3 s3)
  clear p3 s3 HD
  obtain ⟨D1, D2, D3⟩ := D
  simp only at *
  go_wp2_with fail
  go_ret3
  exact H3.out.done HST.out
end Go.Proofs.Ytngickhakedonaa
