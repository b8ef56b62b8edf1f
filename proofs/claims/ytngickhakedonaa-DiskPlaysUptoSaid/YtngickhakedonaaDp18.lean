/- A text of a claim's proof: see the last text of the claim. -/
import Derived.Test.YtngickhakedonaaDp10
import Derived.BigQuiet
import Derived.Deep.QuietTactic
import Derived.Deep.RegionHeld3
import Derived.Lib.MinMax
set_option linter.all false
namespace Go.Proofs.Ytngickhakedonaa
open Go.RowKit Go.Tk Go.Dk

set_option maxRecDepth 100000 in
set_option maxHeartbeats 2000000 in
theorem does_1 (o : Op3) (hk : pickI o.kind 15 = 1) {base M : Nat} {w : World} {d r : Nat} {L : PL} {B : Nat → Prop} {s : DS} (h : Two base w d r L B s s) (hfit : Fit s M) (ho : OpOk base M w o) :
    Calls Try.prog 17 #[.pointer (some ⟨d, 0, none⟩), .pointer (some ⟨r, 0, none⟩), opV o] w (DoesQ base w s o) := by
  have HH := Lib.hid (Head.new h ho)
  have HF := Lib.hid hfit
  obtain ⟨b0, b1, b2, b3, b4, b5⟩ := HH.out.box
  have HNM : Hid (∀ w, Calls Try.prog 42 #[.string o.name, .int .i64 o.n] w fun e w' => e = .returned (.string o.nm) ∧ w = w') := Lib.hid (fun w => named_any o.name o.n w ho.n.1 ho.n.2)
  have HTO : Hid (∀ w, Calls Try.prog 42 #[.string o.too, .int .i64 o.torn] w fun e w' => e = .returned (.string o.to) ∧ w = w') := Lib.hid (fun w => named_any o.too o.torn w ho.torn.1 ho.torn.2)
  have HPK : Hid (∀ w, Calls Try.prog 15 #[.int .i64 o.kind, .int .i64 15] w fun e w' => e = .returned (.int .i64 1) ∧ w = w') := Lib.hid (fun w => by
    have := pick03_any o.kind 15 w ho.kind.1 ho.kind.2 (by decide) (by decide)
    rw [hk] at this; exact this)
  have HK := Lib.hid hk
  have hns : o.nm.size ≤ 2305843009213693952 := by have := namedD_size (s := o.name) o.n ho.name; show (namedD o.name o.n).size ≤ _; omega
  have hts : o.to.size ≤ 2305843009213693952 := by have := namedD_size (s := o.too) o.torn ho.too; show (namedD o.too o.torn).size ≤ _; omega
  have HS := Lib.hid (And.intro hns hts)
  have hno := ho.n
  have hto := ho.torn
  clear h hfit ho hk hns hts
  go_enter Try.func17, Try.ntmps17
  go_wp2_with fail
  refine (HNM.out _).mono ?_
  rintro e _ ⟨rfl, rfl⟩
  go_wp2_with fail
  refine (HTO.out _).mono ?_
  rintro e _ ⟨rfl, rfl⟩
  go_wp2_with fail
  refine (HPK.out _).mono ?_
  rintro e _ ⟨rfl, rfl⟩
  clear HNM HTO HPK
  generalize w.alloc (.cells #[.int .i64 o.kind, .string o.name, .string o.too, .slice o.ba o.b.size o.bc, .int .i64 o.n, .int .i64 o.torn] 47) = wo at *
  generalize w.heap.size = c at *
  have hread := HH.out.op.reads
  have hbM : o.b.size ≤ 1048576 := Nat.le_trans HH.out.op.b HF.out.M
  obtain ⟨bo, bc, w2, hrun, hbv, hf2, hnew, hle⟩ := bytes_copy hread o.bc HH.out.op.bc (by omega)
  have H2 := Lib.hid (HH.out.keep hf2)
  have HB := Lib.hid (And.intro hbv (And.intro hnew hle))
  have q3 := H2.out.box.b3
  clear hread hbv hf2 hnew hle
  go_wp2_with (first | (at_builtin; refine wpList_append_run rfl _ _ 45 rfl rfl rfl hrun ?_))
  have hsp : ∀ b, (Value.slice bo o.b.size bc).ownBlock = some b → base ≤ b ∧ L.role b = .free ∧ ¬ B b ∧ b ≠ c := fun b hb => HH.out.spare (HB.out.2.1 b hb)
  refine (append_any o.nm ⟨#[]⟩ o.b bo bc w2 H2.out.two.p HF.out.inv (by have := HF.out.n; omega) HS.out.1 (by have := HF.out.al; omega) HF.out.us (by omega) (fun k => by have := HF.out.fs k; omega) (fun a ha => ?_) HB.out.1.reads.1 HB.out.2.2).mono ?_
  · have hr := HB.out.1.reads.2 a ha
    have hown : 0 < o.b.size → (Value.slice bo o.b.size bc).ownBlock = some a.block := fun _ => by rw [ha]; rfl
    have ho1 : (Value.slice bo o.b.size bc).ownBlock = some a.block := by rw [ha]; rfl
    exact ⟨(hsp _ ho1).2.1, HB.out.1.own_lt ho1, hr⟩
  rintro e w3 ⟨rfl, L3, p3, s3⟩
  have hown3 : Own w3 bo o.b.size := (HB.out.1.own rfl).frm s3.frm (fun b hb hr => hr (hsp b hb).2.1)
  have hsp3 : ∀ b, (Value.slice bo o.b.size bc).ownBlock = some b → base ≤ b ∧ L3.role b = .free ∧ ¬ B b ∧ b ≠ c := fun b hb => spare_step (hsp b hb) s3 (HB.out.1.own_lt hb)
  have H3 := Lib.hid (H2.out.pstep p3 s3)
  have HO := Lib.hid (And.intro hown3 hsp3)
  clear p3 s3 hown3 hsp hsp3 q3
  go_wp2_with fail
  go_loopw [13] (fun i wr => ∃ j : Nat, j ≤ o.b.size ∧ i = .int .i64 j ∧ Hid (Frm (fun b => (Value.slice bo o.b.size bc).ownBlock = some b) w3 wr ∧ Own wr bo o.b.size)) (fun i _ => o.b.size - (intOf i).toNat)
  case atStart => exact ⟨0, Nat.zero_le _, rfl, Lib.hid ⟨Frm.refl _ _, HO.out.1⟩⟩
  case round =>
    obtain ⟨j, hj, rfl, hI⟩ := hrel
    by_cases hlt : j < o.b.size
    · obtain ⟨g, hg, hfz, hcs⟩ := hI.out.2.at_ (by omega)
      subst hg
      obtain ⟨u, hu⟩ := hcs j hlt
      have i1 : (0 : Int) ≤ j := by omega
      have i2 : (j : Int) < o.b.size := by omega
      have hfz' := hfz j
      clear hcs
      go_wp2_with fail
      exact ⟨⟨j + 1, by omega, by go_num, Lib.hid ⟨hI.out.1.setCell (p := ⟨g, j, none⟩) (fun _ => rfl) _, hI.out.2.set _ _⟩⟩, by simp [intOf]; omega⟩
    · have i2 : decide ((j : Int) < o.b.size) = false := decide_eq_false (by omega)
      have H4 := Lib.hid (H3.out.own hI.out.1 HO.out.2)
      have q3 := H4.out.box.b3
      have hcv := conv_reads H4.out.op.reads o.bc
      go_wp2_with fail
      refine (rdo_0 o.nm ⟨#[]⟩ o.b _ H4.out.two.q HF.out.wf HS.out.1 (by decide) (by omega) (fun k => by have := HF.out.fs k; omega)).mono ?_
      rintro e w5 ⟨rfl, p5, f5⟩
      have H5 := Lib.hid (H4.out.rstep p5 f5)
      have hst : stepD s o = (doD s 0 o.nm ⟨#[]⟩ o.b).2.2 := by unfold stepD; simp [HK.out]
      have HST := Lib.hid hst
      clear p5 f5 hst
      generalize doD s 0 o.nm ⟨#[]⟩ o.b = D at *
      go_wp2_with fail
      go_ret3
      exact H5.out.done HST.out
end Go.Proofs.Ytngickhakedonaa
