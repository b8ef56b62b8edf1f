/- A text of a claim's proof: see the last text of the claim. -/
import Derived.Test.YtngickhakedonaaDp01
import Derived.Deep.RegionLawGrows
import Derived.Deep.Cut
import Derived.Deep.CutBlock
import Derived.StillTailTactics
import Derived.Deep.DeepCutAuto
import Derived.Laws.Concat
set_option linter.all false
namespace Go.Proofs.Ytngickhakedonaa
open Go.RowKit Go.Tk Go.Dk

variable {r : Nat} {vf vd vs va vn : Value} {s : DS}

theorem rw_olds {α : Type} {f : α → List Value} {k : Nat} (hk : ∀ x, (f x).length = k) (hk0 : 0 < k) {w : World} {ao : Option Addr} {n cap : Nat} {l : List α} (h : Rw f k w (.slice ao n cap) l) :
    n = l.length ∧ (∀ b, ao = some b → ∀ j u, (l.flatMap f)[j]? = some u → w.cell? (b.add j) = some u) ∧ (ao = none → n = 0 ∧ cap = 0) ∧ n ≤ cap := by
  obtain ⟨ao', cap', e, h1, h2, h3, h4⟩ := h
  have en : n = l.length := by injection e
  have ec : cap = cap' := by injection e
  have ea : ao = ao' := by injection e
  subst en ec ea
  refine ⟨rfl, ?_, fun h => by have := h2 h; omega, h1⟩
  intro b hb j u hu
  have hj : j < l.length * k := by rw [← flat_len hk l]; exact (List.getElem?_eq_some_iff.1 hu).1
  have hi : j / k < l.length := Nat.div_lt_of_lt_mul (by rwa [Nat.mul_comm])
  obtain ⟨g, hg, hc⟩ := h4 (j / k) hi
  rw [hb] at hg
  cases hg
  have e1 : (j / k) * k + j % k = j := Nat.div_add_mod' j k
  have := flat_get hk l (j / k) (j % k) hi (Nat.mod_lt _ hk0)
  rw [e1, hu] at this
  have h5 := hc (j % k) u this.symm
  rw [e1] at h5
  rwa [Addr.add_lit, Nat.zero_add]

set_option maxRecDepth 100000 in
set_option maxHeartbeats 1000000 in
theorem ract_any (a : DAct) (w : World) (h : RD w r vf vd vs va vn s) (hl : s.acts.length ≤ 100000) (hdl : s.dir.length ≤ 100000) (hmv : ∀ x y, a = .mv x y → (ofI s.dir x).isSome = true) :
    Calls Try.prog 78 #[.pointer (some ⟨r, 0, none⟩), acV a] w fun e w' => e = .returned (.tuple #[]) ∧ ∃ va' vd', RD w' r vf vd' vs va' vn { s with acts := s.acts ++ [a], dir := doneD s.dir a } ∧ Frm (· = r) w w' ∧ Fresh w vd vd' ∧ Fresh w va va' := by
  have c3 := h.c3
  have c1 := h.c1
  have fz := h.fz.frozen
  have hal : a ∈ [a] := by simp
  obtain ⟨ao, cap, hva, hle, _, _, _⟩ := h.acts
  subst hva
  obtain ⟨_, ho1, ho2, _⟩ := rw_olds acC_len (by decide) h.acts
  have hrlt := h.lt r (.inl rfl)
  have H := Lib.hid h
  have Ho := Lib.hid (And.intro ho1 ho2)
  have hla := flat_len acC_len s.acts
  clear h ho1 ho2 hal
  obtain ⟨i0, hi, hz0, hz1, hz2⟩ := info_parts info124
  have HX : RowKit.Hid (acC a = [.int .i64 a.c0, .string a.c1, .string a.c2, .int .i64 a.c3, .int .i64 a.c4]) := Lib.hid rfl
  obtain ⟨A, hA⟩ : ∃ A, A = a := ⟨_, rfl⟩
  rw [← hA] at hmv ⊢
  have hDone := fun v l w h1 h2 => rdone_any v l A w h1 h2
  have HDone := Lib.hid hDone
  clear hDone
  have Hm := Lib.hid (And.intro hmv hA)
  clear hmv hA
  have hB : ∀ W, Frm (fun _ => False) w W → ∀ b, ao = some b → ∀ j u, (s.acts.flatMap acC)[j]? = some u → W.cell? (b.add j) = some u := fun W hf b hb j u hu => by
    have := Ho.out.1 b hb j u hu
    exact (hf.cell (World.block_lt_of_cell? _ _ this) (fun h => h)).trans this
  have HB := Lib.hid (And.intro hB (fun h : ao = none => And.intro (Ho.out.2 h).1 (Ho.out.2 h).1))
  clear hB
  have hmax : s.acts.length + 1 ≤ maxLen := by unfold maxLen; omega
  have HM := Lib.hid hmax
  clear hmax
  obtain ⟨xs, hxs⟩ : ∃ xs, xs = s.acts.flatMap acC := ⟨_, rfl⟩
  rw [← hxs] at HB hla
  have HXS := Lib.hid hxs
  clear hxs
  go_enter Try.func78, Try.ntmps78
  go_upto_region 1 with fail
  go_cut [] from 4 to 25 (fun wx => ∃ va', RD wx r vf vd vs va' vn { s with acts := s.acts ++ [a] } ∧ Frm (· = r) w wx ∧ Fresh w (.slice ao s.acts.length cap) va' ∧ wx.cell? ⟨w.heap.size, 0, none⟩ = some (.int .i64 A.c0) ∧ wx.cell? ⟨w.heap.size, 1, none⟩ = some (.string A.c1) ∧ wx.cell? ⟨w.heap.size, 2, none⟩ = some (.string A.c2) ∧ wx.cell? ⟨w.heap.size, 3, none⟩ = some (.int .i64 A.c3) ∧ wx.cell? ⟨w.heap.size, 4, none⟩ = some (.int .i64 A.c4))
  case first =>
    obtain ⟨Bx, hBx⟩ : ∃ Bx, Bx = (Obj.cells #[.int .i64 A.c0, .string A.c1, .string A.c2, .int .i64 A.c3, .int .i64 A.c4] 124) := ⟨_, rfl⟩
    have Fr1 := Lib.hid ((((Frm.refl (fun _ => False) w).alloc (.cells #[.int .i64 A.c0, .string A.c1, .string A.c2, .int .i64 A.c3, .int .i64 A.c4] 124)).alloc (.cells #[.int .i64 A.c0, .string A.c1, .string A.c2, .int .i64 A.c3, .int .i64 A.c4] 124)).drew)
    have cn : ∀ j u, [Value.int .i64 A.c0, .string A.c1, .string A.c2, .int .i64 A.c3, .int .i64 A.c4][j]? = some u → (((w.alloc (.cells #[.int .i64 A.c0, .string A.c1, .string A.c2, .int .i64 A.c3, .int .i64 A.c4] 124)).alloc (.cells #[.int .i64 A.c0, .string A.c1, .string A.c2, .int .i64 A.c3, .int .i64 A.c4] 124)).drew).cell? ((⟨w.heap.size + 1, 0, none⟩ : Addr).add j) = some u := by
      intro j u hu
      have := cells_new (w.alloc (.cells #[.int .i64 A.c0, .string A.c1, .string A.c2, .int .i64 A.c3, .int .i64 A.c4] 124)) _ 124 j u hu
      rw [World.size_alloc] at this
      exact this
    have Cn := Lib.hid cn
    clear cn
    refine wp_region_noPanic ?_
    refine wp_region_last 21 rfl (by kernel_rfl) (by kernel_rfl) ?_
    simp only [List.pop_toArray, List.dropLast]
    refine wpAny_of_held (S := fun w' => w'.cell? ⟨r, 3, none⟩ = some (.slice ao s.acts.length cap) ∧ w'.cell? ⟨w.heap.size, 0, none⟩ = some (.int .i64 A.c0) ∧ w'.cell? ⟨w.heap.size, 1, none⟩ = some (.string A.c1) ∧ w'.cell? ⟨w.heap.size, 2, none⟩ = some (.string A.c2) ∧ w'.cell? ⟨w.heap.size, 3, none⟩ = some (.int .i64 A.c3) ∧ w'.cell? ⟨w.heap.size, 4, none⟩ = some (.int .i64 A.c4)) _ _ _ _ ?_
    have hS0 : (fun w' : World => w'.cell? ⟨r, 3, none⟩ = some (.slice ao s.acts.length cap) ∧ w'.cell? ⟨w.heap.size, 0, none⟩ = some (.int .i64 A.c0) ∧ w'.cell? ⟨w.heap.size, 1, none⟩ = some (.string A.c1) ∧ w'.cell? ⟨w.heap.size, 2, none⟩ = some (.string A.c2) ∧ w'.cell? ⟨w.heap.size, 3, none⟩ = some (.int .i64 A.c3) ∧ w'.cell? ⟨w.heap.size, 4, none⟩ = some (.int .i64 A.c4)) (w.alloc (.cells #[.int .i64 A.c0, .string A.c1, .string A.c2, .int .i64 A.c3, .int .i64 A.c4] 124)).drew := by
      refine ⟨?_, ?_, ?_, ?_, ?_, ?_⟩ <;> simp [hrlt, c3, World.cell?_alloc_lt]
    refine wpAnyH_take (i := 0) (v := (.pointer (some ⟨r, 0, none⟩))) rfl (by kernel_rfl) (by kernel_rfl) (by kernel_rfl) (fun _ _ _ h => h) (.inl ⟨rfl, fun w' hS => ?_⟩) hS0 ?_
    · obtain ⟨s1, s2, s3, s4, s5, s6⟩ := hS
      go_simp
    refine wpAnyH_take (i := 1) (v := (.pointer (some ⟨r, 0, none⟩))) rfl (by kernel_rfl) (by kernel_rfl) (by kernel_rfl) (fun _ _ _ h => h) (.inl ⟨rfl, fun w' hS => ?_⟩) hS0 ?_
    · obtain ⟨s1, s2, s3, s4, s5, s6⟩ := hS
      go_simp
    refine wpAnyH_take (i := 2) (v := (.pointer (some ⟨r, 0, none⟩))) rfl (by kernel_rfl) (by kernel_rfl) (by kernel_rfl) (fun _ _ _ h => h) (.inl ⟨rfl, fun w' hS => ?_⟩) hS0 ?_
    · obtain ⟨s1, s2, s3, s4, s5, s6⟩ := hS
      go_simp
    refine wpAnyH_take (i := 3) (v := (.pointer (some ⟨r, 3, none⟩))) rfl (by kernel_rfl) (by kernel_rfl) (by kernel_rfl) (fun _ _ _ h => h) (.inl ⟨rfl, fun w' hS => ?_⟩) hS0 ?_
    · obtain ⟨s1, s2, s3, s4, s5, s6⟩ := hS
      go_simp
    refine wpAnyH_take (i := 4) (v := (.slice ao s.acts.length cap)) rfl (by kernel_rfl) (by kernel_rfl) (by kernel_rfl) (fun _ _ _ h => h) (.inl ⟨rfl, fun w' hS => ?_⟩) hS0 ?_
    · obtain ⟨s1, s2, s3, s4, s5, s6⟩ := hS
      go_simp
    refine wpAnyH_take (i := 5) (v := (.pointer (some ⟨r, 0, none⟩))) rfl (by kernel_rfl) (by kernel_rfl) (by kernel_rfl) (fun _ _ _ h => h) (.inl ⟨rfl, fun w' hS => ?_⟩) hS0 ?_
    · obtain ⟨s1, s2, s3, s4, s5, s6⟩ := hS
      go_simp
    refine wpAnyH_take (i := 6) (v := (.pointer (some ⟨r, 0, none⟩))) rfl (by kernel_rfl) (by kernel_rfl) (by kernel_rfl) (fun _ _ _ h => h) (.inl ⟨rfl, fun w' hS => ?_⟩) hS0 ?_
    · obtain ⟨s1, s2, s3, s4, s5, s6⟩ := hS
      go_simp
    refine wpAnyH_take (i := 7) (v := (.pointer (some ⟨r, 3, none⟩))) rfl (by kernel_rfl) (by kernel_rfl) (by kernel_rfl) (fun _ _ _ h => h) (.inl ⟨rfl, fun w' hS => ?_⟩) hS0 ?_
    · obtain ⟨s1, s2, s3, s4, s5, s6⟩ := hS
      go_simp
    refine wpAnyH_take (i := 8) (v := (.slice ao s.acts.length cap)) rfl (by kernel_rfl) (by kernel_rfl) (by kernel_rfl) (fun _ _ _ h => h) (.inl ⟨rfl, fun w' hS => ?_⟩) hS0 ?_
    · obtain ⟨s1, s2, s3, s4, s5, s6⟩ := hS
      go_simp
    refine wpAnyH_take (i := 9) (v := (.int .i64 s.acts.length)) rfl (by kernel_rfl) (by kernel_rfl) (by kernel_rfl) (fun _ _ _ h => h) (.inl ⟨rfl, fun w' hS => ?_⟩) hS0 ?_
    · obtain ⟨s1, s2, s3, s4, s5, s6⟩ := hS
      go_simp
    refine wpAnyH_take (i := 10) (v := (.pointer (some ⟨r, 0, none⟩))) rfl (by kernel_rfl) (by kernel_rfl) (by kernel_rfl) (fun _ _ _ h => h) (.inl ⟨rfl, fun w' hS => ?_⟩) hS0 ?_
    · obtain ⟨s1, s2, s3, s4, s5, s6⟩ := hS
      go_simp
    refine wpAnyH_take (i := 11) (v := (.pointer (some ⟨r, 0, none⟩))) rfl (by kernel_rfl) (by kernel_rfl) (by kernel_rfl) (fun _ _ _ h => h) (.inl ⟨rfl, fun w' hS => ?_⟩) hS0 ?_
    · obtain ⟨s1, s2, s3, s4, s5, s6⟩ := hS
      go_simp
    refine wpAnyH_take (i := 12) (v := (.pointer (some ⟨r, 3, none⟩))) rfl (by kernel_rfl) (by kernel_rfl) (by kernel_rfl) (fun _ _ _ h => h) (.inl ⟨rfl, fun w' hS => ?_⟩) hS0 ?_
    · obtain ⟨s1, s2, s3, s4, s5, s6⟩ := hS
      go_simp
    refine wpAnyH_take (i := 13) (v := (.slice ao s.acts.length cap)) rfl (by kernel_rfl) (by kernel_rfl) (by kernel_rfl) (fun _ _ _ h => h) (.inl ⟨rfl, fun w' hS => ?_⟩) hS0 ?_
    · obtain ⟨s1, s2, s3, s4, s5, s6⟩ := hS
      go_simp
    refine wpAnyH_take (i := 14) (v := (.int .i64 s.acts.length)) rfl (by kernel_rfl) (by kernel_rfl) (by kernel_rfl) (fun _ _ _ h => h) (.inl ⟨rfl, fun w' hS => ?_⟩) hS0 ?_
    · obtain ⟨s1, s2, s3, s4, s5, s6⟩ := hS
      go_simp
    refine wpAnyH_take (i := 15) (v := (.slice ao s.acts.length s.acts.length)) rfl (by kernel_rfl) (by kernel_rfl) (by kernel_rfl) (fun _ _ _ h => h) (.inl ⟨rfl, fun w' hS => ?_⟩) hS0 ?_
    · obtain ⟨s1, s2, s3, s4, s5, s6⟩ := hS
      go_simp
    refine wpAnyH_take (i := 16) (v := (.agg #[.int .i64 A.c0, .string A.c1, .string A.c2, .int .i64 A.c3, .int .i64 A.c4])) rfl (by kernel_rfl) (by kernel_rfl) (by kernel_rfl) (fun _ _ _ h => h) (.inl ⟨rfl, fun w' hS => ?_⟩) hS0 ?_
    · obtain ⟨s1, s2, s3, s4, s5, s6⟩ := hS
      go_simp
    refine wpAnyH_one (i := 17) (by kernel_rfl) (wpOp_plain rfl rfl ?_)
    unfold Oper.wp
    go_simp
    refine wpAnyH_one (i := 18) (by kernel_rfl) (wpOp_if rfl ?_)
    refine step_append_grows rfl (.tmp 19) (.tmp 21) 82 rfl 124 i0 _ 5 56 Try.underlying82 hi hz0 hz1 hz2 rfl (by decide) ao s.acts.length s.acts.length xs (by simp [Act.eval, Act.put]) HB.out.2 hla (HB.out.1 _ Fr1.out) ⟨w.heap.size + 1, 0, none⟩ 1 1 [.int .i64 A.c0, .string A.c1, .string A.c2, .int .i64 A.c3, .int .i64 A.c4] (by simp [Act.eval, Act.put]) rfl Cn.out (by simp [Value.oneCell']) (Nat.lt_succ_self _) HM.out (by omega) ?_
    intro v' wa hown hgrow
    have Hfa := Lib.hid (Fr1.out.trans (Frm.of_grown (S := fun _ => False) hgrow (fun k hk _ => by cases hk)))
    have hbx : ∀ o, o < 5 → wa.cell? ⟨w.heap.size, o, none⟩ = #[Value.int .i64 A.c0, .string A.c1, .string A.c2, .int .i64 A.c3, .int .i64 A.c4][o]? := by
      intro o ho
      have := (Frm.of_grown (S := fun _ => False) hgrow (fun k hk _ => by cases hk)).cell (p := ⟨w.heap.size, o, none⟩) (by simp; omega) (fun h => h)
      rw [this]
      have e1 : w.heap.size < (w.alloc (.cells #[.int .i64 A.c0, .string A.c1, .string A.c2, .int .i64 A.c3, .int .i64 A.c4] 124)).heap.size := by simp
      rw [World.cell?_drew, World.cell?_alloc_lt _ _ _ e1, World.cell?_alloc_new]
    obtain ⟨ao', cap', hv', _, _⟩ := row_slice hown
    subst hv'
    have c3a := (Hfa.out.cell (p := ⟨r, 3, none⟩) hrlt (fun h => h)).trans c3
    have fza := fun o => (Hfa.out.frozen (p := ⟨r, o, none⟩) hrlt (fun h => h)).trans (fz o)
    have hS1 : (fun w' : World => w'.cell? ⟨r, 3, none⟩ = some (.slice ao s.acts.length cap) ∧ w'.cell? ⟨w.heap.size, 0, none⟩ = some (.int .i64 A.c0) ∧ w'.cell? ⟨w.heap.size, 1, none⟩ = some (.string A.c1) ∧ w'.cell? ⟨w.heap.size, 2, none⟩ = some (.string A.c2) ∧ w'.cell? ⟨w.heap.size, 3, none⟩ = some (.int .i64 A.c3) ∧ w'.cell? ⟨w.heap.size, 4, none⟩ = some (.int .i64 A.c4)) wa :=
      ⟨c3a, hbx 0 (by decide), hbx 1 (by decide), hbx 2 (by decide), hbx 3 (by decide), hbx 4 (by decide)⟩
    have Hown := Lib.hid hown
    clear hown hgrow hbx
    refine ⟨hS1, ?_⟩
    refine wpAnyH_take (i := 19) (v := (.pointer (some ⟨r, 0, none⟩))) rfl (by kernel_rfl) (by kernel_rfl) (by kernel_rfl) (fun _ _ _ h => h) (.inl ⟨rfl, fun w' hS => ?_⟩) hS1 ?_
    · go_simp
    refine wpAnyH_take (i := 20) (v := (.pointer (some ⟨r, 3, none⟩))) rfl (by kernel_rfl) (by kernel_rfl) (by kernel_rfl) (fun _ _ _ h => h) (.inl ⟨rfl, fun w' hS => ?_⟩) hS1 ?_
    · go_simp
    refine wpAnyH_done (by kernel_rfl) ?_ _
    unfold LastQ
    refine wpOp_plain rfl rfl ?_
    unfold Oper.wp
    go_simp
    refine NoPanic.normal ?_
    go_wp2_with fail
    go_meet
    have hr2 := H.out.keep Hfa.out
    have hrow : wa.ownsRow (((w.alloc (.cells #[.int .i64 A.c0, .string A.c1, .string A.c2, .int .i64 A.c3, .int .i64 A.c4] 124)).alloc (.cells #[.int .i64 A.c0, .string A.c1, .string A.c2, .int .i64 A.c3, .int .i64 A.c4] 124)).drew).heap.size 124 5 (.slice ao' (s.acts ++ [a]).length cap') (s.acts ++ [a]).length ((s.acts ++ [a]).flatMap acC) := by
      have e1 : xs ++ [Value.int .i64 A.c0, .string A.c1, .string A.c2, .int .i64 A.c3, .int .i64 A.c4] = (s.acts ++ [a]).flatMap acC := by
        rw [List.flatMap_append, HXS.out, ← Hm.out.2]
        simp [acC]
      rw [← e1, List.length_append]
      exact Hown.out
    have hsz : w.heap.size ≤ (((w.alloc (.cells #[.int .i64 A.c0, .string A.c1, .string A.c2, .int .i64 A.c3, .int .i64 A.c4] 124)).alloc (.cells #[.int .i64 A.c0, .string A.c1, .string A.c2, .int .i64 A.c3, .int .i64 A.c4] 124)).drew).heap.size := Fr1.out.size
    have hown2 : ∀ b, (Value.slice ao' (s.acts ++ [a]).length cap').ownBlock = some b → w.heap.size ≤ b := fun b hb => Nat.le_trans hsz (hrow.lt b hb).1
    have hne : r ≠ w.heap.size := Nat.ne_of_lt hrlt
    have hl2 : (s.acts ++ [a]).length = s.acts.length + 1 := by simp
    rw [← hl2]
    refine ⟨_, hr2.set_acts (rw_of_owns acC_len hrow rfl) (fun b hb hin => ?_), (Hfa.out.mono (T := fun b => b = r) (fun _ _ h => h.elim)).setCell (p := ⟨r, 3, none⟩) (fun _ => rfl) _, .inr hown2, (set_blk _ _ _ _ _ _ hne).trans hS1.2.1, (set_blk _ _ _ _ _ _ hne).trans hS1.2.2.1, (set_blk _ _ _ _ _ _ hne).trans hS1.2.2.2.1, (set_blk _ _ _ _ _ _ hne).trans hS1.2.2.2.2.1, (set_blk _ _ _ _ _ _ hne).trans hS1.2.2.2.2.2⟩
    have h1 := hown2 b hb
    have h2 := H.out.lt b hin
    omega
  case rest =>
    obtain ⟨va', h1, hf1, hfr, b0, b1, b2, b3, b4⟩ := hcut
    have d1 := h1.c1
    have hR := Lib.hid (And.intro h1 (And.intro h1.dir h1.nd))
    have Hf := Lib.hid (And.intro hf1 hfr)
    have fzc := h1.fz.frozen
    clear h1 hf1 hfr c1 c3 fz
    go_wp2_with fail
    have hdir : Rw nmC 2 wc.drew vd s.dir := hR.out.2.1.frm (S := fun _ => False) (Frm.refl _ _).drew (fun _ _ h => h)
    have Hdir := Lib.hid hdir
    clear hdir
    go_region_law (go_simp; go_at_call 70; refine (HDone.out vd s.dir wc.drew Hdir.out hdl Hm.out.1).mono ?_; rintro e w2 ⟨vd', rfl, hR2, hfr2, hf2⟩; have hf2' : Frm (fun _ => False) wc w2 := (Frm.refl _ wc).drew.trans hf2; have g1 := hR.out.1.keep hf2'; have g2 := g1.c1; have g3 := g1.fz.frozen; have hfr3 : Fresh wc vd vd' := hfr2; have G := Lib.hid (And.intro g1 (And.intro hR2 (And.intro hfr3 hf2'))); clear g1 hR2 hfr3 hf2' hfr2 hf2; obtain ⟨ao2, cap2, hv2, _⟩ := G.out.2.1; subst hv2)
    all_goals (
      have e0 : w2.cell? ⟨w.heap.size, 0, none⟩ = some (.int .i64 A.c0) := (G.out.2.2.2.cell (p := ⟨w.heap.size, 0, none⟩) (World.block_lt_of_cell? _ _ b0) (fun h => h)).trans b0
      have hne : r ≠ w.heap.size := Nat.ne_of_lt hrlt
      have hfin : ∀ w', w' = w2.setCell ⟨r, 1, none⟩ (.slice ao2 (doneD s.dir A).length cap2) → ∃ va' vd', RD w' r vf vd' vs va' vn { s with acts := s.acts ++ [A], dir := doneD s.dir A } ∧ Frm (· = r) w w' ∧ Fresh w vd vd' ∧ Fresh w (.slice ao s.acts.length cap) va' := by
        rintro w' rfl
        have hq : ∀ b, (Value.slice ao2 (doneD s.dir A).length cap2).ownBlock = some b → ¬ rfp r vf b := by
          intro b hb hin
          rcases G.out.2.2.1 with h | h
          · rw [h] at hb; exact hR.out.2.2 b hb hin
          · have := h b hb
            have := hR.out.1.lt b hin
            omega
        refine ⟨va', .slice ao2 (doneD s.dir A).length cap2, ?_, ?_, ?_, Hf.out.2⟩
        · have := G.out.1.set_dir G.out.2.1 hq
          rw [Hm.out.2] at this ⊢
          exact this
        · exact (Hf.out.1.trans (G.out.2.2.2.mono (fun _ _ h => h.elim))).setCell (p := ⟨r, 1, none⟩) (fun _ => rfl) _
        · rcases G.out.2.2.1 with h | h
          · exact .inl h
          · exact .inr fun b hb => Nat.le_trans Hf.out.1.size (h b hb)
      have Hfin := Lib.hid hfin
      clear hfin b0 b1 b2 b3 b4
      by_cases h3 : A.c0 = 3
      · rw [h3] at e0
        clear h3
        go_wp2_with fail
        (try simp only [Exit.inBlock, Exit.then])
        refine bodyPost_ret (results_none rfl _ _ _) rfl ?_
        exact ⟨rfl, Hfin.out _ rfl⟩
      · have h4 : (A.c0 == 3) = false := by simpa using h3
        clear h3
        go_wp2_with fail
        go_end0
        exact ⟨rfl, Hfin.out _ rfl⟩)
end Go.Proofs.Ytngickhakedonaa

namespace Go.Proofs.Ytngickhakedonaa
open Go.RowKit Go.Tk Go.Dk

variable {r : Nat} {s : DS} {B : Nat → Prop}

theorem RX.next {w0 w1 w2 : World} {t : DS} (h : Frm B w0 w1) (h2 : Frm (up w0 w1 B) w1 w2) (h3 : RX w2 r (up w1 w2 (up w0 w1 B)) t) : RX w2 r (up w0 w2 B) t ∧ Frm B w0 w2 := by
  have s1 := h.size
  have s2 := h2.size
  refine ⟨h3.mono ?_, h.trans' h2 ?_⟩
  · rintro b ((hb | hb) | hb)
    · exact .inl hb
    · exact .inr ⟨hb.1, by omega⟩
    · exact .inr ⟨by omega, hb.2⟩
  · rintro b hb (h | h)
    · exact h
    · omega

theorem ract_x (a : DAct) (w : World) (h : RX w r B s) (hl : s.acts.length ≤ 100000) (hdl : s.dir.length ≤ 100000) (hmv : ∀ x y, a = .mv x y → (ofI s.dir x).isSome = true) :
    Calls Try.prog 78 #[.pointer (some ⟨r, 0, none⟩), acV a] w fun e w' => e = .returned (.tuple #[]) ∧ RX w' r (up w w' B) { s with acts := s.acts ++ [a], dir := doneD s.dir a } ∧ Frm B w w' := by
  obtain ⟨vf, vd, vs, va, vn, h, h0, h1, h2, h3, h4, h5⟩ := h
  refine (ract_any a w h hl hdl hmv).mono ?_
  rintro e w' ⟨rfl, va', vd', hr, hf, q1, q2⟩
  refine ⟨rfl, ⟨vf, vd', vs, va', vn, hr, .inl h0, fun b hb => .inl (h1 b hb), ?_, fun b hb => .inl (h3 b hb), ?_, fun b hb => .inl (h5 b hb)⟩, hf.mono (fun b _ e => e ▸ h0)⟩
  · intro b hb
    rcases q1 with rfl | q1
    · exact .inl (h2 b hb)
    · exact .inr ⟨q1 b hb, hr.dir.lt b hb⟩
  · intro b hb
    rcases q2 with rfl | q2
    · exact .inl (h4 b hb)
    · exact .inr ⟨q2 b hb, hr.acts.lt b hb⟩

theorem info94 : (Try.prog.info? 94).map (fun i => (i.zero, i.size, i.bytes)) = some (some (.agg #[.string ⟨#[]⟩, .int .i64 0]), 2, 24) := by kernel_rfl

/-- behind the bytes that came: the act, or none -/
def putD (s : DS) (k : Nat) (b : ByteArray) : DS :=
  if b.size = 0 then s else { s with files := s.files.set k ((getF s k).1 ++ b, (getF s k).2), acts := s.acts ++ [.put k b.size] }
def newD (s : DS) (name : ByteArray) : DS := { s with files := s.files ++ [(⟨#[]⟩, 0)], acts := s.acts ++ [.mk name s.files.length], dir := wi s.dir name s.files.length }

set_option maxRecDepth 100000 in
set_option maxHeartbeats 1000000 in
theorem rdoes_put (k : Nat) (name too b : ByteArray) (w : World) (h : RX w r B s) (hk : k < s.files.length) (hk' : s.files.length ≤ 100000) (hl : s.acts.length ≤ 100000) (hdl : s.dir.length ≤ 100000) (hb : (getF s k).1.size + b.size ≤ 1000000000000) :
    Calls Try.prog 69 #[.pointer (some ⟨r, 0, none⟩), .int .i64 0, .int .i64 k, .string name, .string too, .string b] w fun e w' => e = .returned (.string ⟨#[]⟩) ∧ RX w' r (up w w' B) (putD s k b) ∧ Frm B w w' := by
  by_cases hz : b.size = 0
  · have hp : putD s k b = s := by unfold putD; rw [if_pos hz]
    have i1 : (b.size : Int) = 0 := by omega
    have i2 : decide ((0 : Int) < b.size) = false := decide_eq_false (by omega)
    have i3 : decide ((k : Int) < 0) = false := by simp
    rw [hp]
    clear hp hz
    go_enter Try.func69, Try.ntmps69
    go_wp2_with fail
    go_ret
    exact ⟨rfl, h.mono (fun _ h => .inl h), Frm.refl _ _⟩
  · obtain ⟨vf, vd, vs, va, vn, h, h0, h1, h2, h3, h4, h5⟩ := h
    have hp : putD s k b = { s with files := s.files.set k ((getF s k).1 ++ b, (getF s k).2), acts := s.acts ++ [.put k b.size] } := by unfold putD; rw [if_neg hz]
    rw [hp]
    clear hp
    have c0 := h.c0
    obtain ⟨g, cap, rfl, hle, f0, f1, fz⟩ := h.file hk
    have fzg := fz.frozen
    have hrlt := h.lt r (.inl rfl)
    have hne : r ≠ g := fun e => h.nf (by rw [e]; rfl)
    rw [getF_eq hk] at hb ⊢
    have hset := h.set_file (g := g) (i := k) (j := 0) (x := (s.files[k].1 ++ b, s.files[k].2)) (u := .string (s.files[k].1 ++ b)) rfl hk (by decide) rfl
    generalize hX : s.files[k] = X at *
    obtain ⟨Xb, Xs⟩ := X
    simp only [Nat.add_zero] at hset
    have i1 : (0 : Int) ≤ k := by omega
    have i2 : (k : Int) < s.files.length := by omega
    have i3 : (0 : Int) < b.size := by omega
    have i4 : decide ((k : Int) < 0) = false := by simp
    have i5 : Xb.size + b.size ≤ 1000000000000 := hb
    have hF : Frm B w (w.setCell ⟨g, k * 2, none⟩ (.string (Xb ++ b))) := (Frm.refl B w).setCell (p := ⟨g, k * 2, none⟩) (fun _ => h1 g rfl) _
    have hset' : RX (w.setCell ⟨g, k * 2, none⟩ (.string (Xb ++ b))) r B { s with files := s.files.set k (Xb ++ b, Xs) } := ⟨_, _, _, _, _, hset, h0, h1, h2, h3, h4, h5⟩
    have Hset := Lib.hid (And.intro hset' hF)
    have hcat : ∀ w, (Op.stringOp .add Xb b).run Try.prog w = .ok (.string (Xb ++ b)) w := fun w => run_string_add_sum w Xb b (by omega)
    clear hset hset' hF hX h h0 h1 h2 h3 h4 h5 fz hz hb
    go_enter Try.func69, Try.ntmps69
    go_wp2_with fail
    go_still_tail 17, (by kernel_rfl)
    go_wp2_with fail
    refine (ract_x (.put k b.size) _ ((Hset.out.1.frm (Frm.refl (fun _ => False) _).drew (fun _ _ h => h)).mono (C := up w (w.setCell ⟨g, k * 2, none⟩ (.string (Xb ++ b))).drew B) (fun _ h => .inl h)) hl hdl (fun _ _ h => by cases h)).mono ?_
    rintro e w2 ⟨rfl, hx, hf⟩
    have hN := RX.next Hset.out.2.drew hf hx
    clear hx hf
    go_wp2_with fail
    go_ret
    exact ⟨rfl, hN.1, hN.2⟩
end Go.Proofs.Ytngickhakedonaa

namespace Go.Proofs.Ytngickhakedonaa
open Go.RowKit Go.Tk Go.Dk

variable {r : Nat} {s : DS} {B : Nat → Prop}

theorem RX.put {w : World} (h : RX w r B s) {k : Nat} (hk : k < s.files.length) :
    ∃ g cap, w.cell? ⟨r, 0, none⟩ = some (.slice (some ⟨g, 0, none⟩) s.files.length cap) ∧ s.files.length ≤ cap ∧ w.cell? ⟨g, k * 2, none⟩ = some (.string (getF s k).1) ∧ w.cell? ⟨g, k * 2 + 1, none⟩ = some (.int .i64 (getF s k).2) ∧
      (∀ o, w.frozen? ⟨g, o, none⟩ = false) ∧ (∀ o, w.frozen? ⟨r, o, none⟩ = false) ∧ r < w.heap.size ∧ r ≠ g ∧
      (∀ y, RX (w.setCell ⟨g, k * 2, none⟩ (.string y)) r B { s with files := s.files.set k (y, (getF s k).2) } ∧ Frm B w (w.setCell ⟨g, k * 2, none⟩ (.string y))) ∧
      (∀ n : Nat, RX (w.setCell ⟨g, k * 2 + 1, none⟩ (.int .i64 n)) r B { s with files := s.files.set k ((getF s k).1, n) } ∧ Frm B w (w.setCell ⟨g, k * 2 + 1, none⟩ (.int .i64 n))) := by
  obtain ⟨vf, vd, vs, va, vn, h, h0, h1, h2, h3, h4, h5⟩ := h
  obtain ⟨g, cap, rfl, hle, f0, f1, fz⟩ := h.file hk
  rw [getF_eq hk]
  refine ⟨g, cap, h.c0, hle, f0, f1, fz.frozen, h.fz.frozen, h.lt r (.inl rfl), fun e => h.nf (by rw [e]; rfl), fun y => ⟨⟨_, _, _, _, _, ?_, h0, h1, h2, h3, h4, h5⟩, ?_⟩, fun n => ⟨⟨_, _, _, _, _, ?_, h0, h1, h2, h3, h4, h5⟩, ?_⟩⟩
  · exact h.set_file (g := g) (i := k) (j := 0) (x := (y, s.files[k].2)) (u := .string y) rfl hk (by decide) rfl
  · exact (Frm.refl B w).setCell (p := ⟨g, k * 2, none⟩) (fun _ => h1 g rfl) _
  · exact h.set_file (g := g) (i := k) (j := 1) (x := (s.files[k].1, n)) (u := .int .i64 n) rfl hk (by decide) rfl
  · exact (Frm.refl B w).setCell (p := ⟨g, k * 2 + 1, none⟩) (fun _ => h1 g rfl) _

/-- a new file lies in the row -/
theorem RX.grow {w w1 : World} (h : RX w r B s) {vf v : Value} (hv : w.cell? ⟨r, 0, none⟩ = some vf) (hf : Frm (fun b => vf.ownBlock = some b) w w1) {l : List Fl} (ho : w1.ownsRow 0 94 2 v l.length (l.flatMap flC)) (hat : v.ownBlock = vf.ownBlock ∨ ∀ b, v.ownBlock = some b → w.heap.size ≤ b) :
    RX (w1.setCell ⟨r, 0, none⟩ v) r (up w (w1.setCell ⟨r, 0, none⟩ v) B) { s with files := l } ∧ Frm B w (w1.setCell ⟨r, 0, none⟩ v) := by
  obtain ⟨vf', vd, vs, va, vn, h, h0, h1, h2, h3, h4, h5⟩ := h
  have e := h.c0
  rw [hv] at e
  cases e
  have hrlt := h.lt r (.inl rfl)
  have hsz := hf.size
  have hlt := fun b hb => (ho.lt b hb).2
  have hnr : ¬ vf.ownBlock = some r := h.nf
  -- the head, elsewhere
  have hr1 : RD w1 r (.slice none 0 0) vd vs va vn { s with files := [] } ∨ True := .inr trivial
  have hF : Frm (fun b => b = r) w1 (w1.setCell ⟨r, 0, none⟩ v) := (Frm.refl (fun b => b = r) w1).setCell (p := ⟨r, 0, none⟩) (fun _ => rfl) v
  have cc : ∀ o, o ≠ 0 → (w1.setCell ⟨r, 0, none⟩ v).cell? ⟨r, o, none⟩ = w.cell? ⟨r, o, none⟩ := fun o ho => (set_off _ _ _ _ _ _ (Ne.symm ho)).trans (hf.cell (p := ⟨r, o, none⟩) hrlt hnr)
  have oth : ∀ (u : Value), (∀ b, u.ownBlock = some b → ¬ rfp r vf b) → (∀ b, u.ownBlock = some b → b < w.heap.size) → (∀ b, u.ownBlock = some b → ¬ b = r) ∧ (∀ b, u.ownBlock = some b → ¬ vf.ownBlock = some b) ∧ ∀ b, u.ownBlock = some b → ¬ rfp r v b := by
    intro u hu hul
    refine ⟨fun b hb e => hu b hb (.inl e), fun b hb e => hu b hb (.inr e), ?_⟩
    rintro b hb (e | e)
    · exact hu b hb (.inl e)
    · rcases hat with hat | hat
      · exact hu b hb (.inr (by rw [← hat]; exact e))
      · have := hat b e; have := hul b hb; omega
  have od := oth vd h.nd h.dir.lt
  have os := oth vs h.ns h.sure.lt
  have oa := oth va h.na h.acts.lt
  have on := oth vn h.nn h.fails.lt
  have hvr : v.ownBlock ≠ some r := by
    intro e
    rcases hat with hat | hat
    · exact hnr (by rw [← hat]; exact e)
    · have := hat r e; omega
  refine ⟨⟨v, vd, vs, va, vn, ⟨?_, (cc 1 (by decide)).trans h.c1, (cc 2 (by decide)).trans h.c2, (cc 3 (by decide)).trans h.c3, (cc 4 (by decide)).trans h.c4, (cc 5 (by decide)).trans h.c5, (cc 6 (by decide)).trans h.c6, (cc 7 (by decide)).trans h.c7, (cc 8 (by decide)).trans h.c8, (h.fz.frm hf hnr).set _ _, row_frm ho hF (fun b hb e => hvr (e ▸ hb)), (h.dir.frm hf od.2.1).frm hF od.1, (h.sure.frm hf os.2.1).frm hF os.1, (h.acts.frm hf oa.2.1).frm hF oa.1, (h.fails.frm hf on.2.1).frm hF on.1, hvr, od.2.2, os.2.2, oa.2.2, on.2.2⟩, .inl h0, ?_, fun b hb => .inl (h2 b hb), fun b hb => .inl (h3 b hb), fun b hb => .inl (h4 b hb), fun b hb => .inl (h5 b hb)⟩, ?_⟩
  · exact set_same _ _ _ _ _ ((hf.cell (p := ⟨r, 0, none⟩) hrlt hnr).trans h.c0)
  · intro b hb
    rcases hat with hat | hat
    · exact .inl (h1 b (by rw [← hat]; exact hb))
    · exact .inr ⟨hat b hb, by have := hlt b hb; simpa using this⟩
  · exact (hf.mono (fun b _ hb => h1 b hb)).setCell (p := ⟨r, 0, none⟩) (fun _ => h0) v
end Go.Proofs.Ytngickhakedonaa

namespace Go.Proofs.Ytngickhakedonaa
open Go.RowKit Go.Tk Go.Dk

variable {r : Nat} {s : DS} {B : Nat → Prop}

theorem RX.head {w : World} (h : RX w r B s) : ∃ vf vd vs va, w.cell? ⟨r, 0, none⟩ = some vf ∧ w.ownsRow 0 94 2 vf s.files.length (s.files.flatMap flC) ∧ (∀ b, vf.ownBlock = some b → B b) ∧ w.cell? ⟨r, 1, none⟩ = some vd ∧ Rw nmC 2 w vd s.dir ∧
    w.cell? ⟨r, 2, none⟩ = some vs ∧ Rw nmC 2 w vs s.sure ∧ w.cell? ⟨r, 3, none⟩ = some va ∧ Rw acC 5 w va s.acts ∧ w.cell? ⟨r, 4, none⟩ = some (.int .i64 s.room) ∧ w.cell? ⟨r, 5, none⟩ = some (.int .i64 s.n) ∧ (∀ o, w.frozen? ⟨r, o, none⟩ = false) ∧ r < w.heap.size ∧ B r := by
  obtain ⟨vf, vd, vs, va, vn, h, h0, h1, h2, h3, h4, h5⟩ := h
  exact ⟨vf, vd, vs, va, h.c0, h.files, h1, h.c1, h.dir, h.c2, h.sure, h.c3, h.acts, h.c4, h.c5, h.fz.frozen, h.lt r (.inl rfl), h0⟩

theorem RX.set_sure {w : World} (h : RX w r B s) : ∃ vd, w.cell? ⟨r, 1, none⟩ = some vd ∧ RX (w.setCell ⟨r, 2, none⟩ vd) r B { s with sure := s.dir } ∧ Frm B w (w.setCell ⟨r, 2, none⟩ vd) := by
  obtain ⟨vf, vd, vs, va, vn, h, h0, h1, h2, h3, h4, h5⟩ := h
  exact ⟨vd, h.c1, ⟨_, _, _, _, _, RD.set_sure h h.dir h.nd, h0, h1, h2, h2, h4, h5⟩, (Frm.refl B w).setCell (p := ⟨r, 2, none⟩) (fun _ => h0) _⟩

/-- 'loose', laid into the head -/
theorem rloose_x (f : Int) (w : World) (h : RX w r B s) (hl : s.acts.length ≤ 100000) (hf1 : -1 ≤ f) (hf2 : f ≤ 1000000) :
    Calls Try.prog 77 #[.pointer (some ⟨r, 0, none⟩), .int .i64 f] w fun e w' => ∃ v' u, e = .returned v' ∧ (∃ ao n cap, v' = .slice ao n cap) ∧ w'.cell? ⟨r, 3, none⟩ = some u ∧ (∀ o, w'.frozen? ⟨r, o, none⟩ = false) ∧ RX (w'.setCell ⟨r, 3, none⟩ v') r (up w (w'.setCell ⟨r, 3, none⟩ v') B) { s with acts := s.acts.filter (lsA f) } ∧ Frm B w (w'.setCell ⟨r, 3, none⟩ v') := by
  obtain ⟨vf, vd, vs, va, vn, h, h0, h1, h2, h3, h4, h5⟩ := h
  refine (rloose_any f w h hl hf1 hf2).mono ?_
  rintro e w' ⟨v', rfl, ho, hf⟩
  have hk := h.keep hf
  obtain ⟨ao, cap, hv, _⟩ := row_slice ho
  have := RX_acts h h0 h1 h2 h3 h4 h5 (Frm.refl B w) ho hf
  exact ⟨v', va, rfl, ⟨ao, _, cap, hv⟩, hk.c3, hk.fz.frozen, this.1, this.2⟩

set_option maxRecDepth 100000 in
set_option maxHeartbeats 1000000 in
theorem rdoes_read (k : Nat) (name too b : ByteArray) (w : World) (h : RX w r B s) (hk : k < s.files.length) (hk' : s.files.length ≤ 100000) :
    Calls Try.prog 69 #[.pointer (some ⟨r, 0, none⟩), .int .i64 1, .int .i64 k, .string name, .string too, .string b] w fun e w' => e = .returned (.string (getF s k).1) ∧ w' = w := by
  obtain ⟨g, cap, c0, hle, f0, f1, _⟩ := RX.put h hk
  have i1 : (0 : Int) ≤ k := by omega
  have i2 : (k : Int) < s.files.length := by omega
  clear h
  go_enter Try.func69, Try.ntmps69
  go_wp2_with fail
  go_ret
  exact ⟨rfl, rfl⟩

set_option maxRecDepth 100000 in
set_option maxHeartbeats 1000000 in
theorem rdoes_sync (k : Nat) (name too b : ByteArray) (w : World) (h : RX w r B s) (hk : k < s.files.length) (hk' : s.files.length ≤ 100000) (hl : s.acts.length ≤ 100000) :
    Calls Try.prog 69 #[.pointer (some ⟨r, 0, none⟩), .int .i64 2, .int .i64 k, .string name, .string too, .string b] w fun e w' => e = .returned (.string ⟨#[]⟩) ∧
      RX w' r (up w w' B) { s with files := s.files.set k ((getF s k).1, (getF s k).1.size), acts := s.acts.filter (lsA k) } ∧ Frm B w w' := by
  obtain ⟨g, cap, c0, hle, f0, f1, fzg, fzr, hrlt, hne, _, hs⟩ := RX.put h hk
  have i1 : (0 : Int) ≤ k := by omega
  have i2 : (k : Int) < s.files.length := by omega
  have Hs := Lib.hid (hs (getF s k).1.size)
  generalize getF s k = X at *
  clear h hs
  go_enter Try.func69, Try.ntmps69
  go_wp2_with fail
  go_still_tail 16, (by kernel_rfl)
  go_wp2_with fail
  refine (rloose_x (B := up w (w.setCell ⟨g, k * 2 + 1, none⟩ (.int .i64 X.1.size)).drew B) (k : Int) _ ((Hs.out.1.frm (Frm.refl (fun _ => False) _).drew (fun _ _ h => h)).mono (fun _ h => .inl h)) hl (by omega) (by omega)).mono ?_
  rintro e w2 ⟨v, u, rfl, ⟨ao, n, cap2, rfl⟩, c3, fz2, hx, hf⟩
  have hN := Lib.hid (RX.next (Hs.out.2.drew) hf hx)
  clear hx hf
  go_wp2_with fail
  go_ret
  exact ⟨rfl, hN.out.1, hN.out.2⟩

set_option maxRecDepth 100000 in
set_option maxHeartbeats 1000000 in
theorem rdoes_dir (k : Int) (name too b : ByteArray) (w : World) (h : RX w r B s) (hl : s.acts.length ≤ 100000) :
    Calls Try.prog 69 #[.pointer (some ⟨r, 0, none⟩), .int .i64 3, .int .i64 k, .string name, .string too, .string b] w fun e w' => e = .returned (.string ⟨#[]⟩) ∧
      RX w' r (up w w' B) { s with sure := s.dir, acts := s.acts.filter (lsA (-1)) } ∧ Frm B w w' := by
  obtain ⟨vd, c1, hs⟩ := RX.set_sure h
  obtain ⟨vf, vd', vs, va, _, _, _, c1', hd, c2, _, _, _, _, _, fz, _⟩ := RX.head h
  rw [c1] at c1'
  cases c1'
  obtain ⟨ao, cap, rfl, _⟩ := hd
  have Hs := Lib.hid hs
  clear hs h
  go_enter Try.func69, Try.ntmps69
  go_wp2_with fail
  refine (rloose_x (B := up w (w.setCell ⟨r, 2, none⟩ (.slice ao s.dir.length cap)) B) (-1) _ (Hs.out.1.mono (fun _ h => .inl h)) hl (by omega) (by omega)).mono ?_
  rintro e w2 ⟨v, u, rfl, ⟨ao', n, cap2, rfl⟩, c3, fz2, hx, hf⟩
  have hN := Lib.hid (RX.next Hs.out.2 hf hx)
  clear hx hf
  go_wp2_with fail
  go_ret
  exact ⟨rfl, hN.out.1, hN.out.2⟩

set_option maxRecDepth 100000 in
set_option maxHeartbeats 1000000 in
theorem rdoes_rename (k : Int) (name too b : ByteArray) (w : World) (h : RX w r B s) (hl : s.acts.length ≤ 100000) (hdl : s.dir.length ≤ 100000) (hn : name ≠ too) (hin : (ofI s.dir name).isSome = true) :
    Calls Try.prog 69 #[.pointer (some ⟨r, 0, none⟩), .int .i64 4, .int .i64 k, .string name, .string too, .string b] w fun e w' => e = .returned (.string ⟨#[]⟩) ∧
      RX w' r (up w w' B) { s with acts := s.acts ++ [.mv name too], dir := doneD s.dir (.mv name too) } ∧ Frm B w w' := by
  have hne : (name.toList == too.toList) = false := (Lib.bytes_beq_false_iff name too).2 hn
  have Hn := Lib.hid hn
  clear hn
  go_enter Try.func69, Try.ntmps69
  go_wp2_with fail
  refine (ract_x (.mv name too) w h hl hdl (fun x y e => by cases e; exact hin)).mono ?_
  rintro e w2 ⟨rfl, hx, hf⟩
  have hN := Lib.hid (And.intro hx hf)
  clear hx hf
  go_wp2_with fail
  go_ret
  exact ⟨rfl, hN.out.1, hN.out.2⟩

theorem rdoes_rename_same (k : Int) (name b : ByteArray) (w : World) :
    Calls Try.prog 69 #[.pointer (some ⟨r, 0, none⟩), .int .i64 4, .int .i64 k, .string name, .string name, .string b] w fun e w' => e = .returned (.string ⟨#[]⟩) ∧ w' = w := by
  have hne : (name.toList == name.toList) = true := by simp
  go_enter Try.func69, Try.ntmps69
  go_wp2_with fail
  go_ret
  exact ⟨rfl, rfl⟩

set_option maxRecDepth 100000 in
set_option maxHeartbeats 1000000 in
theorem rdoes_remove (k : Int) (name too b : ByteArray) (w : World) (h : RX w r B s) (hl : s.acts.length ≤ 100000) (hdl : s.dir.length ≤ 100000) :
    Calls Try.prog 69 #[.pointer (some ⟨r, 0, none⟩), .int .i64 5, .int .i64 k, .string name, .string too, .string b] w fun e w' => e = .returned (.string ⟨#[]⟩) ∧
      RX w' r (up w w' B) { s with acts := s.acts ++ [.rm name], dir := wo s.dir name } ∧ Frm B w w' := by
  go_enter Try.func69, Try.ntmps69
  go_wp2_with fail
  refine (ract_x (.rm name) w h hl hdl (fun x y e => by cases e)).mono ?_
  rintro e w2 ⟨rfl, hx, hf⟩
  have hN := Lib.hid (And.intro hx hf)
  clear hx hf
  go_wp2_with fail
  go_ret
  exact ⟨rfl, hN.out.1, hN.out.2⟩
end Go.Proofs.Ytngickhakedonaa

namespace Go.Proofs.Ytngickhakedonaa
open Go.RowKit Go.Tk Go.Dk

variable {r : Nat} {s : DS} {B : Nat → Prop}

/-- a new file: its row, its act -/
theorem newD_putD (s : DS) (name : ByteArray) : (newD s name).files.length = s.files.length + 1 := by simp [newD]

theorem RX.new_step {w : World} (h : RX w r B s) {vf : Value} (c0 : w.cell? ⟨r, 0, none⟩ = some vf) (hown : w.ownsRow 0 94 2 vf s.files.length (s.files.flatMap flC)) {o : Obj} {v' : Value} {wa : World}
    (h1 : wa.ownsRow 0 94 2 v' (s.files.length + 1) (s.files.flatMap flC ++ [.string ⟨#[]⟩, .int .i64 0])) (h2 : (w.alloc o).grownBy wa vf.ownBlock) (h3 : v'.ownBlock = vf.ownBlock ∨ v'.ownBlock = some (w.alloc o).heap.size) :
    wa.cell? ⟨r, 0, none⟩ = some vf ∧ (∀ o, wa.frozen? ⟨r, o, none⟩ = false) ∧ (∃ ao cap, v' = .slice ao (s.files.length + 1) cap) ∧
      RX (wa.setCell ⟨r, 0, none⟩ v') r (up w (wa.setCell ⟨r, 0, none⟩ v') B) { s with files := s.files ++ [(⟨#[]⟩, 0)] } ∧ Frm B w (wa.setCell ⟨r, 0, none⟩ v') := by
  obtain ⟨vf', vd, vs, va, vn, hr, h0⟩ := id h
  have e := hr.c0
  rw [c0] at e
  cases e
  have hF : Frm (fun b => vf.ownBlock = some b) w wa := ((Frm.refl _ w).alloc _).trans' (Frm.of_grown (S := fun b => vf.ownBlock = some b) h2 (fun k hk _ => hk)) (fun _ _ h => h)
  have hrlt := hr.lt r (.inl rfl)
  obtain ⟨ao, cap, hv, _⟩ := row_slice h1
  refine ⟨(hF.cell (p := ⟨r, 0, none⟩) hrlt hr.nf).trans c0, fun o => (hF.frozen (p := ⟨r, o, none⟩) hrlt hr.nf).trans (hr.fz.frozen o), ⟨ao, cap, hv⟩, ?_⟩
  refine RX.grow h c0 hF (l := s.files ++ [(⟨#[]⟩, 0)]) ?_ ?_
  · rw [List.length_append, List.flatMap_append]
    exact h1
  · rcases h3 with h3 | h3
    · exact .inl h3
    · right
      intro b hb
      rw [h3] at hb
      cases hb
      simp

set_option maxRecDepth 100000 in
set_option maxHeartbeats 2000000 in
theorem rdoes_new (name too b : ByteArray) (w : World) (h : RX w r B s) (hk' : s.files.length ≤ 10000) (hl : s.acts.length ≤ 10000) (hdl : s.dir.length ≤ 10000) (hb : b.size ≤ 100000000000) :
    Calls Try.prog 69 #[.pointer (some ⟨r, 0, none⟩), .int .i64 0, .int .i64 (-1), .string name, .string too, .string b] w fun e w' => e = .returned (.string ⟨#[]⟩) ∧ RX w' r (up w w' B) (putD (newD s name) s.files.length b) ∧ Frm B w w' := by
  obtain ⟨vf, vd, vs, va, c0, hfiles, hfB, c1, _, _, _, _, _, _, _, fz, hrlt, hBr⟩ := RX.head h
  obtain ⟨i0, hi, hz0, hz1, hz2⟩ := info_parts info94
  have Step := Lib.hid (fun (v' : Value) (wa : World) o h1 h2 h3 => RX.new_step h c0 hfiles (o := o) (v' := v') (wa := wa) h1 h2 h3)
  have H := Lib.hid hfiles
  have Q := app_facts w [.string ⟨#[]⟩, .int .i64 0] 94 s.files.length 24 0 (by simp [Value.oneCell']) (by omega) (by decide) (Nat.zero_le _)
  obtain ⟨ao, cap, hvf, _⟩ := row_slice hfiles
  subst hvf
  clear h hfiles hfB
  go_enter Try.func69, Try.ntmps69
  go_wp2_with (first | (at_builtin; refine wpList_append_own_at _ rfl _ _ 80 rfl 0 94 i0 _ 2 24 Try.underlying80 hi hz0 hz1 hz2 rfl (by decide) _ _ _ rfl (H.out.alloc _) ⟨w.heap.size, 0, none⟩ 1 1 [.string ⟨#[]⟩, .int .i64 0] rfl rfl Q.out.1 Q.out.2.1 Q.out.2.2.1 Q.out.2.2.2.1 Q.out.2.2.2.2 ?_; intro v' wa hown hgrow _ hat; have St := Step.out v' wa _ hown hgrow hat; clear hown hat hgrow c0 c1 fz; obtain ⟨c0a, fza, ⟨ao2, cap2, hv2⟩, St1⟩ := St; subst hv2; have St2 := Lib.hid St1; clear St1))
  refine (ract_x (.mk name s.files.length) _ St2.out.1 (by show s.acts.length ≤ 100000; omega) (by show s.dir.length ≤ 100000; omega) (fun _ _ h => by cases h)).mono ?_
  rintro e w2 ⟨rfl, hx, hf⟩
  have hN := RX.next St2.out.2 hf hx
  have hN1 : RX w2 r (up w w2 B) (newD s name) := hN.1
  have hN2 := hN.2
  clear hx hf hN c0a fza St2 Step H Q
  by_cases hz : b.size = 0
  · have hp : putD (newD s name) s.files.length b = newD s name := by unfold putD; rw [if_pos hz]
    have i1 : (b.size : Int) = 0 := by omega
    have i2 : decide ((0 : Int) < b.size) = false := decide_eq_false (by omega)
    have HP := Lib.hid hp
    clear hp hz
    go_wp2_with fail
    go_ret
    refine ⟨rfl, ?_, hN2⟩
    rw [HP.out]
    exact hN1
  · have hp : putD (newD s name) s.files.length b = { newD s name with files := (newD s name).files.set s.files.length ((getF (newD s name) s.files.length).1 ++ b, (getF (newD s name) s.files.length).2), acts := (newD s name).acts ++ [.put s.files.length b.size] } := by unfold putD; rw [if_neg hz]
    have hk2 : s.files.length < (newD s name).files.length := by rw [newD_putD]; omega
    have hgf : getF (newD s name) s.files.length = (⟨#[]⟩, 0) := by rw [getF_eq hk2]; simp [newD]
    obtain ⟨g, cap3, c0b, hle, f0, f1, fzg, fzr, hrlt2, hne, hs, _⟩ := RX.put hN1 hk2
    rw [hgf] at hs f0 f1 hp
    have hs1 := hs (⟨#[]⟩ ++ b)
    have i1 : (0 : Int) ≤ s.files.length := by omega
    have i2 : (s.files.length : Int) < (newD s name).files.length := by omega
    have i3 : (0 : Int) < b.size := by omega
    have hcat : ∀ w, (Op.stringOp .add ⟨#[]⟩ b).run Try.prog w = .ok (.string (⟨#[]⟩ ++ b)) w := fun w => run_string_add_sum w _ b (by show 0 + b.size ≤ _; omega)
    have Hs := Lib.hid (And.intro hs1 (And.intro hp (And.intro hN2 hN1)))
    generalize hT : newD s name = t at *
    have hal : t.acts.length ≤ 100000 := by rw [← hT]; simp [newD]; omega
    have hdl2 : t.dir.length ≤ 100000 := by rw [← hT]; simp [newD, wi_len]; omega
    have HT := Lib.hid hT
    clear hs hs1 hp hN1 hN2 hz hgf hT
    go_wp2_with fail
    go_still_tail 17, (by kernel_rfl)
    go_wp2_with fail
    refine (ract_x (B := up w (w2.setCell ⟨g, s.files.length * 2, none⟩ (.string (⟨#[]⟩ ++ b))).drew B) (.put s.files.length b.size) _ ((Hs.out.1.1.frm (Frm.refl (fun _ => False) _).drew (fun _ _ h => h)).mono (fun c hc => ?_)) hal hdl2 (fun _ _ h => by cases h)).mono ?_
    · rcases hc with hc | hc
      · exact .inl hc
      · exact .inr ⟨hc.1, by simpa using hc.2⟩
    rintro e w3 ⟨rfl, hx, hf⟩
    have hF2 : Frm B w (w2.setCell ⟨g, s.files.length * 2, none⟩ (.string (⟨#[]⟩ ++ b))).drew := (Hs.out.2.2.1.trans' Hs.out.1.2 (fun b hb h => h.resolve_right (by omega))).drew
    have hN := Lib.hid (RX.next hF2 hf hx)
    clear hx hf hF2
    go_wp2_with fail
    go_ret
    refine ⟨rfl, ?_, hN.out.2⟩
    rw [HT.out, Hs.out.2.1]
    exact hN.out.1
end Go.Proofs.Ytngickhakedonaa

namespace Go.Proofs.Ytngickhakedonaa
open Go.RowKit Go.Tk Go.Dk

variable {r : Nat} {s : DS} {B : Nat → Prop}

structure Wf (s : DS) : Prop where
  fl : s.files.length ≤ 10000
  al : s.acts.length ≤ 10000
  dl : s.dir.length ≤ 10000
  nl : s.fails.length ≤ 10000
  n : s.n ≤ 1000000
  inn : ∀ x ∈ s.dir, x.2 < s.files.length
  us : used s ≤ 100000000000
  each : ∀ k, (getF s k).2 ≤ (getF s k).1.size ∧ (getF s k).1.size ≤ 100000000000

def failD (s : DS) (kind k : Nat) : DS :=
  if kind = 2 then { s with files := s.files.set k ((getF s k).1.extract 0 (getF s k).2, (getF s k).2), acts := s.acts.filter (lsA k) }
  else if kind = 3 then { s with dir := s.sure, acts := s.acts.filter (lsA (-1)) } else s
def doesD (s : DS) (kind : Nat) (name too b : ByteArray) : DS :=
  match kind with
  | 0 => match ofI s.dir name with
    | some k => putD s k b
    | none => putD (newD s name) s.files.length b
  | 2 => { s with files := s.files.set ((ofI s.dir name).getD 0) ((getF s ((ofI s.dir name).getD 0)).1, (getF s ((ofI s.dir name).getD 0)).1.size), acts := s.acts.filter (lsA ((ofI s.dir name).getD 0 : Nat)) }
  | 3 => { s with sure := s.dir, acts := s.acts.filter (lsA (-1)) }
  | 4 => if name = too then s else { s with acts := s.acts ++ [.mv name too], dir := doneD s.dir (.mv name too) }
  | 5 => { s with acts := s.acts ++ [.rm name], dir := wo s.dir name }
  | _ => s
def outD (s : DS) (kind : Nat) (name : ByteArray) : ByteArray := if kind = 1 then (getF s ((ofI s.dir name).getD 0)).1 else ⟨#[]⟩

/-- an operation: what it reads; its error; the disk behind it -/
def doD (s : DS) (kind : Nat) (name too b : ByteArray) : ByteArray × Int × DS :=
  if gone s = true then (⟨#[]⟩, 35, { s with off := true })
  else if (kind ≠ 3 ∧ okName name = false) ∨ (kind = 4 ∧ okName too = false) then (⟨#[]⟩, 30, { s with n := s.n + 1 })
  else if kind ≠ 3 ∧ kind ≠ 0 ∧ ofI s.dir name = none then (⟨#[]⟩, 32, { s with n := s.n + 1 })
  else if kind = 0 ∧ 0 < b.size ∧ s.room < used s + b.size then (⟨#[]⟩, 33, { s with n := s.n + 1 })
  else if (s.n : Int) ∈ s.fails then (⟨#[]⟩, 34, failD { s with n := s.n + 1 } kind ((ofI s.dir name).getD 0))
  else (outD s kind name, 0, doesD { s with n := s.n + 1 } kind name too b)

/-- 'starts', at the disk -/
theorem rstarts_x (w : World) (h : RX w r B s) (hn : s.n ≤ 1000000) :
    Calls Try.prog 63 #[.pointer (some ⟨r, 0, none⟩)] w fun e w' => e = .returned (.tuple #[.int .i64 (if gone s = true then 0 else s.n), .bool (!gone s)]) ∧ RX w' r B (if gone s = true then { s with off := true } else { s with n := s.n + 1 }) ∧ Frm B w w' := by
  obtain ⟨vf, vd, vs, va, vn, h, h0, h1, h2, h3, h4, h5⟩ := h
  by_cases hg : gone s = true
  · rw [if_pos hg, if_pos hg, hg]
    refine (rstarts_gone w h hg).mono ?_
    rintro e w' ⟨rfl, hr, hf⟩
    exact ⟨rfl, ⟨_, _, _, _, _, hr, h0, h1, h2, h3, h4, h5⟩, hf.mono (fun b _ e => e ▸ h0)⟩
  · rw [if_neg hg, if_neg hg, Bool.eq_false_iff.2 hg]
    refine (rstarts_on w h (Bool.eq_false_iff.2 hg) hn).mono ?_
    rintro e w' ⟨rfl, hr, hf⟩
    exact ⟨rfl, ⟨_, _, _, _, _, hr, h0, h1, h2, h3, h4, h5⟩, hf.mono (fun b _ e => e ▸ h0)⟩

theorem rfailing_x (n : Nat) (w : World) (h : RX w r B s) (hl : s.fails.length ≤ 1000000) :
    Calls Try.prog 67 #[.pointer (some ⟨r, 0, none⟩), .int .i64 n] w fun e w' => e = .returned (.bool (decide ((n : Int) ∈ s.fails))) ∧ Frm (fun _ => False) w w' := by
  obtain ⟨vf, vd, vs, va, vn, h, _⟩ := h
  exact rfailing_any n w h hl

theorem rused_x (w : World) (h : RX w r B s) (hl : s.dir.length ≤ 1000000) (hfl : s.files.length ≤ 1000000) (hin : ∀ x ∈ s.dir, x.2 < s.files.length) (hb : used s ≤ 1000000000000) :
    Calls Try.prog 66 #[.pointer (some ⟨r, 0, none⟩)] w fun e w' => e = .returned (.int .i64 (used s)) ∧ ∃ m, w' = w.drewN m := by
  obtain ⟨vf, vd, vs, va, vn, h, _⟩ := h
  exact rused_any w h hl hfl hin hb

theorem RX.keep {w w' : World} (h : RX w r B s) (hf : Frm (fun _ => False) w w') : RX w' r B s := h.frm hf (fun _ _ h => h)
theorem keepF {w w' : World} {B : Nat → Prop} (h : Frm (fun _ => False) w w') : Frm B w w' := h.mono (fun _ _ h => h.elim)

theorem ofI_lt {l : List Nm} {s : ByteArray} {k n : Nat} (h : ofI l s = some k) (hin : ∀ x ∈ l, x.2 < n) : k < n := by
  unfold ofI at h
  cases hf : l.find? (fun x => decide (x.1 = s)) with
  | none => rw [hf] at h; cases h
  | some x =>
    rw [hf] at h
    simp at h
    rw [← h]
    exact hin x (List.mem_of_find?_eq_some hf)

set_option maxRecDepth 100000 in
set_option maxHeartbeats 2000000 in
theorem rdo_5 (name too b : ByteArray) (w : World) (h : RX w r B s) (hw : Wf s) (hn : name.size ≤ 2305843009213693952) (ht : too.size ≤ 2305843009213693952) :
    Calls Try.prog 43 #[.pointer (some ⟨r, 0, none⟩), .int .i64 5, .string name, .string too, .string b] w fun e w' => e = .returned (.tuple #[.string (doD s 5 name too b).1, .int .i64 (doD s 5 name too b).2.1]) ∧ RX w' r (up w w' B) (doD s 5 name too b).2.2 ∧ Frm B w w' := by
  obtain ⟨D, hD⟩ : ∃ D, doD s 5 name too b = D := ⟨_, rfl⟩
  rw [hD]
  have HD := Lib.hid hD
  clear hD
  have HW := Lib.hid hw
  clear hw
  go_enter Try.func43, Try.ntmps43
  go_wp2_with fail
  refine (rstarts_x w h HW.out.n).mono ?_
  rintro e w1 ⟨rfl, h1, hf1⟩
  by_cases hg : gone s = true
  · have hd : doD s 5 name too b = (⟨#[]⟩, 35, { s with off := true }) := by unfold doD; rw [if_pos hg]
    obtain rfl := HD.out.symm.trans hd
    rw [hg]
    rw [if_pos hg] at h1
    clear hd hg
    go_wp2_with fail
    go_ret2
    exact ⟨rfl, h1.mono (fun _ h => .inl h), hf1⟩
  · rw [if_neg hg] at h1
    have hg' : gone s = false := Bool.eq_false_iff.2 hg
    have Hg := Lib.hid hg
    rw [if_neg hg, hg']
    clear hg hg'
    go_wp2_with fail
    refine (isName_any name w1 hn).mono ?_
    rintro e w2 ⟨rfl, hf2⟩
    go_wp2_with fail
    refine (isName_any too w2 ht).mono ?_
    rintro e w3 ⟨rfl, hf3⟩
    have h3 := RX.keep h1 (hf2.trans hf3)
    have F3 : Frm B w w3 := hf1.trans (keepF (hf2.trans hf3))
    clear h1 hf2 hf3 hf1
    cases ho : okName name with
    | false =>
      have hd : doD s 5 name too b = (⟨#[]⟩, 30, { s with n := s.n + 1 }) := by unfold doD; rw [if_neg Hg.out, if_pos (.inl ⟨by decide, ho⟩)]
      obtain rfl := HD.out.symm.trans hd
      clear hd ho
      go_wp2_with fail
      go_ret2
      exact ⟨rfl, h3.mono (fun _ h => .inl h), F3⟩
    | true =>
      obtain ⟨vf, vd, vs, va, _, _, _, c1, hdir, _, _, _, _, _, _, fz, hrlt, hBr⟩ := RX.head h3
      have Hdir := Lib.hid hdir
      obtain ⟨ao, cap, hv, _⟩ := hdir
      subst hv
      have Ho := Lib.hid ho
      clear ho
      go_wp2_with fail
      refine (of_any _ s.dir name w3 Hdir.out (by have := HW.out.dl; omega)).mono ?_
      rintro e w4 ⟨rfl, hf4⟩
      have h4 := RX.keep h3 hf4
      have F4 : Frm B w w4 := F3.trans (keepF hf4)
      clear h3 hf4 F3 c1 fz Hdir
      cases hk : ofI s.dir name with
      | none =>
        have hd : doD s 5 name too b = (⟨#[]⟩, 32, { s with n := s.n + 1 }) := by unfold doD; rw [if_neg Hg.out, if_neg (by simp [Ho.out]), if_pos ⟨by decide, by decide, hk⟩]
        have hz : ofZ s.dir name = -1 := by simp [ofZ, hk]
        obtain rfl := HD.out.symm.trans hd
        rw [hz]
        clear hd hz hk
        go_wp2_with fail
        go_ret2
        exact ⟨rfl, h4.mono (fun _ h => .inl h), F4⟩
      | some k =>
        have hz : ofZ s.dir name = (k : Nat) := by simp [ofZ, hk]
        have Hk := Lib.hid hk
        have hkl : k < s.files.length := ofI_lt hk HW.out.inn
        rw [hz]
        have i1 : decide ((k : Int) < 0) = false := by simp
        have i2 : (0 : Int) ≤ k := by omega
        clear hz hk
        go_wp2_with fail
        go_quiet (fail)
        replace h4 := RX.keep h4 ((Frm.refl (fun _ => False) w4).drewN nq)
        replace F4 := F4.drewN nq
        go_wp2_with fail
        refine (rfailing_x s.n _ h4 (by have := HW.out.nl; show s.fails.length ≤ _; omega)).mono ?_
        rintro e w5 ⟨rfl, hf5⟩
        have h5 := RX.keep h4 hf5
        have F5 : Frm B w w5 := F4.trans (keepF hf5)
        clear h4 hf5 F4
        by_cases hfl : (s.n : Int) ∈ s.fails
        · have hd : doD s 5 name too b = (⟨#[]⟩, 34, failD { s with n := s.n + 1 } 5 k) := by unfold doD; rw [if_neg Hg.out, if_neg (by simp [Ho.out]), if_neg (by simp [Hk.out]), if_neg (by simp), if_pos hfl, Hk.out]; rfl
          obtain rfl := HD.out.symm.trans hd
          rw [decide_eq_true (p := (s.n : Int) ∈ ({ s with n := s.n + 1 } : DS).fails) hfl]
          clear hd hfl
          go_wp2_with fail
          refine (rfail_no 5 k w5 (by decide) (by decide)).mono ?_
          rintro e w6 ⟨rfl, rfl⟩
          go_wp2_with fail
          go_ret2
          exact ⟨rfl, h5.mono (fun _ h => .inl h), F5⟩
        · have hd : doD s 5 name too b = (outD s 5 name, 0, doesD { s with n := s.n + 1 } 5 name too b) := by unfold doD; rw [if_neg Hg.out, if_neg (by simp [Ho.out]), if_neg (by simp [Hk.out]), if_neg (by simp), if_neg hfl]
          obtain rfl := HD.out.symm.trans hd
          rw [decide_eq_false (p := (s.n : Int) ∈ ({ s with n := s.n + 1 } : DS).fails) hfl]
          clear hd hfl
          go_wp2_with fail
          refine (rdoes_remove (B := up w w5 B) k name too b w5 (h5.mono (fun _ h => .inl h)) (by have := HW.out.al; show s.acts.length ≤ _; omega) (by have := HW.out.dl; show s.dir.length ≤ _; omega)).mono ?_
          rintro e w6 ⟨rfl, hx, hf⟩
          have hN := Lib.hid (RX.next F5 hf hx)
          clear hx hf
          go_wp2_with fail
          go_ret2
          exact ⟨rfl, hN.out.1, hN.out.2⟩

set_option maxRecDepth 100000 in
set_option maxHeartbeats 2000000 in
theorem rdo_1 (name too b : ByteArray) (w : World) (h : RX w r B s) (hw : Wf s) (hn : name.size ≤ 2305843009213693952) (ht : too.size ≤ 2305843009213693952) :
    Calls Try.prog 43 #[.pointer (some ⟨r, 0, none⟩), .int .i64 1, .string name, .string too, .string b] w fun e w' => e = .returned (.tuple #[.string (doD s 1 name too b).1, .int .i64 (doD s 1 name too b).2.1]) ∧ RX w' r (up w w' B) (doD s 1 name too b).2.2 ∧ Frm B w w' := by
  obtain ⟨D, hD⟩ : ∃ D, doD s 1 name too b = D := ⟨_, rfl⟩
  rw [hD]
  have HD := Lib.hid hD
  clear hD
  have HW := Lib.hid hw
  clear hw
  go_enter Try.func43, Try.ntmps43
  go_wp2_with fail
  refine (rstarts_x w h HW.out.n).mono ?_
  rintro e w1 ⟨rfl, h1, hf1⟩
  by_cases hg : gone s = true
  · have hd : doD s 1 name too b = (⟨#[]⟩, 35, { s with off := true }) := by unfold doD; rw [if_pos hg]
    obtain rfl := HD.out.symm.trans hd
    rw [hg]
    rw [if_pos hg] at h1
    clear hd hg
    go_wp2_with fail
    go_ret2
    exact ⟨rfl, h1.mono (fun _ h => .inl h), hf1⟩
  · rw [if_neg hg] at h1
    have hg' : gone s = false := Bool.eq_false_iff.2 hg
    have Hg := Lib.hid hg
    rw [if_neg hg, hg']
    clear hg hg'
    go_wp2_with fail
    refine (isName_any name w1 hn).mono ?_
    rintro e w2 ⟨rfl, hf2⟩
    go_wp2_with fail
    refine (isName_any too w2 ht).mono ?_
    rintro e w3 ⟨rfl, hf3⟩
    have h3 := RX.keep h1 (hf2.trans hf3)
    have F3 : Frm B w w3 := hf1.trans (keepF (hf2.trans hf3))
    clear h1 hf2 hf3 hf1
    cases ho : okName name with
    | false =>
      have hd : doD s 1 name too b = (⟨#[]⟩, 30, { s with n := s.n + 1 }) := by unfold doD; rw [if_neg Hg.out, if_pos (.inl ⟨by decide, ho⟩)]
      obtain rfl := HD.out.symm.trans hd
      clear hd ho
      go_wp2_with fail
      go_ret2
      exact ⟨rfl, h3.mono (fun _ h => .inl h), F3⟩
    | true =>
      obtain ⟨vf, vd, vs, va, _, _, _, c1, hdir, _, _, _, _, _, _, fz, hrlt, hBr⟩ := RX.head h3
      have Hdir := Lib.hid hdir
      obtain ⟨ao, cap, hv, _⟩ := hdir
      subst hv
      have Ho := Lib.hid ho
      clear ho
      go_wp2_with fail
      refine (of_any _ s.dir name w3 Hdir.out (by have := HW.out.dl; omega)).mono ?_
      rintro e w4 ⟨rfl, hf4⟩
      have h4 := RX.keep h3 hf4
      have F4 : Frm B w w4 := F3.trans (keepF hf4)
      clear h3 hf4 F3 c1 fz Hdir
      cases hk : ofI s.dir name with
      | none =>
        have hd : doD s 1 name too b = (⟨#[]⟩, 32, { s with n := s.n + 1 }) := by unfold doD; rw [if_neg Hg.out, if_neg (by simp [Ho.out]), if_pos ⟨by decide, by decide, hk⟩]
        have hz : ofZ s.dir name = -1 := by simp [ofZ, hk]
        obtain rfl := HD.out.symm.trans hd
        rw [hz]
        clear hd hz hk
        go_wp2_with fail
        go_ret2
        exact ⟨rfl, h4.mono (fun _ h => .inl h), F4⟩
      | some k =>
        have hz : ofZ s.dir name = (k : Nat) := by simp [ofZ, hk]
        have Hk := Lib.hid hk
        have hkl : k < s.files.length := ofI_lt hk HW.out.inn
        rw [hz]
        have i1 : decide ((k : Int) < 0) = false := by simp
        have i2 : (0 : Int) ≤ k := by omega
        clear hz hk
        go_wp2_with fail
        go_quiet (fail)
        replace h4 := RX.keep h4 ((Frm.refl (fun _ => False) w4).drewN nq)
        replace F4 := F4.drewN nq
        go_wp2_with fail
        refine (rfailing_x s.n _ h4 (by have := HW.out.nl; show s.fails.length ≤ _; omega)).mono ?_
        rintro e w5 ⟨rfl, hf5⟩
        have h5 := RX.keep h4 hf5
        have F5 : Frm B w w5 := F4.trans (keepF hf5)
        clear h4 hf5 F4
        by_cases hfl : (s.n : Int) ∈ s.fails
        · have hd : doD s 1 name too b = (⟨#[]⟩, 34, failD { s with n := s.n + 1 } 1 k) := by unfold doD; rw [if_neg Hg.out, if_neg (by simp [Ho.out]), if_neg (by simp [Hk.out]), if_neg (by simp), if_pos hfl, Hk.out]; rfl
          obtain rfl := HD.out.symm.trans hd
          rw [decide_eq_true (p := (s.n : Int) ∈ ({ s with n := s.n + 1 } : DS).fails) hfl]
          clear hd hfl
          go_wp2_with fail
          refine (rfail_no 1 k w5 (by decide) (by decide)).mono ?_
          rintro e w6 ⟨rfl, rfl⟩
          go_wp2_with fail
          go_ret2
          exact ⟨rfl, h5.mono (fun _ h => .inl h), F5⟩
        · have hd : doD s 1 name too b = (outD s 1 name, 0, doesD { s with n := s.n + 1 } 1 name too b) := by unfold doD; rw [if_neg Hg.out, if_neg (by simp [Ho.out]), if_neg (by simp [Hk.out]), if_neg (by simp), if_neg hfl]
          have hd2 : doD s 1 name too b = ((getF ({ s with n := s.n + 1 } : DS) k).1, 0, { s with n := s.n + 1 }) := hd.trans (by unfold outD; rw [if_pos rfl, Hk.out]; rfl)
          obtain rfl := HD.out.symm.trans hd2
          rw [decide_eq_false (p := (s.n : Int) ∈ ({ s with n := s.n + 1 } : DS).fails) hfl]
          clear hd hd2 hfl
          go_wp2_with fail
          refine (rdoes_read k name too b w5 h5 hkl (by have := HW.out.fl; show s.files.length ≤ _; omega)).mono ?_
          rintro e w6 ⟨rfl, rfl⟩
          go_wp2_with fail
          go_ret2
          exact ⟨rfl, h5.mono (fun _ h => .inl h), F5⟩

set_option maxRecDepth 100000 in
set_option maxHeartbeats 2000000 in
theorem rdo_2 (name too b : ByteArray) (w : World) (h : RX w r B s) (hw : Wf s) (hn : name.size ≤ 2305843009213693952) (ht : too.size ≤ 2305843009213693952) :
    Calls Try.prog 43 #[.pointer (some ⟨r, 0, none⟩), .int .i64 2, .string name, .string too, .string b] w fun e w' => e = .returned (.tuple #[.string (doD s 2 name too b).1, .int .i64 (doD s 2 name too b).2.1]) ∧ RX w' r (up w w' B) (doD s 2 name too b).2.2 ∧ Frm B w w' := by
  obtain ⟨D, hD⟩ : ∃ D, doD s 2 name too b = D := ⟨_, rfl⟩
  rw [hD]
  have HD := Lib.hid hD
  clear hD
  have HW := Lib.hid hw
  clear hw
  go_enter Try.func43, Try.ntmps43
  go_wp2_with fail
  refine (rstarts_x w h HW.out.n).mono ?_
  rintro e w1 ⟨rfl, h1, hf1⟩
  by_cases hg : gone s = true
  · have hd : doD s 2 name too b = (⟨#[]⟩, 35, { s with off := true }) := by unfold doD; rw [if_pos hg]
    obtain rfl := HD.out.symm.trans hd
    rw [hg]
    rw [if_pos hg] at h1
    clear hd hg
    go_wp2_with fail
    go_ret2
    exact ⟨rfl, h1.mono (fun _ h => .inl h), hf1⟩
  · rw [if_neg hg] at h1
    have hg' : gone s = false := Bool.eq_false_iff.2 hg
    have Hg := Lib.hid hg
    rw [if_neg hg, hg']
    clear hg hg'
    go_wp2_with fail
    refine (isName_any name w1 hn).mono ?_
    rintro e w2 ⟨rfl, hf2⟩
    go_wp2_with fail
    refine (isName_any too w2 ht).mono ?_
    rintro e w3 ⟨rfl, hf3⟩
    have h3 := RX.keep h1 (hf2.trans hf3)
    have F3 : Frm B w w3 := hf1.trans (keepF (hf2.trans hf3))
    clear h1 hf2 hf3 hf1
    cases ho : okName name with
    | false =>
      have hd : doD s 2 name too b = (⟨#[]⟩, 30, { s with n := s.n + 1 }) := by unfold doD; rw [if_neg Hg.out, if_pos (.inl ⟨by decide, ho⟩)]
      obtain rfl := HD.out.symm.trans hd
      clear hd ho
      go_wp2_with fail
      go_ret2
      exact ⟨rfl, h3.mono (fun _ h => .inl h), F3⟩
    | true =>
      obtain ⟨vf, vd, vs, va, _, _, _, c1, hdir, _, _, _, _, _, _, fz, hrlt, hBr⟩ := RX.head h3
      have Hdir := Lib.hid hdir
      obtain ⟨ao, cap, hv, _⟩ := hdir
      subst hv
      have Ho := Lib.hid ho
      clear ho
      go_wp2_with fail
      refine (of_any _ s.dir name w3 Hdir.out (by have := HW.out.dl; omega)).mono ?_
      rintro e w4 ⟨rfl, hf4⟩
      have h4 := RX.keep h3 hf4
      have F4 : Frm B w w4 := F3.trans (keepF hf4)
      clear h3 hf4 F3 c1 fz Hdir
      cases hk : ofI s.dir name with
      | none =>
        have hd : doD s 2 name too b = (⟨#[]⟩, 32, { s with n := s.n + 1 }) := by unfold doD; rw [if_neg Hg.out, if_neg (by simp [Ho.out]), if_pos ⟨by decide, by decide, hk⟩]
        have hz : ofZ s.dir name = -1 := by simp [ofZ, hk]
        obtain rfl := HD.out.symm.trans hd
        rw [hz]
        clear hd hz hk
        go_wp2_with fail
        go_ret2
        exact ⟨rfl, h4.mono (fun _ h => .inl h), F4⟩
      | some k =>
        have hz : ofZ s.dir name = (k : Nat) := by simp [ofZ, hk]
        have Hk := Lib.hid hk
        have hkl : k < s.files.length := ofI_lt hk HW.out.inn
        rw [hz]
        have i1 : decide ((k : Int) < 0) = false := by simp
        have i2 : (0 : Int) ≤ k := by omega
        clear hz hk
        go_wp2_with fail
        go_quiet (fail)
        replace h4 := RX.keep h4 ((Frm.refl (fun _ => False) w4).drewN nq)
        replace F4 := F4.drewN nq
        go_wp2_with fail
        refine (rfailing_x s.n _ h4 (by have := HW.out.nl; show s.fails.length ≤ _; omega)).mono ?_
        rintro e w5 ⟨rfl, hf5⟩
        have h5 := RX.keep h4 hf5
        have F5 : Frm B w w5 := F4.trans (keepF hf5)
        clear h4 hf5 F4
        by_cases hfl : (s.n : Int) ∈ s.fails
        · have hd : doD s 2 name too b = (⟨#[]⟩, 34, failD { s with n := s.n + 1 } 2 k) := by unfold doD; rw [if_neg Hg.out, if_neg (by simp [Ho.out]), if_neg (by simp [Hk.out]), if_neg (by simp), if_pos hfl, Hk.out]; rfl
          obtain rfl := HD.out.symm.trans hd
          rw [decide_eq_true (p := (s.n : Int) ∈ ({ s with n := s.n + 1 } : DS).fails) hfl]
          clear hd hfl
          go_wp2_with fail
          refine (rfail_sync (B := up w w5 B) k w5 (h5.mono (fun _ h => .inl h)) hkl (by have := HW.out.fl; show s.files.length ≤ _; omega) (by have := HW.out.al; show s.acts.length ≤ _; omega) (HW.out.each k).1).mono ?_
          rintro e w6 ⟨rfl, hx, hf⟩
          have hN := Lib.hid (RX.next F5 hf hx)
          clear hx hf
          go_wp2_with fail
          go_ret2
          exact ⟨rfl, hN.out.1, hN.out.2⟩
        · have hd : doD s 2 name too b = (outD s 2 name, 0, doesD { s with n := s.n + 1 } 2 name too b) := by unfold doD; rw [if_neg Hg.out, if_neg (by simp [Ho.out]), if_neg (by simp [Hk.out]), if_neg (by simp), if_neg hfl]
          have hd2 : doD s 2 name too b = (⟨#[]⟩, 0, { s with n := s.n + 1, files := s.files.set k ((getF s k).1, (getF s k).1.size), acts := s.acts.filter (lsA k) }) := hd.trans (by
            show ((⟨#[]⟩ : ByteArray), (0 : Int), ({ s with n := s.n + 1, files := s.files.set ((ofI s.dir name).getD 0) _, acts := s.acts.filter (lsA ((ofI s.dir name).getD 0 : Nat)) } : DS)) = _
            rw [Hk.out]; rfl)
          obtain rfl := HD.out.symm.trans hd2
          rw [decide_eq_false (p := (s.n : Int) ∈ ({ s with n := s.n + 1 } : DS).fails) hfl]
          clear hd hd2 hfl
          go_wp2_with fail
          refine (rdoes_sync (B := up w w5 B) k name too b w5 (h5.mono (fun _ h => .inl h)) hkl (by have := HW.out.fl; show s.files.length ≤ _; omega) (by have := HW.out.al; show s.acts.length ≤ _; omega)).mono ?_
          rintro e w6 ⟨rfl, hx, hf⟩
          have hN := Lib.hid (RX.next F5 hf hx)
          clear hx hf
          go_wp2_with fail
          go_ret2
          exact ⟨rfl, hN.out.1, hN.out.2⟩

end Go.Proofs.Ytngickhakedonaa

namespace Go.Proofs.Ytngickhakedonaa
open Go.RowKit Go.Tk Go.Dk

variable {r : Nat} {s : DS} {B : Nat → Prop}

set_option maxRecDepth 100000 in
set_option maxHeartbeats 2000000 in
theorem rdo_4 (name too b : ByteArray) (w : World) (h : RX w r B s) (hw : Wf s) (hn : name.size ≤ 2305843009213693952) (ht : too.size ≤ 2305843009213693952) :
    Calls Try.prog 43 #[.pointer (some ⟨r, 0, none⟩), .int .i64 4, .string name, .string too, .string b] w fun e w' => e = .returned (.tuple #[.string (doD s 4 name too b).1, .int .i64 (doD s 4 name too b).2.1]) ∧ RX w' r (up w w' B) (doD s 4 name too b).2.2 ∧ Frm B w w' := by
  obtain ⟨D, hD⟩ : ∃ D, doD s 4 name too b = D := ⟨_, rfl⟩
  rw [hD]
  have HD := Lib.hid hD
  clear hD
  have HW := Lib.hid hw
  clear hw
  go_enter Try.func43, Try.ntmps43
  go_wp2_with fail
  refine (rstarts_x w h HW.out.n).mono ?_
  rintro e w1 ⟨rfl, h1, hf1⟩
  by_cases hg : gone s = true
  · have hd : doD s 4 name too b = (⟨#[]⟩, 35, { s with off := true }) := by unfold doD; rw [if_pos hg]
    obtain rfl := HD.out.symm.trans hd
    rw [hg]
    rw [if_pos hg] at h1
    clear hd hg
    go_wp2_with fail
    go_ret2
    exact ⟨rfl, h1.mono (fun _ h => .inl h), hf1⟩
  · rw [if_neg hg] at h1
    have hg' : gone s = false := Bool.eq_false_iff.2 hg
    have Hg := Lib.hid hg
    rw [if_neg hg, hg']
    clear hg hg'
    go_wp2_with fail
    refine (isName_any name w1 hn).mono ?_
    rintro e w2 ⟨rfl, hf2⟩
    go_wp2_with fail
    refine (isName_any too w2 ht).mono ?_
    rintro e w3 ⟨rfl, hf3⟩
    have h3 := RX.keep h1 (hf2.trans hf3)
    have F3 : Frm B w w3 := hf1.trans (keepF (hf2.trans hf3))
    clear h1 hf2 hf3 hf1
    cases ho : okName name with
    | false =>
      have hd : doD s 4 name too b = (⟨#[]⟩, 30, { s with n := s.n + 1 }) := by unfold doD; rw [if_neg Hg.out, if_pos (.inl ⟨by decide, ho⟩)]
      obtain rfl := HD.out.symm.trans hd
      clear hd ho
      go_wp2_with fail
      go_ret2
      exact ⟨rfl, h3.mono (fun _ h => .inl h), F3⟩
    | true =>
      cases hto : okName too with
      | false =>
       have hd : doD s 4 name too b = (⟨#[]⟩, 30, { s with n := s.n + 1 }) := by unfold doD; rw [if_neg Hg.out, if_pos (.inr ⟨rfl, hto⟩)]
       obtain rfl := HD.out.symm.trans hd
       clear hd hto ho
       go_wp2_with fail
       go_ret2
       exact ⟨rfl, h3.mono (fun _ h => .inl h), F3⟩
      | true =>
      have Hto := Lib.hid hto
      clear hto
      obtain ⟨vf, vd, vs, va, _, _, _, c1, hdir, _, _, _, _, _, _, fz, hrlt, hBr⟩ := RX.head h3
      have Hdir := Lib.hid hdir
      obtain ⟨ao, cap, hv, _⟩ := hdir
      subst hv
      have Ho := Lib.hid ho
      clear ho
      go_wp2_with fail
      refine (of_any _ s.dir name w3 Hdir.out (by have := HW.out.dl; omega)).mono ?_
      rintro e w4 ⟨rfl, hf4⟩
      have h4 := RX.keep h3 hf4
      have F4 : Frm B w w4 := F3.trans (keepF hf4)
      clear h3 hf4 F3 c1 fz Hdir
      cases hk : ofI s.dir name with
      | none =>
        have hd : doD s 4 name too b = (⟨#[]⟩, 32, { s with n := s.n + 1 }) := by unfold doD; rw [if_neg Hg.out, if_neg (by simp [Ho.out, Hto.out]), if_pos ⟨by decide, by decide, hk⟩]
        have hz : ofZ s.dir name = -1 := by simp [ofZ, hk]
        obtain rfl := HD.out.symm.trans hd
        rw [hz]
        clear hd hz hk
        go_wp2_with fail
        go_ret2
        exact ⟨rfl, h4.mono (fun _ h => .inl h), F4⟩
      | some k =>
        have hz : ofZ s.dir name = (k : Nat) := by simp [ofZ, hk]
        have Hk := Lib.hid hk
        have hkl : k < s.files.length := ofI_lt hk HW.out.inn
        rw [hz]
        have i1 : decide ((k : Int) < 0) = false := by simp
        have i2 : (0 : Int) ≤ k := by omega
        clear hz hk
        go_wp2_with fail
        go_quiet (fail)
        replace h4 := RX.keep h4 ((Frm.refl (fun _ => False) w4).drewN nq)
        replace F4 := F4.drewN nq
        go_wp2_with fail
        refine (rfailing_x s.n _ h4 (by have := HW.out.nl; show s.fails.length ≤ _; omega)).mono ?_
        rintro e w5 ⟨rfl, hf5⟩
        have h5 := RX.keep h4 hf5
        have F5 : Frm B w w5 := F4.trans (keepF hf5)
        clear h4 hf5 F4
        by_cases hfl : (s.n : Int) ∈ s.fails
        · have hd : doD s 4 name too b = (⟨#[]⟩, 34, failD { s with n := s.n + 1 } 4 k) := by unfold doD; rw [if_neg Hg.out, if_neg (by simp [Ho.out, Hto.out]), if_neg (by simp [Hk.out]), if_neg (by simp), if_pos hfl, Hk.out]; rfl
          obtain rfl := HD.out.symm.trans hd
          rw [decide_eq_true (p := (s.n : Int) ∈ ({ s with n := s.n + 1 } : DS).fails) hfl]
          clear hd hfl
          go_wp2_with fail
          refine (rfail_no 4 k w5 (by decide) (by decide)).mono ?_
          rintro e w6 ⟨rfl, rfl⟩
          go_wp2_with fail
          go_ret2
          exact ⟨rfl, h5.mono (fun _ h => .inl h), F5⟩
        · have hd : doD s 4 name too b = (outD s 4 name, 0, doesD { s with n := s.n + 1 } 4 name too b) := by unfold doD; rw [if_neg Hg.out, if_neg (by simp [Ho.out, Hto.out]), if_neg (by simp [Hk.out]), if_neg (by simp), if_neg hfl]
          by_cases hnt : name = too
          · subst hnt
            have hd2 : doD s 4 name name b = (⟨#[]⟩, 0, { s with n := s.n + 1 }) := hd.trans (by unfold doesD; simp [outD])
            obtain rfl := HD.out.symm.trans hd2
            rw [decide_eq_false (p := (s.n : Int) ∈ ({ s with n := s.n + 1 } : DS).fails) hfl]
            clear hd hd2 hfl
            go_wp2_with fail
            refine (rdoes_rename_same k name b w5).mono ?_
            rintro e w6 ⟨rfl, rfl⟩
            go_wp2_with fail
            go_ret2
            exact ⟨rfl, h5.mono (fun _ h => .inl h), F5⟩
          · have hd2 : doD s 4 name too b = (⟨#[]⟩, 0, { s with n := s.n + 1, acts := s.acts ++ [.mv name too], dir := doneD s.dir (.mv name too) }) := hd.trans (by unfold doesD; simp [hnt, outD])
            obtain rfl := HD.out.symm.trans hd2
            rw [decide_eq_false (p := (s.n : Int) ∈ ({ s with n := s.n + 1 } : DS).fails) hfl]
            clear hd hd2 hfl
            go_wp2_with fail
            refine (rdoes_rename (B := up w w5 B) k name too b w5 (h5.mono (fun _ h => .inl h)) (by have := HW.out.al; show s.acts.length ≤ _; omega) (by have := HW.out.dl; show s.dir.length ≤ _; omega) hnt (by show (ofI s.dir name).isSome = true; rw [Hk.out]; rfl)).mono ?_
            rintro e w6 ⟨rfl, hx, hf⟩
            have hN := Lib.hid (RX.next F5 hf hx)
            clear hx hf
            go_wp2_with fail
            go_ret2
            exact ⟨rfl, hN.out.1, hN.out.2⟩

end Go.Proofs.Ytngickhakedonaa
