/- A text of a claim's proof: see the last text of the claim. -/
import Derived.Test.YtngickhakedonaaDp23
import Derived.Deep.RegionLawGrows
import Derived.BigQuiet
import Derived.Deep.QuietTactic
import Derived.Deep.RegionHeld3
import Derived.Lib.MinMax
set_option linter.all false
namespace Go.Proofs.Ytngickhakedonaa
open Go.RowKit Go.Tk Go.Dk

theorem info3x : (Try.prog.info? 3).map (fun i => (i.zero, i.size, i.bytes)) = some (some (.int .i64 0), 1, 8) := by kernel_rfl
theorem rw_pair (w : World) (a b : Int) : Rw inC 1 (w.alloc (.cells #[.int .i64 a, .int .i64 b] 3)) (.slice (some ⟨w.heap.size, 0, none⟩) 2 2) [a, b] := by
  refine ⟨_, _, rfl, Nat.le_refl _, (fun h => by cases h), (fun x hx => by cases hx; exact ⟨rfl, rfl, by simp⟩), fun i hi => ⟨w.heap.size, rfl, fun j u hj => ?_⟩⟩
  have hj0 : j = 0 := by
    have := (List.getElem?_eq_some_iff.1 hj).1
    rw [inC_len] at this; omega
  subst hj0
  have h2 : i < 2 := hi
  rw [Nat.mul_one, Nat.add_zero]
  match i, h2 with
  | 0, _ => exact (al_new w _ 3 0).trans hj
  | 1, _ => exact (al_new w _ 3 1).trans hj
theorem RX.fails_row {w : World} {r : Nat} {B : Nat → Prop} {s : DS} (h : RX w r B s) : ∃ ao cap, w.cell? ⟨r, 8, none⟩ = some (.slice ao s.fails.length cap) ∧ s.fails.length ≤ cap ∧ (ao = none → s.fails.length = 0) ∧
    (∀ W, Frm (fun _ => False) w W → ∀ b, ao = some b → ∀ j u, (s.fails.flatMap inC)[j]? = some u → W.cell? (b.add j) = some u) ∧
    (∀ w1 v l, Frm (fun _ => False) w w1 → w1.ownsRow w.heap.size 3 1 v (List.length l) (l.flatMap inC) → RX (w1.setCell ⟨r, 8, none⟩ v) r (up w (w1.setCell ⟨r, 8, none⟩ v) B) { s with fails := l } ∧ Frm B w (w1.setCell ⟨r, 8, none⟩ v)) ∧ (∀ o, w.frozen? ⟨r, o, none⟩ = false) := by
  obtain ⟨vf, vd, vs, va, vn, h, h0, h1, h2, h3, h4, h5⟩ := h
  obtain ⟨ao, cap, e, hle, hnil, _, _⟩ := id h.fails
  have hr := h.fails
  rw [e] at hr
  obtain ⟨_, ho1, ho2, _⟩ := rw_olds inC_len (by decide) hr
  refine ⟨ao, cap, by rw [← e]; exact h.c8, hle, fun ha => (ho2 ha).1, fun W hf b hb j u hu => (hf.cell (World.block_lt_of_cell? _ _ (ho1 b hb j u hu)) (fun h => h)).trans (ho1 b hb j u hu), fun w1 v l hf hrow => ?_, h.fz.frozen⟩
  have hown : ∀ b, v.ownBlock = some b → w.heap.size ≤ b ∧ b < w1.heap.size := fun b hb => hrow.lt b hb
  have hsz : (w1.setCell ⟨r, 8, none⟩ v).heap.size = w1.heap.size := by simp
  refine ⟨⟨vf, vd, vs, va, v, RD.set_fails (h.keep hf) (rw_of_owns inC_len hrow rfl) (fun b hb hin => ?_), .inl h0, fun b hb => .inl (h1 b hb), fun b hb => .inl (h2 b hb), fun b hb => .inl (h3 b hb), fun b hb => .inl (h4 b hb), fun b hb => .inr ?_⟩, ?_⟩
  · have := (hown b hb).1
    have := h.lt b hin
    omega
  · have := hown b hb
    rw [hsz]; exact this
  · exact (keepF hf).setCell (p := ⟨r, 8, none⟩) (fun _ => h0) _

set_option maxRecDepth 100000 in
set_option maxHeartbeats 2000000 in
theorem does_10 (o : Op3) (hk : pickI o.kind 15 = 10) {base M : Nat} {w : World} {d r : Nat} {L : PL} {B : Nat → Prop} {s : DS} (h : Two base w d r L B s s) (hfit : Fit s M) (ho : OpOk base M w o) :
    Calls Try.prog 17 #[.pointer (some ⟨d, 0, none⟩), .pointer (some ⟨r, 0, none⟩), opV o] w (DoesQ base w s o) := by
  have HH := Lib.hid (Head.new h ho)
  have HF := Lib.hid hfit
  obtain ⟨b0, b1, b2, b3, b4, b5⟩ := HH.out.box
  have HNM : Hid (∀ w, Calls Try.prog 42 #[.string o.name, .int .i64 o.n] w fun e w' => e = .returned (.string o.nm) ∧ w = w') := Lib.hid (fun w => named_any o.name o.n w ho.n.1 ho.n.2)
  have HTO : Hid (∀ w, Calls Try.prog 42 #[.string o.too, .int .i64 o.torn] w fun e w' => e = .returned (.string o.to) ∧ w = w') := Lib.hid (fun w => named_any o.too o.torn w ho.torn.1 ho.torn.2)
  have HPK : Hid (∀ w, Calls Try.prog 15 #[.int .i64 o.kind, .int .i64 15] w fun e w' => e = .returned (.int .i64 10) ∧ w = w') := Lib.hid (fun w => by
    have := pick03_any o.kind 15 w ho.kind.1 ho.kind.2 (by decide) (by decide)
    rw [hk] at this; exact this)
  have HK := Lib.hid hk
  have hns : o.nm.size ≤ 2305843009213693952 := by have := namedD_size (s := o.name) o.n ho.name; show (namedD o.name o.n).size ≤ _; omega
  have hts : o.to.size ≤ 2305843009213693952 := by have := namedD_size (s := o.too) o.torn ho.too; show (namedD o.too o.torn).size ≤ _; omega
  have HS := Lib.hid (And.intro hns hts)
  have hno := ho.n
  have hto := ho.torn
  clear h hfit ho hk hns hts
  go_enter Try.func17, Try.ntmps17
  go_wp2_with fail
  refine (HNM.out _).mono ?_
  rintro e _ ⟨rfl, rfl⟩
  go_wp2_with fail
  refine (HTO.out _).mono ?_
  rintro e _ ⟨rfl, rfl⟩
  go_wp2_with fail
  refine (HPK.out _).mono ?_
  rintro e _ ⟨rfl, rfl⟩
  clear HNM HTO HPK
  generalize w.alloc (.cells #[.int .i64 o.kind, .string o.name, .string o.too, .slice o.ba o.b.size o.bc, .int .i64 o.n, .int .i64 o.torn] 47) = wo at *
  generalize w.heap.size = c at *
  have c5r := RX.n_cell HH.out.two.q
  have hsn := HF.out.n
  have p1 := pickI_lo o.n 12 (by decide)
  have p2 := pickI_hi o.n 12 (by decide)
  have q1 := pickI_lo o.torn 9 (by decide)
  have q2 := pickI_hi o.torn 9 (by decide)
  have hst : stepD s o = { s with fails := s.fails ++ [s.n + pickI o.n 12, s.n + pickI o.n 12 + pickI o.torn 9] } := by unfold stepD; simp [HK.out]
  have hP : ∀ w, Calls Try.prog 15 #[.int .i64 o.n, .int .i64 12] w fun e w' => e = .returned (.int .i64 (pickI o.n 12)) ∧ w = w' := fun w => pick03_any o.n 12 w hno.1 hno.2 (by decide) (by decide)
  have hQ : ∀ w, Calls Try.prog 15 #[.int .i64 o.torn, .int .i64 9] w fun e w' => e = .returned (.int .i64 (pickI o.torn 9)) ∧ w = w' := fun w => pick03_any o.torn 9 w hto.1 hto.2 (by decide) (by decide)
  generalize pickI o.n 12 = p at *
  generalize pickI o.torn 9 = q at *
  obtain ⟨A, hA⟩ : ∃ A : Int, A = s.n + p := ⟨_, rfl⟩
  have hw : IntKind.i64.wrap ((s.n : Int) + p) = A := by rw [hA]; exact IntWalk.i64_in _ (by omega)
  have hA1 : 0 ≤ A ∧ A ≤ 10000 := by omega
  have hw2 : IntKind.i64.wrap (A + q) = A + q := IntWalk.i64_in _ (by omega)
  rw [← hA] at hst
  have HW := Lib.hid (And.intro hw (And.intro hw2 hst))
  have HPQ := Lib.hid (And.intro hP hQ)
  clear hA hw hw2 hst hP hQ
  go_wp2_with fail
  go_region_held3 (fun w' => w'.cell? ⟨r, 5, none⟩ = some (.int .i64 s.n) ∧ w'.cell? ⟨c, 4, none⟩ = some (.int .i64 o.n)) (exact ⟨c5r, b4⟩) (first | (go_at_call 15; refine (HPQ.out.1 _).mono ?_; rintro e _ ⟨rfl, rfl⟩))
  rw [HW.out.1]
  have H1 := Lib.hid (HH.out.keep (Frm.refl (fun _ => False) wo).drew)
  clear c5r p1 p2
  go_wp2_with fail
  refine (HPQ.out.2 _).mono ?_
  rintro e _ ⟨rfl, rfl⟩
  go_wp2_with fail
  have hf2 : Frm (fun _ => False) wo.drew (wo.drew.alloc (.cells #[.int .i64 A, .int .i64 (A + q)] 3)) := (Frm.refl _ _).alloc _
  have H2 := Lib.hid (H1.out.keep hf2)
  have hrw := rw_pair wo.drew A (A + q)
  refine (failAt_any _ [A, A + q] _ H2.out.two.p hrw (fun b hb => by cases hb; exact H1.out.two.freeL (.inl (Nat.le_refl _))) (by simp) (by have := HF.out.nl; omega) (fun x hx => by simp at hx; omega)).mono ?_
  rintro e w3 ⟨rfl, L3, p3, s3⟩
  have H3 := Lib.hid (H2.out.pstep p3 s3)
  clear p3 s3 hrw hf2
  obtain ⟨ao, cap, c8, hle8, hnl, hol, hstep, fz8⟩ := RX.fails_row H3.out.two.q
  have h5 := H3.out.box.b5
  have HS2 := Lib.hid (And.intro hnl (And.intro hol hstep))
  have rlt := World.block_lt_of_cell? _ _ c8
  have clt := World.block_lt_of_cell? _ _ h5
  clear hnl hol hstep
  go_wp2_with fail
  obtain ⟨i0, hi, hz0, hz1, hz2⟩ := info_parts info3x
  refine wp_region_noPanic ?_
  refine wp_region_last 26 rfl (by kernel_rfl) (by kernel_rfl) ?_
  simp only [List.pop_toArray, List.dropLast]
  refine wpAny_of_held (S := fun w' => w'.cell? ⟨r, 8, none⟩ = some (.slice ao s.fails.length cap) ∧ w'.cell? ⟨c, 5, none⟩ = some (.int .i64 o.torn)) _ _ _ _ ?_
  have H0 : (fun w' : World => w'.cell? ⟨r, 8, none⟩ = some (.slice ao s.fails.length cap) ∧ w'.cell? ⟨c, 5, none⟩ = some (.int .i64 o.torn)) w3.drew := ⟨c8, h5⟩
  refine wpAnyH_take (i := 0) (v := (.pointer (some ⟨r, 0, none⟩))) rfl (by kernel_rfl) (by kernel_rfl) (by kernel_rfl) (fun _ _ _ h => h) (.inl ⟨rfl, fun w' hS => ?_⟩) H0 ?_
  · obtain ⟨s1, s2⟩ := hS
    go_simp
  refine wpAnyH_take (i := 1) (v := (.pointer (some ⟨r, 0, none⟩))) rfl (by kernel_rfl) (by kernel_rfl) (by kernel_rfl) (fun _ _ _ h => h) (.inl ⟨rfl, fun w' hS => ?_⟩) H0 ?_
  · obtain ⟨s1, s2⟩ := hS
    go_simp
  refine wpAnyH_take (i := 2) (v := (.pointer (some ⟨r, 0, none⟩))) rfl (by kernel_rfl) (by kernel_rfl) (by kernel_rfl) (fun _ _ _ h => h) (.inl ⟨rfl, fun w' hS => ?_⟩) H0 ?_
  · obtain ⟨s1, s2⟩ := hS
    go_simp
  refine wpAnyH_take (i := 3) (v := (.pointer (some ⟨r, 8, none⟩))) rfl (by kernel_rfl) (by kernel_rfl) (by kernel_rfl) (fun _ _ _ h => h) (.inl ⟨rfl, fun w' hS => ?_⟩) H0 ?_
  · obtain ⟨s1, s2⟩ := hS
    go_simp
  refine wpAnyH_take (i := 4) (v := (.slice ao s.fails.length cap)) rfl (by kernel_rfl) (by kernel_rfl) (by kernel_rfl) (fun _ _ _ h => h) (.inl ⟨rfl, fun w' hS => ?_⟩) H0 ?_
  · obtain ⟨s1, s2⟩ := hS
    go_simp
  refine wpAnyH_take (i := 5) (v := (.pointer (some ⟨r, 0, none⟩))) rfl (by kernel_rfl) (by kernel_rfl) (by kernel_rfl) (fun _ _ _ h => h) (.inl ⟨rfl, fun w' hS => ?_⟩) H0 ?_
  · obtain ⟨s1, s2⟩ := hS
    go_simp
  refine wpAnyH_take (i := 6) (v := (.pointer (some ⟨r, 0, none⟩))) rfl (by kernel_rfl) (by kernel_rfl) (by kernel_rfl) (fun _ _ _ h => h) (.inl ⟨rfl, fun w' hS => ?_⟩) H0 ?_
  · obtain ⟨s1, s2⟩ := hS
    go_simp
  refine wpAnyH_take (i := 7) (v := (.pointer (some ⟨r, 8, none⟩))) rfl (by kernel_rfl) (by kernel_rfl) (by kernel_rfl) (fun _ _ _ h => h) (.inl ⟨rfl, fun w' hS => ?_⟩) H0 ?_
  · obtain ⟨s1, s2⟩ := hS
    go_simp
  refine wpAnyH_take (i := 8) (v := (.slice ao s.fails.length cap)) rfl (by kernel_rfl) (by kernel_rfl) (by kernel_rfl) (fun _ _ _ h => h) (.inl ⟨rfl, fun w' hS => ?_⟩) H0 ?_
  · obtain ⟨s1, s2⟩ := hS
    go_simp
  refine wpAnyH_take (i := 9) (v := (.int .i64 s.fails.length)) rfl (by kernel_rfl) (by kernel_rfl) (by kernel_rfl) (fun _ _ _ h => h) (.inl ⟨rfl, fun w' hS => ?_⟩) H0 ?_
  · obtain ⟨s1, s2⟩ := hS
    go_simp
  refine wpAnyH_take (i := 10) (v := (.pointer (some ⟨r, 0, none⟩))) rfl (by kernel_rfl) (by kernel_rfl) (by kernel_rfl) (fun _ _ _ h => h) (.inl ⟨rfl, fun w' hS => ?_⟩) H0 ?_
  · obtain ⟨s1, s2⟩ := hS
    go_simp
  refine wpAnyH_take (i := 11) (v := (.pointer (some ⟨r, 0, none⟩))) rfl (by kernel_rfl) (by kernel_rfl) (by kernel_rfl) (fun _ _ _ h => h) (.inl ⟨rfl, fun w' hS => ?_⟩) H0 ?_
  · obtain ⟨s1, s2⟩ := hS
    go_simp
  refine wpAnyH_take (i := 12) (v := (.pointer (some ⟨r, 8, none⟩))) rfl (by kernel_rfl) (by kernel_rfl) (by kernel_rfl) (fun _ _ _ h => h) (.inl ⟨rfl, fun w' hS => ?_⟩) H0 ?_
  · obtain ⟨s1, s2⟩ := hS
    go_simp
  refine wpAnyH_take (i := 13) (v := (.slice ao s.fails.length cap)) rfl (by kernel_rfl) (by kernel_rfl) (by kernel_rfl) (fun _ _ _ h => h) (.inl ⟨rfl, fun w' hS => ?_⟩) H0 ?_
  · obtain ⟨s1, s2⟩ := hS
    go_simp
  refine wpAnyH_take (i := 14) (v := (.int .i64 s.fails.length)) rfl (by kernel_rfl) (by kernel_rfl) (by kernel_rfl) (fun _ _ _ h => h) (.inl ⟨rfl, fun w' hS => ?_⟩) H0 ?_
  · obtain ⟨s1, s2⟩ := hS
    go_simp
  refine wpAnyH_take (i := 15) (v := (.slice ao s.fails.length s.fails.length)) rfl (by kernel_rfl) (by kernel_rfl) (by kernel_rfl) (fun _ _ _ h => h) (.inl ⟨rfl, fun w' hS => ?_⟩) H0 ?_
  · obtain ⟨s1, s2⟩ := hS
    go_simp
  refine wpAnyH_take (i := 16) (v := (.int .i64 A)) rfl (by kernel_rfl) (by kernel_rfl) (by kernel_rfl) (fun _ _ _ h => h) (.inl ⟨rfl, fun w' hS => ?_⟩) H0 ?_
  · obtain ⟨s1, s2⟩ := hS
    go_simp
  refine wpAnyH_take (i := 17) (v := (.int .i64 A)) rfl (by kernel_rfl) (by kernel_rfl) (by kernel_rfl) (fun _ _ _ h => h) (.inl ⟨rfl, fun w' hS => ?_⟩) H0 ?_
  · obtain ⟨s1, s2⟩ := hS
    go_simp
  refine wpAnyH_take (i := 18) (v := (.pointer (some ⟨c, 5, none⟩))) rfl (by kernel_rfl) (by kernel_rfl) (by kernel_rfl) (fun _ _ _ h => h) (.inl ⟨rfl, fun w' hS => ?_⟩) H0 ?_
  · obtain ⟨s1, s2⟩ := hS
    go_simp
  refine wpAnyH_take (i := 19) (v := (.int .i64 o.torn)) rfl (by kernel_rfl) (by kernel_rfl) (by kernel_rfl) (fun _ _ _ h => h) (.inl ⟨rfl, fun w' hS => ?_⟩) H0 ?_
  · obtain ⟨s1, s2⟩ := hS
    go_simp
  refine wpAnyH_one (i := 20) (by kernel_rfl) (wpOp_plain rfl rfl ?_)
  unfold Oper.wp
  go_simp
  refine (HPQ.out.2 _).mono ?_
  rintro e _ ⟨rfl, rfl⟩
  refine ⟨H0, ?_⟩
  refine wpAnyH_take (i := 21) (v := (.int .i64 (A + q))) rfl (by kernel_rfl) (by kernel_rfl) (by kernel_rfl) (fun _ _ _ h => h) (.inl ⟨rfl, fun w' hS => ?_⟩) H0 ?_
  · go_simp
    exact HW.out.2.1
  refine wpAnyH_one (i := 22) (by kernel_rfl) (wpOp_plain rfl rfl ?_)
  unfold Oper.wp
  go_simp
  have hx3 : Frm (fun _ => False) w3 (w3.drew.alloc (.cells #[.int .i64 A, .int .i64 (A + q)] 3)) := (Frm.refl _ _).drew.alloc _
  have H1' : (fun w' : World => w'.cell? ⟨r, 8, none⟩ = some (.slice ao s.fails.length cap) ∧ w'.cell? ⟨c, 5, none⟩ = some (.int .i64 o.torn)) (w3.drew.alloc (.cells #[.int .i64 A, .int .i64 (A + q)] 3)) := ⟨(hx3.cell (p := ⟨r, 8, none⟩) rlt (fun h => h)).trans c8, (hx3.cell (p := ⟨c, 5, none⟩) clt (fun h => h)).trans h5⟩
  have cnew := cells_new w3.drew [.int .i64 A, .int .i64 (A + q)] 3
  have hlen : (s.fails.flatMap inC).length = s.fails.length * 1 := flat_len inC_len s.fails
  have hnf := HF.out.nl
  refine wpAnyH_one (i := 23) (by kernel_rfl) (wpOp_if rfl ?_)
  refine step_append_grows rfl (.tmp 234) (.tmp 241) 83 rfl 3 i0 _ 1 8 Try.underlying83 hi hz0 hz1 hz2 rfl (by decide) ao s.fails.length s.fails.length (s.fails.flatMap inC) (by simp [Act.eval, Act.put]) (fun h => ⟨HS2.out.1 h, HS2.out.1 h⟩) hlen (HS2.out.2.1 _ hx3) ⟨w3.heap.size, 0, none⟩ 2 2 [.int .i64 A, .int .i64 (A + q)] (by simp [Act.eval, Act.put]) rfl cnew (by simp [Value.oneCell']) (by omega) (by unfold maxLen; omega) (by omega) ?_
  intro v' wa hown hgrow
  have hfa : Frm (fun _ => False) (w3.drew.alloc (.cells #[.int .i64 A, .int .i64 (A + q)] 3)) wa := Frm.of_grown (S := fun _ => False) hgrow (fun k hk _ => by cases hk)
  have Hfa := Lib.hid (hx3.trans hfa)
  obtain ⟨ao', cap', hv', _, _⟩ := row_slice hown
  subst hv'
  have c8a := (Hfa.out.cell (p := ⟨r, 8, none⟩) rlt (fun h => h)).trans c8
  have c5a := (Hfa.out.cell (p := ⟨c, 5, none⟩) clt (fun h => h)).trans h5
  have fza : ∀ o, wa.frozen? ⟨r, o, none⟩ = false := fun o => (Hfa.out.frozen (p := ⟨r, o, none⟩) rlt (fun h => h)).trans (fz8 o)
  have H2' : (fun w' : World => w'.cell? ⟨r, 8, none⟩ = some (.slice ao s.fails.length cap) ∧ w'.cell? ⟨c, 5, none⟩ = some (.int .i64 o.torn)) wa := ⟨c8a, c5a⟩
  have hrow : wa.ownsRow w3.heap.size 3 1 (.slice ao' (s.fails.length + 2) cap') (s.fails ++ [A, A + q]).length ((s.fails ++ [A, A + q]).flatMap inC) := by
    have e1 : (s.fails ++ [A, A + q]).flatMap inC = s.fails.flatMap inC ++ [.int .i64 A, .int .i64 (A + q)] := by rw [List.flatMap_append]; rfl
    have e2 : (s.fails ++ [A, A + q]).length = s.fails.length + 2 := by simp
    rw [e1, e2]
    exact row_rebase hown (fun b hb => Nat.le_trans hx3.size (hown.lt b hb).1)
  have H4 := Lib.hid (HS2.out.2.2 wa _ _ Hfa.out hrow)
  clear hown hgrow hfa hrow cnew hlen hnf hx3 H1' H0
  refine ⟨H2', ?_⟩
  refine wpAnyH_take (i := 24) (v := (.pointer (some ⟨r, 0, none⟩))) rfl (by kernel_rfl) (by kernel_rfl) (by kernel_rfl) (fun _ _ _ h => h) (.inl ⟨rfl, fun w' hS => ?_⟩) H2' ?_
  · go_simp
  refine wpAnyH_take (i := 25) (v := (.pointer (some ⟨r, 8, none⟩))) rfl (by kernel_rfl) (by kernel_rfl) (by kernel_rfl) (fun _ _ _ h => h) (.inl ⟨rfl, fun w' hS => ?_⟩) H2' ?_
  · go_simp
  refine wpAnyH_done (by kernel_rfl) ?_ _
  unfold LastQ
  refine wpOp_plain rfl rfl ?_
  unfold Oper.wp
  go_simp
  refine NoPanic.normal ?_
  have H5 := Lib.hid (H3.out.rstep H4.out.1 H4.out.2)
  go_wp2_with fail
  go_ret3
  exact H5.out.done HW.out.2.2
end Go.Proofs.Ytngickhakedonaa
