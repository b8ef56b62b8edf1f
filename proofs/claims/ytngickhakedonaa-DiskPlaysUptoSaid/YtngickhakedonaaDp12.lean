/- A text of a claim's proof: see the last text of the claim. -/
import Derived.Test.YtngickhakedonaaDp10
import Derived.Deep.CutBlock
import Derived.Deep.CutRange
set_option linter.all false
namespace Go.Proofs.Ytngickhakedonaa
open Go.RowKit Go.Tk Go.Dk

variable {r : Nat} {s : DS} {B C : Nat → Prop} {w w' : World}

/-- a row of files, copied behind none -/
theorem files_copy (w : World) (vf : Value) (l : List Fl) (h : w.ownsRow 0 94 2 vf l.length (l.flatMap flC)) (hl : l.length ≤ 1000000) :
    ∃ ao n cap w', (Builtin.append_ #[80, 80] 80 #[.slice none 0 0, vf]).run Try.prog w = .ok (.slice ao n cap) w' ∧ w'.ownsRow 0 94 2 (.slice ao n cap) l.length (l.flatMap flC) ∧ Frm (fun _ => False) w w' ∧ (∀ b, (Value.slice ao n cap).ownBlock = some b → w.heap.size ≤ b) := by
  obtain ⟨i0, hi, hz0, hz1, hz2⟩ := info_parts info94
  rcases h.2 with ⟨e, e2⟩ | ⟨g, cap, cur, e, _⟩
  · subst e
    exact ⟨none, 0, 0, w, run_append_owned_none (P := Try.prog) w 0 80 80 94 i0 2 Try.underlying80 hi _ 0 [] (World.ownsRow_nil _ _ _ _), h, Frm.refl _ _, fun b hb => by cases hb⟩
  · obtain ⟨v', w', h1, h2, h3, h4, h5⟩ := run_append_own_at (P := Try.prog) w w.heap.size 80 80 94 i0 _ 2 24 Try.underlying80 hi hz0 hz1 hz2 rfl (by decide) (.slice none 0 0) 0 [] (World.ownsRow_nil _ _ _ _) ⟨g, 0, none⟩ l.length cap (l.flatMap flC) (flat_len flC_len l) (h.cells (by rw [e]; rfl)) (fun u hu => by
      obtain ⟨x, _, hx⟩ := List.mem_flatMap.1 hu
      simp [flC] at hx
      rcases hx with rfl | rfl <;> rfl) (by unfold maxLen; omega) (by omega) (Nat.le_refl _)
    rw [Nat.zero_add, List.nil_append] at h2
    obtain ⟨ao, cap', e', _⟩ := row_slice h2
    subst e'
    refine ⟨ao, l.length, cap', w', by rw [e]; exact h1, row_rebase h2 (fun _ _ => Nat.zero_le _), Frm.of_grown (S := fun _ => False) h3 (fun k hk _ => by cases hk), fun b hb => ?_⟩
    exact (h2.lt b hb).1

theorem wo_len2 (l : List Nm) (n : ByteArray) : (wo l n).length ≤ l.length := by unfold wo; exact List.length_filter_le _ _
theorem wi_len2 (l : List Nm) (n : ByteArray) (k : Nat) : (wi l n k).length = l.length + 1 := (wi_perm l n k).length_eq
theorem doneD_len (l : List Nm) (a : DAct) : (doneD l a).length ≤ l.length + 1 := by
  cases a with
  | mk n k => exact Nat.le_of_eq (wi_len2 _ _ _)
  | mv a b =>
    show (wi (wo (wo l a) b) b _).length ≤ _
    rw [wi_len2]
    have h1 := wo_len2 (wo l a) b
    have h2 := wo_len2 l a
    omega
  | rm n => exact Nat.le_succ_of_le (wo_len2 _ _)
  | put k n => exact Nat.le_succ _
theorem replay_len : ∀ (az : List DAct) (l : List Nm), (replay l az).length ≤ l.length + az.length
  | [], l => Nat.le_refl _
  | a :: az, l => by
    have h1 := replay_len az (doneD l a)
    have h2 := doneD_len l a
    show (replay (doneD l a) az).length ≤ _
    rw [List.length_cons]; omega
theorem crR_len (s : DS) (keep : Int) (k : Nat) : (crR s keep k).length ≤ s.sure.length + s.acts.length := by
  have := replay_len (s.acts.take (min k keep.toNat)) s.sure
  have h2 : (s.acts.take (min k keep.toNat)).length ≤ s.acts.length := by rw [List.length_take]; omega
  unfold crR; omega

theorem puts_get2 {az : List DAct} {i f : Nat} (h : i < az.length) : putN f az[i] ≤ puts az f := by
  have h1 := puts_split az (i + 1) f
  rw [List.take_succ_eq_append_getElem h, puts_snoc] at h1
  omega
theorem RX.sure_own (h : RX w r B s) {v : Value} (hv : w.cell? ⟨r, 2, none⟩ = some v) : ∀ b, v.ownBlock = some b → B b := by
  obtain ⟨vf, vd, vs, va, vn, q, h0, h1, h2, h3, h4, h5⟩ := h
  have := q.c2
  rw [hv] at this
  cases this
  exact h3
theorem crX_same {s : DS} {keep torn : Int} {k : Nat} {l : List Nm} (hR : crR s keep (k + 1) = l) (hG : ∀ f, crG s keep torn (k + 1) f = crG s keep torn k f) : { crX s keep torn k with sure := l } = crX s keep torn (k + 1) := by
  have e : crG s keep torn (k + 1) = crG s keep torn k := funext hG
  unfold crX
  rw [e, hR]; rfl

theorem wp_append_run {P : Program} {o : Oper} {a : Act} {w w' : World} {K : Act → World → Prop} {Q : Exit → Act → World → Prop} (s x : Operand) (t : TypeId) (ho : o.op = .call { callee := .builtin .append, args := #[s, x], argTypes := #[t, t] }) {v u v' : Value} (hs : a.eval s = v) (hx : a.eval x = u) (hr : (Builtin.append_ #[t, t] o.type #[v, u]).run P w = .ok v' w') (hK : K (a.put o.dst v') w') : Oper.wp P o a w K Q := by
  unfold Oper.wp execOp
  simp only [ho, resolve, invoke, builtin, Sem.run_bind, Sem.run_pure, Result.andThen_ok, List.map_toArray, List.map_cons, List.map_nil, hs, hx, hr]
  exact hK

set_option maxRecDepth 100000 in
set_option maxHeartbeats 4000000 in
theorem rcrash_any (keep torn : Int) (w : World) (h : RX w r B s) (hi : Inv s) (hal : s.acts.length ≤ 10000) (hfl : s.files.length ≤ 10000) (hsl : s.sure.length ≤ 10000) (hfs : ∀ k, (getF s k).1.size ≤ 100000000000) (hk1 : -9223372036854775808 ≤ keep) (hk2 : keep ≤ 9223372036854775807) (ht1 : -9223372036854775808 ≤ torn) (ht2 : torn ≤ 9223372036854775807) :
    Calls Try.prog 46 #[.pointer (some ⟨r, 0, none⟩), .int .i64 keep, .int .i64 torn] w fun e w' => ∃ x, e = .returned (.pointer (some ⟨x, 0, none⟩)) ∧ RX w' x (fun b => B b ∨ w.heap.size ≤ b) (crashD s keep torn) ∧ Frm (fun _ => False) w w' := by
  obtain ⟨vf, vd, vs, va, vn, hRD, h0, h1, h2, h3, h4, h5⟩ := h
  obtain ⟨aos, caps, evs, _⟩ := id hRD.sure
  obtain ⟨aoa, capa, eva, hlea, _, hnila, hacts⟩ := id hRD.acts
  subst evs
  subst eva
  have Hacts := Lib.hid hacts
  clear hacts
  have c0 := hRD.c0
  have c2 := hRD.c2
  have c3 := hRD.c3
  have c4 := hRD.c4
  have hown := hRD.files
  obtain ⟨aof, capf, hvf, hlef⟩ := row_slice hown
  have Hown := Lib.hid hown
  have Hvf := Lib.hid hvf
  have H := Lib.hid hRD
  have HI := Lib.hid hi
  have HB := Lib.hid h3
  have Hfs := Lib.hid hfs
  have hrlt := hRD.lt r (.inl rfl)
  clear hRD hi h0 h1 h2 h3 h4 h5 hown hfs
  rw [hvf] at c0
  clear hvf
  go_enter Try.func46, Try.ntmps46
  go_wp2_with fail
  refine (rnew_any s.room w).mono ?_
  rintro e w1 ⟨rfl, hx1, hf1, hs1⟩
  have c0' := (hf1.cell (p := ⟨r, 0, none⟩) hrlt (fun h => h)).trans c0
  have hX := Lib.hid (And.intro hx1 (And.intro hf1 hs1))
  have x0 : w1.cell? ⟨w.heap.size, 0, none⟩ = some (.slice none 0 0) := by
    obtain ⟨vf', vd', vs', va', vn', q, q0, q1, _⟩ := hx1
    rcases q.files.2 with ⟨e, _⟩ | ⟨g, cap, cur, e, _⟩
    · rw [q.c0, e]
    · have e1 : vf'.ownBlock = some g := by rw [e]; rfl
      exact absurd (e1.trans (congrArg some (q1 g e1))) q.nf
  clear hx1 hf1 hs1
  have hown1 := row_frm Hown.out (hX.out.2.1.trans (Frm.refl (fun _ => False) w1).drew) (fun _ _ h => h)
  obtain ⟨ao2, n2, cap2, w2, hrun, hown2, hf2, hnew2⟩ := files_copy w1.drew vf s.files hown1 (by omega)
  rw [Hvf.out] at hrun
  have hX2 := RX.grow (RX.keep hX.out.1 (Frm.refl (fun _ => False) w1).drew) (vf := .slice none 0 0) x0 (hf2.mono (fun _ _ h => h.elim)) hown2 (.inr hnew2)
  have HX2 := Lib.hid (And.intro hX2 (And.intro hf2 hX.out.2.1))
  have x02 := (hf2.cell (p := ⟨w.heap.size, 0, none⟩) (World.block_lt_of_cell? _ _ x0) (fun h => h)).trans x0
  have fz2 : ∀ o, w2.frozen? ⟨w.heap.size, o, none⟩ = false := by
    obtain ⟨vf', vd', vs', va', vn', q, _⟩ := RX.keep (RX.keep hX.out.1 (Frm.refl (fun _ => False) w1).drew) hf2
    exact q.fz.frozen
  have c02 := (hf2.cell (p := ⟨r, 0, none⟩) (World.block_lt_of_cell? _ _ c0') (fun h => h)).trans c0'
  have HN2 := Lib.hid hnew2
  clear hown1 hown2 hnew2 hX2 hX hf2
  go_wp2_with fail
  refine wp_region_last 12 rfl (by kernel_rfl) (by kernel_rfl) ?_
  simp only [List.pop_toArray, List.dropLast]
  refine wpAny_of_held (S := fun w' => w'.cell? ⟨w.heap.size, 0, none⟩ = some (.slice none 0 0) ∧ w'.cell? ⟨r, 0, none⟩ = some (.slice aof s.files.length capf)) _ _ _ _ ?_
  have hS0 : (fun w' : World => w'.cell? ⟨w.heap.size, 0, none⟩ = some (.slice none 0 0) ∧ w'.cell? ⟨r, 0, none⟩ = some (.slice aof s.files.length capf)) w1.drew := ⟨x0, c0'⟩
  refine wpAnyH_take (i := 0) (v := (.pointer (some ⟨w.heap.size, 0, none⟩))) rfl (by kernel_rfl) (by kernel_rfl) (by kernel_rfl) (fun _ _ _ h => h) (.inl ⟨rfl, fun w' hS => ?_⟩) hS0 ?_
  · obtain ⟨s1, s2⟩ := hS
    go_simp
  refine wpAnyH_take (i := 1) (v := (.pointer (some ⟨w.heap.size, 0, none⟩))) rfl (by kernel_rfl) (by kernel_rfl) (by kernel_rfl) (fun _ _ _ h => h) (.inl ⟨rfl, fun w' hS => ?_⟩) hS0 ?_
  · obtain ⟨s1, s2⟩ := hS
    go_simp
  refine wpAnyH_take (i := 2) (v := (.pointer (some ⟨w.heap.size, 0, none⟩))) rfl (by kernel_rfl) (by kernel_rfl) (by kernel_rfl) (fun _ _ _ h => h) (.inl ⟨rfl, fun w' hS => ?_⟩) hS0 ?_
  · obtain ⟨s1, s2⟩ := hS
    go_simp
  refine wpAnyH_take (i := 3) (v := (.pointer (some ⟨w.heap.size, 0, none⟩))) rfl (by kernel_rfl) (by kernel_rfl) (by kernel_rfl) (fun _ _ _ h => h) (.inl ⟨rfl, fun w' hS => ?_⟩) hS0 ?_
  · obtain ⟨s1, s2⟩ := hS
    go_simp
  refine wpAnyH_take (i := 4) (v := (.slice none 0 0)) rfl (by kernel_rfl) (by kernel_rfl) (by kernel_rfl) (fun _ _ _ h => h) (.inl ⟨rfl, fun w' hS => ?_⟩) hS0 ?_
  · obtain ⟨s1, s2⟩ := hS
    go_simp
  refine wpAnyH_take (i := 5) (v := (.pointer (some ⟨r, 0, none⟩))) rfl (by kernel_rfl) (by kernel_rfl) (by kernel_rfl) (fun _ _ _ h => h) (.inl ⟨rfl, fun w' hS => ?_⟩) hS0 ?_
  · obtain ⟨s1, s2⟩ := hS
    go_simp
  refine wpAnyH_take (i := 6) (v := (.pointer (some ⟨r, 0, none⟩))) rfl (by kernel_rfl) (by kernel_rfl) (by kernel_rfl) (fun _ _ _ h => h) (.inl ⟨rfl, fun w' hS => ?_⟩) hS0 ?_
  · obtain ⟨s1, s2⟩ := hS
    go_simp
  refine wpAnyH_take (i := 7) (v := (.pointer (some ⟨r, 0, none⟩))) rfl (by kernel_rfl) (by kernel_rfl) (by kernel_rfl) (fun _ _ _ h => h) (.inl ⟨rfl, fun w' hS => ?_⟩) hS0 ?_
  · obtain ⟨s1, s2⟩ := hS
    go_simp
  refine wpAnyH_take (i := 8) (v := (.slice aof s.files.length capf)) rfl (by kernel_rfl) (by kernel_rfl) (by kernel_rfl) (fun _ _ _ h => h) (.inl ⟨rfl, fun w' hS => ?_⟩) hS0 ?_
  · obtain ⟨s1, s2⟩ := hS
    go_simp
  refine wpAnyH_one (i := 9) (by kernel_rfl) (wpOp_plain rfl rfl ?_)
  refine wp_append_run (v := .slice none 0 0) (u := .slice aof s.files.length capf) (.tmp 20) (.tmp 24) 80 rfl (by simp [Act.eval, Act.put]) (by simp [Act.eval, Act.put]) hrun ?_
  simp only [Act.put, List.setIfInBounds_toArray, List.set_cons_zero, List.set_cons_succ]
  have hS1 : (fun w' : World => w'.cell? ⟨w.heap.size, 0, none⟩ = some (.slice none 0 0) ∧ w'.cell? ⟨r, 0, none⟩ = some (.slice aof s.files.length capf)) w2 := ⟨x02, c02⟩
  refine ⟨hS1, ?_⟩
  refine wpAnyH_take (i := 10) (v := (.pointer (some ⟨w.heap.size, 0, none⟩))) rfl (by kernel_rfl) (by kernel_rfl) (by kernel_rfl) (fun _ _ _ h => h) (.inl ⟨rfl, fun w' hS => ?_⟩) hS1 ?_
  · go_simp
  refine wpAnyH_take (i := 11) (v := (.pointer (some ⟨w.heap.size, 0, none⟩))) rfl (by kernel_rfl) (by kernel_rfl) (by kernel_rfl) (fun _ _ _ h => h) (.inl ⟨rfl, fun w' hS => ?_⟩) hS1 ?_
  · go_simp
  refine wpAnyH_done (by kernel_rfl) ?_ _
  unfold LastQ
  refine wpOp_plain rfl rfl ?_
  unfold Oper.wp
  go_simp
  have hWA : Hid (RX (w2.setCell ⟨w.heap.size, 0, none⟩ (.slice ao2 n2 cap2)) w.heap.size (fun b => w.heap.size ≤ b) (mkD s.room s.files [] []) ∧ Frm (fun _ => False) w (w2.setCell ⟨w.heap.size, 0, none⟩ (.slice ao2 n2 cap2))) := Lib.hid (by
    have hsz := HX2.out.2.2.size
    refine ⟨HX2.out.1.1.mono (fun b hb => ?_), HX2.out.2.2.trans' ((Frm.refl (fun _ => False) w1).drew.mono (fun _ _ h => h.elim) |>.trans HX2.out.1.2) (fun b hb e => by omega)⟩
    rcases hb with rfl | hb
    · exact Nat.le_refl _
    · exact Nat.le_trans hsz hb.1)
  have x0A : (w2.setCell ⟨w.heap.size, 0, none⟩ (.slice ao2 n2 cap2)).cell? ⟨w.heap.size, 0, none⟩ = some (.slice ao2 n2 cap2) := Tk.set_same _ _ _ _ _ x02
  have HN : Hid (∀ b, (Value.slice ao2 n2 cap2).ownBlock = some b → w.heap.size ≤ b) := Lib.hid (fun b hb => Nat.le_trans HX2.out.2.2.size (HN2.out b hb))
  clear HN2
  clear hS0 hS1 x02 fz2 c02 HX2 hrun x0 c0'
  generalize w2.setCell ⟨w.heap.size, 0, none⟩ (.slice ao2 n2 cap2) = wA at *
  obtain ⟨vs0, _, _, fzA, hsetA⟩ := RX.sure_any (C := fun b => B b ∨ w.heap.size ≤ b) hWA.out.1
  have hlt2 := World.block_lt_of_cell? _ _ c2
  have hset1 := hsetA wA _ s.sure (Frm.refl _ _) (H.out.keep hWA.out.2).sure (.inr (.inr (fun b hb h => by have := H.out.sure.lt b hb; omega))) (fun b hb => .inr hb) (fun b hb => .inl (HB.out b hb))
  have c2A := (hWA.out.2.cell (p := ⟨r, 2, none⟩) hlt2 (fun h => h)).trans c2
  have HS1 := Lib.hid hset1
  clear hsetA hset1
  go_upto_block 0 with fail
  have hst : RX (wA.setCell ⟨w.heap.size, 2, none⟩ (.slice aos s.sure.length caps)) w.heap.size (fun b => B b ∨ w.heap.size ≤ b) (crX s keep torn 0) ∧ Frm (fun _ => False) w (wA.setCell ⟨w.heap.size, 2, none⟩ (.slice aos s.sure.length caps)) ∧ (wA.setCell ⟨w.heap.size, 2, none⟩ (.slice aos s.sure.length caps)).cell? ⟨w.heap.size, 0, none⟩ = some (.slice ao2 n2 cap2) := by
    rw [crX_zero]
    exact ⟨HS1.out.1, hWA.out.2.trans' HS1.out.2 (fun b hb e => by omega), (Tk.set_off _ _ _ _ _ _ (by decide)).trans x0A⟩
  have Hst := Lib.hid hst
  clear hst HS1 hWA fzA c2A x0A
  generalize wA.setCell ⟨w.heap.size, 2, none⟩ (.slice aos s.sure.length caps) = wS at *
  obtain ⟨K0, hK0⟩ : ∃ K0 : Nat, K0 = keep.toNat := ⟨_, rfl⟩
  have hmx : max keep 0 = (K0 : Int) := by omega
  have hkK : ∀ k : Nat, decide ((k : Int) < keep) = decide (k < K0) := fun k => by
    by_cases c : k < K0
    · rw [decide_eq_true c]; exact decide_eq_true (by omega)
    · rw [decide_eq_false c]; exact decide_eq_false (by omega)
  have HK := Lib.hid (And.intro hK0 hkK)
  clear hK0 hkK
  go_cut [] from 8 to 135 (fun wx => Hid (RX wx w.heap.size (fun b => B b ∨ w.heap.size ≤ b) (crY s keep torn 0) ∧ Frm (fun _ => False) w wx ∧ wx.cell? ⟨w.heap.size, 0, none⟩ = some (.slice ao2 s.files.length cap2)))
  case first =>
    go_wp2_with fail
    go_loopw [8, 9] (fun i _ wr => ∃ k : Nat, k ≤ s.acts.length ∧ k ≤ K0 + 1 ∧ i = .int .i64 k ∧ Hid (RX wr w.heap.size (fun b => B b ∨ w.heap.size ≤ b) (crX s keep torn k) ∧ Frm (fun _ => False) w wr ∧ wr.cell? ⟨w.heap.size, 0, none⟩ = some (.slice ao2 n2 cap2))) (fun i _ _ => s.acts.length - (intOf i).toNat)
    case atStart => exact ⟨0, Nat.zero_le _, Nat.zero_le _, rfl, Hst⟩
    case round =>
      obtain ⟨k, hk, hkK, rfl, hI⟩ := hrel
      have c3' := (hI.out.2.1.cell (p := ⟨r, 3, none⟩) hrlt (fun h => h)).trans c3
      by_cases hlt : k < s.acts.length ∧ k ≤ K0
      · obtain ⟨hlt, hle⟩ := hlt
        have i1 : (0 : Int) ≤ k := by omega
        have i2 : (k : Int) < s.acts.length := by omega
        obtain ⟨g, e0, hc⟩ := Hacts.out k hlt
        cases e0
        have hgl : ∀ o u, w.cell? ⟨g, o, none⟩ = some u → wr.cell? ⟨g, o, none⟩ = some u := fun o u hu => (hI.out.2.1.cell (p := ⟨g, o, none⟩) (World.block_lt_of_cell? _ _ hu) (fun h => h)).trans hu
        obtain ⟨A, hA⟩ : ∃ A, A = s.acts[k] := ⟨_, rfl⟩
        rw [← hA] at hc
        have r0 := hgl _ _ (hc 0 _ rfl)
        have r1 := hgl _ _ (hc 1 _ rfl)
        have r2 := hgl _ _ (hc 2 _ rfl)
        have r3 := hgl _ _ (hc 3 _ rfl)
        have r4 := hgl _ _ (hc 4 _ rfl)
        rw [Nat.add_zero] at r0
        have hok := acts_get s.acts s.sure k hlt HI.out.acts
        rw [← hA] at hok
        have hRR : crR s keep k = replay s.sure (s.acts.take k) := by unfold crR; rw [Nat.min_eq_left (by have := HK.out.1; omega)]
        rw [← hRR] at hok
        have HA := Lib.hid (And.intro hA hok)
        have hI1 := RX.keep hI.out.1 ((Frm.refl (fun _ => False) wr).alloc (.cells #[.int .i64 A.c0, .string A.c1, .string A.c2, .int .i64 A.c3, .int .i64 A.c4] 124))
        have hF1 := hI.out.2.1.alloc (.cells #[.int .i64 A.c0, .string A.c1, .string A.c2, .int .i64 A.c3, .int .i64 A.c4] 124)
        have hx0 := (((Frm.refl (fun _ => False) wr).alloc (.cells #[.int .i64 A.c0, .string A.c1, .string A.c2, .int .i64 A.c3, .int .i64 A.c4] 124)).cell (World.block_lt_of_cell? _ _ hI.out.2.2) (fun h => h)).trans hI.out.2.2
        have HJ := Lib.hid (And.intro hI1 (And.intro hF1 hx0))
        clear hx0
        clear hc hgl hA hok hRR hI1 hF1
        have hks := HK.out.2 k
        cases hput : isPut A with
        | true =>
          cases A with
          | mk a b => simp [isPut] at hput
          | mv a b => simp [isPut] at hput
          | rm a => simp [isPut] at hput
          | put j n =>
          have hjl : j < s.files.length := by have := HI.out.alt s.acts[k] (List.getElem_mem hlt); rw [← HA.out.1] at this; exact this
          have hjx : j < (crX s keep torn k).files.length := by show j < (rf s _).length; rw [rf_len]; exact hjl
          have b0 : (wr.alloc (.cells #[.int .i64 3, .string ⟨#[]⟩, .string ⟨#[]⟩, .int .i64 j, .int .i64 n] 124)).cell? ⟨wr.heap.size, 0, none⟩ = some (.int .i64 3) := al_new _ _ _ 0
          have b3 : (wr.alloc (.cells #[.int .i64 3, .string ⟨#[]⟩, .string ⟨#[]⟩, .int .i64 j, .int .i64 n] 124)).cell? ⟨wr.heap.size, 3, none⟩ = some (.int .i64 j) := al_new _ _ _ 3
          have b4 : (wr.alloc (.cells #[.int .i64 3, .string ⟨#[]⟩, .string ⟨#[]⟩, .int .i64 j, .int .i64 n] 124)).cell? ⟨wr.heap.size, 4, none⟩ = some (.int .i64 n) := al_new _ _ _ 4
          have r0' : wr.cell? ⟨g, k * 5, none⟩ = some (.int .i64 3) := r0
          have r1' : wr.cell? ⟨g, k * 5 + 1, none⟩ = some (.string ⟨#[]⟩) := r1
          have r2' : wr.cell? ⟨g, k * 5 + 2, none⟩ = some (.string ⟨#[]⟩) := r2
          have r3' : wr.cell? ⟨g, k * 5 + 3, none⟩ = some (.int .i64 j) := r3
          have r4' : wr.cell? ⟨g, k * 5 + 4, none⟩ = some (.int .i64 n) := r4
          have HJ' : Hid (RX (wr.alloc (.cells #[.int .i64 3, .string ⟨#[]⟩, .string ⟨#[]⟩, .int .i64 j, .int .i64 n] 124)) w.heap.size (fun b => B b ∨ w.heap.size ≤ b) (crX s keep torn k) ∧ Frm (fun _ => False) w (wr.alloc (.cells #[.int .i64 3, .string ⟨#[]⟩, .string ⟨#[]⟩, .int .i64 j, .int .i64 n] 124)) ∧ (wr.alloc (.cells #[.int .i64 3, .string ⟨#[]⟩, .string ⟨#[]⟩, .int .i64 j, .int .i64 n] 124)).cell? ⟨w.heap.size, 0, none⟩ = some (.slice ao2 n2 cap2)) := HJ
          obtain ⟨gx, capx, x0, hlex, f0, f1, fzg, fzx, hXlt, hXg, _, hset⟩ := RX.put HJ'.out.1 hjx
          have hgF : getF (crX s keep torn k) j = ((getF s j).1, (getF s j).2 + crG s keep torn k j) := getF_rf s _ (crX s keep torn k) rfl hjl
          rw [hgF] at f0 f1
          clear r0 r1 r2 r3 r4 HJ hput
          have e0 := HJ'.out.2.2
          rw [x0] at e0
          cases e0
          have hgX : w.heap.size ≤ gx := HN.out gx rfl
          have hjx2 : j < (rf s fun f => ((getF s f).1, (getF s f).2 + crG s keep torn k f)).length := by rw [rf_len]; exact hjl
          have hfl2 : (crX s keep torn k).files.length = s.files.length := rf_len _ _
          rw [hfl2] at x0 hlex
          have hZle : (getF s j).2 + crG s keep torn k j + n ≤ 300000000000 := by
            have g1 := crG_le (keep := keep) (torn := torn) (k := k) HI.out hjl
            have g2 := puts_get2 (f := j) hlt
            have g3 := HI.out.sums j hjl
            have g4 := Hfs.out j
            rw [← HA.out.1] at g2
            have g5 : putN j (.put j n) = n := if_pos rfl
            omega
          have hfin : ∀ m : Nat, (∀ f, crG s keep torn (k + 1) f = crG s keep torn k f + if j = f then m else 0) → crR s keep (k + 1) = crR s keep k → ∀ wz, Frm (fun _ => False) ((wr.alloc (.cells #[.int .i64 3, .string ⟨#[]⟩, .string ⟨#[]⟩, .int .i64 j, .int .i64 n] 124)).setCell ⟨gx, j * 2 + 1, none⟩ (.int .i64 (((getF s j).2 + crG s keep torn k j + m : Nat) : Int))) wz → Hid (RX wz w.heap.size (fun b => B b ∨ w.heap.size ≤ b) (crX s keep torn (k + 1)) ∧ Frm (fun _ => False) w wz ∧ wz.cell? ⟨w.heap.size, 0, none⟩ = some (.slice (some ⟨gx, 0, none⟩) s.files.length cap2)) := fun m hG hR wz hz => Lib.hid (by
            have h1 := (hset ((getF s j).2 + crG s keep torn k j + m)).1
            have h2 := crX_put (keep := keep) (torn := torn) (n := m) hR hG hjl
            rw [hgF] at h1 h2
            rw [h2] at h1
            have hF := HJ'.out.2.1.trans' ((Frm.refl (fun b => b = gx) _).setCell (p := ⟨gx, j * 2 + 1, none⟩) (fun _ => rfl) (.int .i64 (((getF s j).2 + crG s keep torn k j + m : Nat) : Int))) (fun b hb e => by omega)
            have hx := (set_blk (wr.alloc (.cells #[.int .i64 3, .string ⟨#[]⟩, .string ⟨#[]⟩, .int .i64 j, .int .i64 n] 124)) gx w.heap.size (j * 2 + 1) 0 (.int .i64 (((getF s j).2 + crG s keep torn k j + m : Nat) : Int)) (fun e => hXg e.symm)).trans x0
            exact ⟨RX.keep h1 hz, hF.trans hz, (hz.cell (World.block_lt_of_cell? _ _ hx) (fun h => h)).trans hx⟩)
          have i4 : (0 : Int) ≤ j := by omega
          have i5 : (j : Int) < s.files.length := by omega
          have hgw : gx < wr.heap.size := by
            obtain ⟨gy, cy, y0, _, y1, _⟩ := RX.put hI.out.1 hjx
            have e1 := hI.out.2.2
            rw [y0] at e1
            cases e1
            exact World.block_lt_of_cell? _ _ y1
          have hgw2 : gx ≠ wr.heap.size := by omega
          have HFin := Lib.hid hfin
          have HL := Lib.hid hfl2
          clear hfin hset hgF hjx hjx2 hfl2
          generalize hZ : (getF s j).2 + crG s keep torn k j = Z at *
          clear hZ
          by_cases hkk : k < K0
          · have t1 : decide ((k : Int) < keep) = true := by rw [hks]; exact decide_eq_true hkk
            have hw : IntKind.i64.wrap ((Z : Int) + n) = ((Z + n : Nat) : Int) := by rw [IntWalk.i64_in _ (by omega)]; omega
            clear hks
            go_wp2_with fail
            have hE := HFin.out n (fun f => by rw [crG_lt hlt (by have := HK.out.1; omega), ← HA.out.1]; rfl) (by rw [crR_lt hlt (by have := HK.out.1; omega), ← HA.out.1]; rfl) _ (Frm.refl (fun _ => False) _).drew
            clear HFin HJ' r0' r1' r2' r3' r4'
            generalize wr.alloc (.cells #[.int .i64 3, .string ⟨#[]⟩, .string ⟨#[]⟩, .int .i64 j, .int .i64 n] 124) = wB at *
            have b0d : (wB.setCell ⟨gx, j * 2 + 1, none⟩ (.int .i64 ((Z + n : Nat) : Int))).drew.cell? ⟨wr.heap.size, 0, none⟩ = some (.int .i64 3) := (set_blk wB gx wr.heap.size (j * 2 + 1) 0 (.int .i64 ((Z + n : Nat) : Int)) hgw2).trans b0
            go_still_tail 20, (by kernel_rfl)
            go_wp2_with fail
            exact ⟨⟨k + 1, by omega, by omega, by simp, Lib.hid ⟨hE.out.1, hE.out.2.1, by rw [HL.out]; exact hE.out.2.2⟩⟩, by simp [intOf]; omega⟩
          · have t1 : decide ((k : Int) < keep) = false := by rw [hks]; exact decide_eq_false hkk
            have hke : k = K0 := by omega
            obtain ⟨T0, hT0⟩ : ∃ T0 : Nat, T0 = torn.toNat := ⟨_, rfl⟩
            have hmt : max torn 0 = (T0 : Int) := by omega
            obtain ⟨M, hM⟩ : ∃ M : Nat, M = min n T0 := ⟨_, rfl⟩
            have hmn : min (n : Int) (T0 : Int) = (M : Int) := by omega
            have hw : IntKind.i64.wrap ((Z : Int) + M) = ((Z + M : Nat) : Int) := by rw [IntWalk.i64_in _ (by omega)]; omega
            have hE := HFin.out M (fun f => by
              rw [crG_eq (by rw [hke]; exact HK.out.1)]
              have : tornN s keep torn f = if j = f then M else 0 := by
                unfold tornN
                rw [← HK.out.1, ← hke, List.getElem?_eq_getElem hlt, ← HA.out.1]
                show (if j = f then min n torn.toNat else 0) = _
                rw [hM, hT0]
              rw [this]) (crR_ge (by rw [hke, HK.out.1]; exact Nat.le_refl _)) _ (Frm.refl (fun _ => False) _).drew
            subst hke
            clear hks hM hT0
            go_wp2_with fail
            clear HFin HJ' r0' r1' r2' r3' r4'
            generalize wr.alloc (.cells #[.int .i64 3, .string ⟨#[]⟩, .string ⟨#[]⟩, .int .i64 j, .int .i64 n] 124) = wB at *
            have b0d : (wB.setCell ⟨gx, j * 2 + 1, none⟩ (.int .i64 ((Z + M : Nat) : Int))).drew.cell? ⟨wr.heap.size, 0, none⟩ = some (.int .i64 3) := (set_blk wB gx wr.heap.size (j * 2 + 1) 0 (.int .i64 ((Z + M : Nat) : Int)) hgw2).trans b0
            go_still_tail 23, (by kernel_rfl)
            go_wp2_with fail
            exact ⟨⟨k + 1, by omega, by omega, by simp, Lib.hid ⟨hE.out.1, hE.out.2.1, by rw [HL.out]; exact hE.out.2.2⟩⟩, by simp [intOf]; omega⟩
        | false =>
          have n3 : A.c0 ≠ 3 := by cases A <;> simp [DAct.c0, isPut] at hput ⊢
          have t3 : (A.c0 == 3) = false := by simpa using n3
          have t4 : (A.c0 != 3) = true := by simpa using n3
          have hputs : isPut s.acts[k] = false := by rw [← HA.out.1]; exact hput
          clear n3
          by_cases hkk : k < K0
          · have t1 : decide ((k : Int) < keep) = true := by rw [hks]; exact decide_eq_true hkk
            clear hks
            go_wp2_with fail
            have hXlt : w.heap.size < wr.heap.size := by
              obtain ⟨vq, xq, _⟩ := RX.sure_any (C := B) hI.out.1
              exact World.block_lt_of_cell? _ _ xq
            obtain ⟨vsx, x2, hRw, fzx, hsetx⟩ := RX.sure_any (C := fun b => B b ∨ w.heap.size ≤ b) HJ.out.1
            obtain ⟨aox, capx, evx, _⟩ := id hRw
            have b0 : (wr.alloc (.cells #[.int .i64 A.c0, .string A.c1, .string A.c2, .int .i64 A.c3, .int .i64 A.c4] 124)).cell? ⟨wr.heap.size, 0, none⟩ = some (.int .i64 A.c0) := al_new _ _ _ 0
            have b1 : (wr.alloc (.cells #[.int .i64 A.c0, .string A.c1, .string A.c2, .int .i64 A.c3, .int .i64 A.c4] 124)).cell? ⟨wr.heap.size, 1, none⟩ = some (.string A.c1) := al_new _ _ _ 1
            have b2 : (wr.alloc (.cells #[.int .i64 A.c0, .string A.c1, .string A.c2, .int .i64 A.c3, .int .i64 A.c4] 124)).cell? ⟨wr.heap.size, 2, none⟩ = some (.string A.c2) := al_new _ _ _ 2
            have b3 : (wr.alloc (.cells #[.int .i64 A.c0, .string A.c1, .string A.c2, .int .i64 A.c3, .int .i64 A.c4] 124)).cell? ⟨wr.heap.size, 3, none⟩ = some (.int .i64 A.c3) := al_new _ _ _ 3
            have b4 : (wr.alloc (.cells #[.int .i64 A.c0, .string A.c1, .string A.c2, .int .i64 A.c3, .int .i64 A.c4] 124)).cell? ⟨wr.heap.size, 4, none⟩ = some (.int .i64 A.c4) := al_new _ _ _ 4
            clear r0 r1 r2 r3 r4
            generalize wr.alloc (.cells #[.int .i64 A.c0, .string A.c1, .string A.c2, .int .i64 A.c3, .int .i64 A.c4] 124) = wB at *
            have hDone : ∀ wz, Frm (fun _ => False) wB wz → Calls Try.prog 70 #[vsx, acV A] wz fun e w' => ∃ v', e = .returned v' ∧ Rw nmC 2 w' v' (doneD (crR s keep k) A) ∧ Fresh wz vsx v' ∧ Frm (fun _ => False) wz w' := fun wz hz =>
              rdone_any vsx (crR s keep k) A wz (hRw.frm hz (fun _ _ h => h)) (by have := crR_len s keep k; omega) (fun x y e => by have := HA.out.2; rw [e] at this; exact this.1)
            have hend : ∀ (wz : World) (v : Value), Frm (fun _ => False) wB wz → Rw nmC 2 wz v (doneD (crR s keep k) A) → (v = vsx ∨ ∀ b, v.ownBlock = some b → wB.heap.size ≤ b) → Hid (RX (wz.setCell ⟨w.heap.size, 2, none⟩ v) w.heap.size (fun b => B b ∨ w.heap.size ≤ b) (crX s keep torn (k + 1)) ∧ Frm (fun _ => False) w (wz.setCell ⟨w.heap.size, 2, none⟩ v) ∧ (wz.setCell ⟨w.heap.size, 2, none⟩ v).cell? ⟨w.heap.size, 0, none⟩ = some (.slice ao2 n2 cap2)) := fun wz v hz hR hv => Lib.hid (by
              have h1 := hsetx wz v _ hz hR (hv.imp id .inl) (fun b hb => hb) (fun b hb => by
                rcases hv with rfl | hv
                · exact RX.sure_own HJ.out.1 x2 b hb
                · exact .inr (Nat.le_trans HJ.out.2.1.size (hv b hb)))
              rw [crX_same (l := doneD (crR s keep k) A) (by rw [crR_lt hlt (by have := HK.out.1; omega), HA.out.1]) (fun f => by rw [crG_lt hlt (by have := HK.out.1; omega), putN_dir f hputs]; rfl)] at h1
              exact ⟨h1.1, HJ.out.2.1.trans' ((hz.mono (T := fun b => b = w.heap.size) (fun _ _ h => h.elim)).setCell (p := ⟨w.heap.size, 2, none⟩) (fun _ => rfl) v) (fun b hb e => by omega), (Tk.set_off _ _ _ _ _ _ (by decide)).trans ((hz.cell (World.block_lt_of_cell? _ _ HJ.out.2.2) (fun h => h)).trans HJ.out.2.2)⟩)
            subst evx
            have HDone := Lib.hid (And.intro hDone hend)
            clear hRw hsetx hDone hend
            have hne : w.heap.size ≠ wr.heap.size := by omega
            have hXB : w.heap.size < wB.heap.size := World.block_lt_of_cell? _ _ x2
            go_region_law (go_simp; go_at_call 70; refine (HDone.out.1 wB.drew (Frm.refl _ _).drew).mono ?_; rintro e w2 ⟨vd', rfl, hR2, hfr2, hf2⟩; have hf2' : Frm (fun _ => False) wB w2 := (Frm.refl _ wB).drew.trans hf2; have fz2 := fun o => (hf2'.frozen (p := ⟨w.heap.size, o, none⟩) hXB (fun h => h)).trans (fzx o); have x22 := (hf2'.cell (p := ⟨w.heap.size, 2, none⟩) (World.block_lt_of_cell? _ _ x2) (fun h => h)).trans x2; have b02 := (hf2'.cell (p := ⟨wr.heap.size, 0, none⟩) (World.block_lt_of_cell? _ _ b0) (fun h => h)).trans b0; have G := HDone.out.2 w2 vd' hf2' hR2 hfr2; obtain ⟨ao2, cap2, hv2, _⟩ := hR2; clear hfr2 hf2 hf2'; subst hv2)
            all_goals (
              have b03 := (set_blk w2 w.heap.size wr.heap.size 2 0 (.slice ao2 (doneD (crR s keep k) A).length cap2) hne).trans b02
              generalize w2.setCell ⟨w.heap.size, 2, none⟩ (.slice ao2 (doneD (crR s keep k) A).length cap2) = wE at *
              clear b0 b1 b2 b3 b4 b02 x22 fz2 x2 HDone
              go_wp2_with fail
              exact ⟨⟨k + 1, by omega, by omega, by simp, G⟩, by simp [intOf]; omega⟩)
          · have t1 : decide ((k : Int) < keep) = false := by rw [hks]; exact decide_eq_false hkk
            have hke : k = K0 := by omega
            subst hke
            clear hks
            have hend : Hid (RX (wr.alloc (.cells #[.int .i64 A.c0, .string A.c1, .string A.c2, .int .i64 A.c3, .int .i64 A.c4] 124)) w.heap.size (fun b => B b ∨ w.heap.size ≤ b) (crX s keep torn (k + 1)) ∧ Frm (fun _ => False) w (wr.alloc (.cells #[.int .i64 A.c0, .string A.c1, .string A.c2, .int .i64 A.c3, .int .i64 A.c4] 124)) ∧ (wr.alloc (.cells #[.int .i64 A.c0, .string A.c1, .string A.c2, .int .i64 A.c3, .int .i64 A.c4] 124)).cell? ⟨w.heap.size, 0, none⟩ = some (.slice ao2 n2 cap2)) := Lib.hid (by
              have h1 := HJ.out.1
              rw [show crX s keep torn k = crX s keep torn (k + 1) from crX_same (l := crR s keep k) (crR_ge (by have := HK.out.1; omega)) (fun f => by
                rw [crG_eq HK.out.1]
                have : tornN s keep torn f = 0 := by
                  unfold tornN
                  rw [← HK.out.1, List.getElem?_eq_getElem hlt]
                  cases hq : s.acts[k] with
                  | put j n => rw [hq] at hputs; simp [isPut] at hputs
                  | mk a b => rfl
                  | mv a b => rfl
                  | rm a => rfl
                omega)] at h1
              exact ⟨h1, HJ.out.2⟩)
            clear HJ
            go_wp2_with fail
            exact ⟨⟨k + 1, by omega, by omega, by simp, hend⟩, by simp [intOf]; omega⟩
      · have hor : k = s.acts.length ∨ keep.toNat < k := by have := HK.out.1; omega
        have hY : RX wr w.heap.size (fun b => B b ∨ w.heap.size ≤ b) (crY s keep torn 0) := by rw [← crX_fin hk hor]; exact hI.out.1
        have hn2 : n2 = s.files.length := by
          obtain ⟨vfh, _, _, _, e1, ho, _⟩ := RX.head hY
          obtain ⟨aoh, caph, e2, _⟩ := row_slice ho
          have e3 := hI.out.2.2
          rw [e1, e2] at e3
          have e4 : (crY s keep torn 0).files.length = s.files.length := rf_len _ _
          cases e3
          exact e4
        subst hn2
        have HY := Lib.hid (And.intro hY hI.out.2)
        have hcase : k = s.acts.length ∨ (k < s.acts.length ∧ k = K0 + 1) := by omega
        clear hY hI hor hlt hkK
        rcases hcase with e | ⟨e1, e2⟩
        · subst e
          go_wp2_with fail
          go_meet
          exact HY
        · have t1 : decide ((k : Int) < keep) = false := by rw [HK.out.2 k]; exact decide_eq_false (by omega)
          have t2 : ¬ k = K0 := by omega
          have i8 : (0 : Int) ≤ k := by omega
          have i9 : (k : Int) < s.acts.length := by omega
          clear e1 e2
          go_wp2_with fail
          go_meet
          exact HY
  case rest =>
    have HY := hcut
    have q0 := HY.out.2.2
    go_wp2_with fail
    go_loopw [10] (fun i wr => ∃ m : Nat, m ≤ s.files.length ∧ i = .int .i64 m ∧ Hid (RX wr w.heap.size (fun b => B b ∨ w.heap.size ≤ b) (crY s keep torn m) ∧ Frm (fun _ => False) w wr ∧ wr.cell? ⟨w.heap.size, 0, none⟩ = some (.slice ao2 s.files.length cap2))) (fun i _ => s.files.length - (intOf i).toNat)
    case atStart => exact ⟨0, Nat.zero_le _, rfl, HY⟩
    case round =>
      obtain ⟨m, hm, rfl, hJ⟩ := hrel
      have x0 := hJ.out.2.2
      by_cases hlt : m < s.files.length
      · have hmx2 : m < (crY s keep torn m).files.length := by show m < (rf s _).length; rw [rf_len]; exact hlt
        obtain ⟨gx, capx, y0, hlex, f0, f1, fzg, fzx, hXlt, hXg, hset, _⟩ := RX.put hJ.out.1 hmx2
        have hgF : getF (crY s keep torn m) m = ((getF s m).1, sureC s keep torn m) := by
          rw [getF_rf s _ (crY s keep torn m) rfl hlt, if_neg (Nat.lt_irrefl m)]
        rw [hgF] at f0 f1
        have hfl2 : (crY s keep torn m).files.length = s.files.length := rf_len _ _
        rw [hfl2] at y0 hlex
        rw [x0] at y0
        have hgX : w.heap.size ≤ gx := HN.out gx (by cases y0; rfl)
        have hfin : Hid (RX (wr.setCell ⟨gx, m * 2, none⟩ (.string ((getF s m).1.extract 0 (sureC s keep torn m)))).drew w.heap.size (fun b => B b ∨ w.heap.size ≤ b) (crY s keep torn (m + 1)) ∧ Frm (fun _ => False) w (wr.setCell ⟨gx, m * 2, none⟩ (.string ((getF s m).1.extract 0 (sureC s keep torn m)))).drew ∧ (wr.setCell ⟨gx, m * 2, none⟩ (.string ((getF s m).1.extract 0 (sureC s keep torn m)))).drew.cell? ⟨w.heap.size, 0, none⟩ = some (.slice ao2 s.files.length cap2)) := Lib.hid (by
          have h1 := (hset ((getF s m).1.extract 0 (sureC s keep torn m))).1
          rw [crY_cut hlt] at h1
          have hF := hJ.out.2.1.trans' ((Frm.refl (fun b => b = gx) _).setCell (p := ⟨gx, m * 2, none⟩) (fun _ => rfl) (.string ((getF s m).1.extract 0 (sureC s keep torn m)))) (fun b hb e => by omega)
          have hx := (set_blk wr gx w.heap.size (m * 2) 0 (.string ((getF s m).1.extract 0 (sureC s keep torn m))) (fun e => hXg e.symm)).trans x0
          exact ⟨RX.keep h1 (Frm.refl _ _).drew, hF.drew, hx⟩)
        have i1 : (0 : Int) ≤ m := by omega
        have i2 : (m : Int) < s.files.length := by omega
        have i3 : (0 : Int) ≤ sureC s keep torn m := by omega
        have i4 : (sureC s keep torn m : Int) ≤ (getF s m).1.size := by have := HI.out.sureC_le keep torn hlt; omega
        have e0 : ao2 = some ⟨gx, 0, none⟩ := by cases y0; rfl
        subst e0
        clear hset hgF y0 hmx2 hfl2
        generalize hS : sureC s keep torn m = S at *
        generalize hX : (getF s m).1 = X at *
        clear hS hX
        go_wp2_with fail
        go_still_tail 24, (by kernel_rfl)
        go_wp2_with fail
        exact ⟨⟨m + 1, by omega, by simp, hfin⟩, by simp [intOf]; omega⟩
      · have hml : m = s.files.length := by omega
        subst hml
        obtain ⟨vq, q2, hRw, _⟩ := RX.sure_any (C := B) hJ.out.1
        obtain ⟨vsx, x2, fzx, hset, _⟩ := RX.set_dir_sure hJ.out.1
        obtain ⟨aoq, capq, evq, _⟩ := hRw
        rw [q2] at x2
        have evx : vq = vsx := by cases x2; rfl
        subst evx
        subst evq
        rw [crY_end] at hset
        have HF := Lib.hid (And.intro hset (hJ.out.2.1.trans' ((Frm.refl (fun b => b = w.heap.size) wr).setCell (p := ⟨w.heap.size, 1, none⟩) (fun _ => rfl) (.slice aoq (crY s keep torn s.files.length).sure.length capq)) (fun b hb e => by omega)))
        clear hset
        clear x2
        obtain ⟨vdx, x1, _⟩ := RX.set_sure hJ.out.1
        go_wp2_with fail
        go_ret
        exact ⟨w.heap.size, rfl, HF.out.1, HF.out.2⟩
end Go.Proofs.Ytngickhakedonaa
