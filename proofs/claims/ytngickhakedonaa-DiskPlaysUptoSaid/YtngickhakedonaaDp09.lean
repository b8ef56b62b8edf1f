/- A text of a claim's proof: see the last text of the claim. -/
import Derived.Test.YtngickhakedonaaDp08
import Derived.Laws.EntriesVeiled
import Derived.Lib.MinMax
set_option linter.all false
namespace Go.Proofs.Ytngickhakedonaa
open Go.RowKit Go.Tk Go.Dk

variable {w w' : World} {d : Nat} {L : PL} {s : DS} {B : Nat → Prop}

theorem neq98_nil (w : World) : (binOp .neq 98 (.pointer none) (.pointer none)).run Try.prog w = .ok (.bool false) w := by kernel_rfl

theorem replay_live {live : Nat → Prop} : ∀ (az : List DAct) (l : List Nm), (∀ x ∈ l, live x.2) → (∀ a ∈ az, actLive live a) → Acts l az → ∀ x ∈ replay l az, live x.2
  | [], l, h, _, _ => h
  | a :: az, l, h, h1, h2 => replay_live az (doneD l a) (done_live h (h1 a (by simp)) h2.1) (fun b hb => h1 b (List.mem_cons_of_mem _ hb)) h2.2
theorem PD.perm (h : PD w d L s) {dir sure : List Nm} (h1 : s.dir.Perm dir) (h2 : s.sure.Perm sure) : PD w d L { s with dir := dir, sure := sure } :=
  { h with dp := h.dp.trans h1, sp := h.sp.trans h2, ld := fun x hx => h.ld x (h1.mem_iff.2 hx), ls := fun x hx => h.ls x (h2.mem_iff.2 hx) }
/-- the new disk, as far as it has come -/
def crS (s : DS) (keep torn : Int) (done : List Nm) : DS := { newDS s.room with files := (crashD s keep torn).files, dir := done }
theorem crS_end (s : DS) (keep torn : Int) (done : List Nm) : { crS s keep torn done with dir := (crashD s keep torn).dir, sure := (crashD s keep torn).sure } = crashD s keep torn := rfl

/-- one more file in the new disk: what the program has done -/
theorem crash_step {w2 w3 : World} {X k : Nat} {Lx : PL} {done : List Nm} {keep torn : Int} {name : ByteArray} {v : Value} (hpx : PD w2 X Lx (crS s keep torn done)) (hf3 : Frm (fun _ => False) w2 w3) (bv : BV w3 v (crashF s keep torn k).1) (own : ∀ b, bown v = some b → w2.heap.size ≤ b) (hkl : k < s.files.length) (hk : ¬ Lx.live k) (hno : Dk.ofI done name = none) :
    ∃ w4, (Instr.mapUpdate 75 (.map (some Lx.bd)) (strKy.f name) (.pointer (some ⟨w3.heap.size, 0, none⟩))).run Try.prog (w3.alloc (.cells #[v, .int .i64 (sureC s keep torn k)] 100)) = .ok () w4 ∧ Frm (· = Lx.bd) (w3.alloc (.cells #[v, .int .i64 (sureC s keep torn k)] 100)) w4 ∧ ∃ L', (∀ j, L'.live j ↔ (Lx.live j ∨ j = k)) ∧ (∀ b, L'.role b ≠ .free → Lx.role b ≠ .free ∨ w2.heap.size ≤ b) ∧ PD w4 X L' (crS s keep torn (done ++ [(name, k)])) := by
  have hA : Frm (fun _ => False) w3 (w3.alloc (.cells #[v, .int .i64 (sureC s keep torn k)] 100)) := (Frm.refl _ _).alloc _
  have hF := hf3.trans hA
  obtain ⟨w4, hrun, hg4, hf4⟩ := (hpx.keep hF).dirm.run_update (P := Try.prog) Try.underlying75 Try.underlying9 name (ptrV w3.heap.size)
  have hcF : getF (crS s keep torn done) k = crashF s keep torn k := getF_crash keep torn hkl
  obtain ⟨L', h1, _, h3, h4⟩ := hpx.add_file hF (g := w3.heap.size) (k := k) (v := v) (name := name) hf3.size (by rw [World.size_alloc]; omega) hk (by show k < (crashD s keep torn).files.length; rw [crash_len]; exact hkl) (al_new _ _ _ 0) (by rw [hcF]; exact al_new _ _ _ 1) (Fz.new _ _ _) (by rw [hcF]; exact bv.frm hA (fun _ _ h => h)) (fun b hb => ⟨own b hb, by have := bv.own_lt hb; omega⟩) hg4 hf4 hno
  exact ⟨w4, hrun, hf4, L', h1, h3, h4⟩

theorem puts_get {az : List DAct} {i f : Nat} (h : i < az.length) : putN f az[i] ≤ puts az f := by
  have h1 := puts_split az (i + 1) f
  rw [List.take_succ_eq_append_getElem h, puts_snoc] at h1
  omega

set_option maxRecDepth 100000 in
set_option maxHeartbeats 4000000 in
theorem crash_any (keep torn : Int) (w : World) (h : PD w d L s) (hi : Inv s) (hal : s.acts.length ≤ 100000) (hfs : ∀ k, (getF s k).1.size ≤ 100000000000) (hroom : 0 ≤ s.room) (hk1 : -9223372036854775808 ≤ keep) (hk2 : keep ≤ 9223372036854775807) (ht1 : -9223372036854775808 ≤ torn) (ht2 : torn ≤ 9223372036854775807) :
    Calls Try.prog 28 #[.pointer (some ⟨d, 0, none⟩), .int .i64 keep, .int .i64 torn] w fun e w' => ∃ X Lx, e = .returned (.pointer (some ⟨X, 0, none⟩)) ∧ PD w' X Lx (crashD s keep torn) ∧ Frm (fun _ => False) w w' ∧ (∀ b, Lx.role b ≠ .free → w.heap.size ≤ b) := by
  have hmm := @run_makeMap Try.prog
  have c1 := h.c1
  have c2 := h.c2
  have c3 := h.c3
  obtain ⟨aol, capl, hvl, hlel⟩ := row_slice h.loose
  have hlen : L.pa.length = s.acts.length := by rw [← h.ap, List.length_map]
  have Hlen := Lib.hid hlen
  have Hvl := Lib.hid hvl
  rw [hvl] at c2
  have hdlt := h.rb d (by rw [h.r0]; simp)
  have H := Lib.hid h
  have HI := Lib.hid hi
  have Hfs := Lib.hid hfs
  clear h hi hvl hlen hfs
  go_enter Try.func28, Try.ntmps28
  go_wp2_with fail
  have hA : Frm (fun _ => False) w ((w.alloc (.map #[] 0)).alloc (.cells #[.map (some w.heap.size)] 107)) := ((Frm.refl _ w).alloc _).alloc _
  refine (mclone_any L.bs _ _ (H.out.keep hA).surem).mono ?_
  rintro e w3 ⟨rfl, hm3, o, hw3⟩
  have hF3 : Frm (fun _ => False) ((w.alloc (.map #[] 0)).alloc (.cells #[.map (some w.heap.size)] 107)) w3 := by rw [hw3]; exact (Frm.refl _ _).alloc o
  have hF03 := hA.trans hF3
  have hsz3 : w3.heap.size = w.heap.size + 3 := by rw [hw3]; simp
  have hst : CrI L s keep torn w 0 w3 := by
    refine ⟨hF03, by omega, ⟨L.sl, ?_, by rw [crR_zero]; exact H.out.sp⟩, ?_, ?_⟩
    · have e : ((w.alloc (.map #[] 0)).alloc (.cells #[.map (some w.heap.size)] 107)).heap.size = w.heap.size + 2 := by simp
      rw [e] at hm3; exact hm3
    · rw [crG_zero]
      refine ⟨[], ((PMap.made w).frm ((Frm.refl (fun _ => False) _).alloc _) (fun h => h)).frm hF3 (fun h => h), fun p hp => (by cases hp), fun f _ => rfl⟩
    · refine (hF3.cell (p := ⟨w.heap.size + 1, 0, none⟩) (by simp) (fun h => h)).trans ?_
      have := al_new (w.alloc (.map #[] 0)) #[.map (some w.heap.size)] 107 0
      rw [World.size_alloc] at this
      exact this
  have Hst := Lib.hid hst
  have c2' := (hF03.cell (p := ⟨d, 2, none⟩) hdlt (fun h => h)).trans c2
  have e2 : ((w.alloc (.map #[] 0)).alloc (.cells #[.map (some w.heap.size)] 107)).heap.size = w.heap.size + 2 := by simp
  rw [e2]
  clear hA hF3 hst hm3 hw3 e2 c1 c2 hmm hF03 hsz3
  go_wp2_with fail
  rw [Hlen.out]
  go_loopw [10, 11, 31] (fun _ _ i wr => ∃ k : Nat, k ≤ s.acts.length ∧ i = .int .i64 k ∧ Hid (CrI L s keep torn w k wr)) (fun _ _ i _ => s.acts.length - (intOf i).toNat)
  case atStart => exact ⟨0, Nat.zero_le _, rfl, Hst⟩
  case round =>
    obtain ⟨k, hk, rfl, hI⟩ := hrel
    by_cases hlt : k < s.acts.length
    · have hP := Lib.hid (H.out.keep hI.out.frm)
      have hky : k < L.pa.length := by rw [Hlen.out]; exact hlt
      have hR := rw_of_owns (paC_len L.fb) hP.out.loose rfl
      rw [Hvl.out] at hR
      obtain ⟨_, _, e0, _, _, _, hc⟩ := hR
      cases e0
      obtain ⟨g, e0, c1⟩ := hc k hky
      subst e0
      have r0 := c1 0 _ rfl
      have r1 := c1 1 _ rfl
      have r2 := c1 2 _ rfl
      rw [Nat.add_zero] at r0
      have i1 : (0 : Int) ≤ k := by omega
      have i2 : (k : Int) < s.acts.length := by omega
      have hpa : (L.pa[k]).1 = s.acts[k] := by
        have := H.out.ap
        have h1 : (L.pa.map (·.1))[k]'(by rw [List.length_map]; exact hky) = s.acts[k] := by simp only [this]
        rwa [List.getElem_map] at h1
      have hcap := hP.out.caps _ (List.getElem_mem hky)
      have hla := H.out.la _ (List.getElem_mem hlt)
      have hok := acts_get s.acts s.sure k hlt HI.out.acts
      obtain ⟨p, hp⟩ : ∃ p, p = L.pa[k] := ⟨_, rfl⟩
      rw [← hp] at r0 r1 r2 hpa hcap
      obtain ⟨o0, o1, o2⟩ := paV_one L.fb p
      have HP := Lib.hid (And.intro hpa (And.intro hcap (And.intro hla hok)))
      clear hc c1 hp hpa hcap hla hok
      have hA1 := (Frm.refl (fun _ => False) wr).alloc (.cells #[(paV L.fb p).1, (paV L.fb p).2.1, (paV L.fb p).2.2] 104)
      have hI1 := hI.out.keep hA1
      have hP1 := hP.out.keep hA1
      obtain ⟨dl, hdl, hperm⟩ := hI1.dir
      cases hput : isPut p.1 with
      | false =>
        have hR0 : OkDir (crR s keep k) := acts_ok _ _ HI.out.ok (acts_take _ _ _ HI.out.acts)
        have hdn : (dl.map (·.1)).Nodup := (hperm.map _).nodup_iff.2 hR0.srt.names
        have hcapA := HP.out.2.1.frm hA1 (fun _ _ h => h)
        have hv1 : (paV L.fb p).1 = .pointer none ∧ (paV L.fb p).2.1 = .int .i64 0 := by
          obtain ⟨a, x, y⟩ := p
          cases a <;> first | exact ⟨rfl, rfl⟩ | (simp [isPut] at hput)
        have hputs : isPut s.acts[k] = false := by rw [← HP.out.1]; exact hput
        have hG0 : ∀ f, putN f s.acts[k] = 0 := fun f => putN_dir f hputs
        by_cases hkk : k < keep.toNat
        · have t1 : (k : Int) < keep := by omega
          have hokk : OkAct (crR s keep k) p.1 := by
            have := HP.out.2.2.2
            unfold crR
            rw [Nat.min_eq_left (Nat.le_of_lt hkk), HP.out.1]; exact this
          obtain ⟨caps, hcl, hcall⟩ := clos_any hcapA hdl (fun x hx e => by have := H.out.rb x (by rw [hx]; simp); omega) (fun x y e => by rw [e] at hokk; rw [ofI_perm x hperm hdn]; exact hokk.1) hput
          have hcf := run_clos p.1 hput
          have Hcall := Lib.hid hcall
          have HX := Lib.hid (And.intro hI1 (And.intro hperm (And.intro hdn (And.intro hokk hputs))))
          rw [hv1.1] at r0
          rw [hv1.2] at r1
          rw [hcl] at r2
          rw [hv1.1, hv1.2, hcl] at Hcall HX
          unfold clos at *
          generalize hF : doF p.1 = f at *
          clear hA1 hI1 hP1 hdl hperm hR0 hdn hcapA hv1 hputs hG0 hkk hokk hcl hcall hput o0 o1 o2 hF
          have hne := neq102_func f caps
          go_wp2_with fail
          refine Hcall.out.mono ?_
          rintro e w4 ⟨rfl, hg, hf⟩
          have hI2 : Hid (CrI L s keep torn w (k + 1) w4) := Lib.hid (by
            obtain ⟨q1, q2, q3, q4, q5⟩ := HX.out
            refine q1.dirs hg (actM_perm L.fb q2 q3 q4) hf ?_ (fun f => ?_)
            · rw [crR_lt hlt (by omega), HP.out.1]
            · rw [crG_lt hlt (by omega), putN_dir f q5]; rfl)
          clear hg hf HX Hcall
          go_wp2_with fail
          refine ⟨⟨k + 1, by omega, by simp, hI2⟩, ?_⟩
          simp [intOf]; omega
        · have t1 : ¬ (k : Int) < keep := by omega
          obtain ⟨K0, hK0⟩ : ∃ K0 : Nat, K0 = keep.toNat := ⟨_, rfl⟩
          have hmx : max keep 0 = (K0 : Int) := by omega
          clear hK0
          have hI2 : Hid (CrI L s keep torn w (k + 1) (wr.alloc (.cells #[(paV L.fb p).1, (paV L.fb p).2.1, (paV L.fb p).2.2] 104))) := Lib.hid (by
            refine hI1.same (crR_ge (by omega)) (fun f => ?_)
            by_cases hke : k = keep.toNat
            · rw [crG_eq hke]
              have : tornN s keep torn f = 0 := by
                unfold tornN
                rw [← hke, List.getElem?_eq_getElem hlt]
                cases hq : s.acts[k] with
                | put j n => rw [hq] at hputs; simp [isPut] at hputs
                | mk a b => rfl
                | mv a b => rfl
                | rm a => rfl
              omega
            · exact crG_gt (by omega) f)
          rw [hv1.1] at r0
          rw [hv1.2] at r1
          rw [hv1.1, hv1.2] at hI2
          obtain ⟨caps, hcl⟩ : ∃ caps, (paV L.fb p).2.2 = clos (doF p.1) caps := by
            obtain ⟨a, x, y⟩ := p
            cases a with
            | mk n k => exact ⟨#[ptrV x, ptrV y], rfl⟩
            | mv n m => exact ⟨#[ptrV x, ptrV y], rfl⟩
            | rm n => exact ⟨#[ptrV x], rfl⟩
            | put k n => simp [isPut] at hput
          rw [hcl] at r2 hI2
          unfold clos at *
          generalize hF : doF p.1 = f at *
          have hnn := neq98_nil
          clear hA1 hI1 hP1 hdl hperm hR0 hdn hcapA hv1 hputs hG0 hkk hput o0 o1 o2 hF hcl
          by_cases hke : k = K0
          · subst hke
            go_wp2_with fail
            refine ⟨⟨k + 1, by omega, by simp, hI2⟩, ?_⟩
            simp [intOf]; omega
          · go_wp2_with fail
            refine ⟨⟨k + 1, by omega, by simp, hI2⟩, ?_⟩
            simp [intOf]; omega
      | true =>
        obtain ⟨a, px, py⟩ := p
        cases a with
        | mk a b => simp [isPut] at hput
        | mv a b => simp [isPut] at hput
        | rm a => simp [isPut] at hput
        | put j n =>
        have hj : s.acts[k] = .put j n := HP.out.1.symm
        have hjl : L.live j := by have := HP.out.2.2.1; rw [hj] at this; exact this
        have hjb : j < s.files.length := H.out.lv j hjl
        have hgr : crG s keep torn k j + n ≤ 200000000000 := by
          have g1 := crG_le (keep := keep) (torn := torn) (k := k) HI.out hjb
          have g2 := puts_get (f := j) hlt
          have g3 := HI.out.sums j hjb
          have g4 := Hfs.out j
          rw [hj] at g2
          have g5 : putN j (.put j n) = n := if_pos rfl
          omega
        have hv1 : (paV L.fb (.put j n, px, py)).1 = .pointer (some ⟨L.fb j, 0, none⟩) ∧ (paV L.fb (.put j n, px, py)).2.1 = .int .i64 n ∧ (paV L.fb (.put j n, px, py)).2.2 = Value.nilFunc := ⟨rfl, rfl, rfl⟩
        have r0' : wr.cell? ⟨g, k * 3, none⟩ = some (.pointer (some ⟨L.fb j, 0, none⟩)) := r0
        have r1' : wr.cell? ⟨g, k * 3 + 1, none⟩ = some (.int .i64 n) := r1
        have r2' : wr.cell? ⟨g, k * 3 + 2, none⟩ = some Value.nilFunc := r2
        have hI1' : CrI L s keep torn w k (wr.alloc (.cells #[.pointer (some ⟨L.fb j, 0, none⟩), .int .i64 n, Value.nilFunc] 104)) := hI1
        have hP1' : PD (wr.alloc (.cells #[.pointer (some ⟨L.fb j, 0, none⟩), .int .i64 n, Value.nilFunc] 104)) d L s := hP1
        have hnf := neq102_nil
        have hc56 := run_c56
        have HX := Lib.hid (And.intro hI1' (And.intro hP1' (And.intro hjl (And.intro hj hgr))))
        clear r0 r1 r2 hv1 hI1 hP1 hI1' hP1' hperm hdl hjl hj hjb hgr hput o0 o1 o2 hA1 HP
        by_cases hkk : k < keep.toNat
        · have t1 : (k : Int) < keep := by omega
          have hG := grow_any (a1 := .int .i64 n) (a2 := Value.nilFunc) _ HX.out.1.pm HX.out.2.1 HX.out.1.t HX.out.2.2.1 rfl rfl n (by have := HX.out.2.2.2.2; omega)
          have HG := Lib.hid hG
          clear hG
          go_wp2_with fail
          refine HG.out.mono ?_
          rintro e w4 ⟨rfl, hg, hf⟩
          have hI2 : Hid (CrI L s keep torn w (k + 1) w4) := Lib.hid (by
            obtain ⟨q1, q2, q3, q4, q5⟩ := HX.out
            have q6 : isPut s.acts[k] = true := by rw [q4]; rfl
            refine q1.grows hg hf ?_ (funext fun f => ?_)
            · rw [crR_lt hlt hkk, q4]; rfl
            · rw [crG_lt hlt hkk, q4]
              show _ + (if j = f then n else 0) = _
              by_cases c : f = j
              · rw [if_pos c.symm, if_pos c, c]
              · rw [if_neg (fun e => c e.symm), if_neg c]; rfl)
          clear hg hf HX HG
          go_wp2_with fail
          refine ⟨⟨k + 1, by omega, by simp, hI2⟩, ?_⟩
          simp [intOf]; omega
        · have t1 : ¬ (k : Int) < keep := by omega
          have hnn : ∀ w : World, (binOp .neq 98 (.pointer (some ⟨L.fb j, 0, none⟩)) (.pointer none)).run Try.prog w = .ok (.bool true) w := fun w => by kernel_rfl
          obtain ⟨T0, hT0⟩ : ∃ T0 : Nat, T0 = torn.toNat := ⟨_, rfl⟩
          have hmt : max torn 0 = (T0 : Int) := by omega
          have hmn : min (n : Int) (T0 : Int) = ((min n T0 : Nat) : Int) := by omega
          obtain ⟨N, hN⟩ : ∃ N : Nat, N = min n T0 := ⟨_, rfl⟩
          rw [← hN] at hmn
          obtain ⟨K0, hK0⟩ : ∃ K0 : Nat, K0 = keep.toNat := ⟨_, rfl⟩
          have hmx : max keep 0 = (K0 : Int) := by omega
          have hG := grow_any (a1 := .int .i64 n) (a2 := Value.nilFunc) _ HX.out.1.pm HX.out.2.1 HX.out.1.t HX.out.2.2.1 rfl rfl N (by have := HX.out.2.2.2.2; omega)
          have HG := Lib.hid hG
          have HN := Lib.hid (And.intro hN (And.intro hT0 hK0))
          clear hG hN hT0 hK0
          by_cases hke : k = K0
          · subst hke
            go_wp2_with fail
            refine HG.out.mono ?_
            rintro e w4 ⟨rfl, hg, hf⟩
            have hI2 : Hid (CrI L s keep torn w (k + 1) w4) := Lib.hid (by
              obtain ⟨q1, q2, q3, q4, q5⟩ := HX.out
              obtain ⟨n1, n2, n3⟩ := HN.out
              refine q1.grows hg hf (crR_ge (by omega)) (funext fun f => ?_)
              rw [crG_eq n3]
              have : tornN s keep torn f = if j = f then N else 0 := by
                unfold tornN
                rw [← n3, List.getElem?_eq_getElem hlt, q4]
                show (if j = f then min n torn.toNat else 0) = _
                rw [n1, n2]
              rw [this]
              by_cases c : f = j
              · rw [if_pos c.symm, if_pos c, c]
              · rw [if_neg (fun e => c e.symm), if_neg c]; rfl)
            clear hg hf HX HG
            go_wp2_with fail
            refine ⟨⟨k + 1, by omega, by simp, hI2⟩, ?_⟩
            simp [intOf]; omega
          · have hI2 : Hid (CrI L s keep torn w (k + 1) (wr.alloc (.cells #[.pointer (some ⟨L.fb j, 0, none⟩), .int .i64 n, Value.nilFunc] 104))) := Lib.hid (HX.out.1.same (crR_ge (by omega)) (fun f => crG_gt (by have := HN.out.2.2; omega) f))
            clear HX HG HN hmt hmn
            go_wp2_with fail
            refine ⟨⟨k + 1, by omega, by simp, hI2⟩, ?_⟩
            simp [intOf]; omega
    · have hlt' : decide ((k : Int) < s.acts.length) = false := by simp; omega
      have hkl : k = s.acts.length := by omega
      subst hkl
      obtain ⟨wE, hwE⟩ : ∃ wE, wE = wr := ⟨_, rfl⟩
      subst hwE
      have c3' := (hI.out.frm.cell (p := ⟨d, 3, none⟩) hdlt (fun h => h)).trans c3
      have hnw := new_any s.room wE hroom
      have Hnw := Lib.hid hnw
      clear hnw c3 c2'
      go_wp2_with fail
      refine Hnw.out.mono ?_
      rintro e wB ⟨rfl, hpd0, hfB, hszB⟩
      obtain ⟨dl, hdl, hperm⟩ := (hI.out.keep hfB).dir
      obtain ⟨ck, hrange, hit⟩ := hdl.run_range (P := Try.prog) Try.underlying75
      have hR0 : OkDir (crR s keep s.acts.length) := acts_ok _ _ HI.out.ok (acts_take _ _ _ HI.out.acts)
      have hlv : ∀ x ∈ dl, L.live x.2 := fun x hx => replay_live _ _ H.out.ls (fun a ha => H.out.la a (List.take_subset _ _ ha)) (acts_take _ _ _ HI.out.acts) x (hperm.mem_iff.1 hx)
      have hpd1 : PD (wB.alloc (.mapIter (some (w.heap.size + 2)) ck #[] ck)) (wE.heap.size + 3) (newL wE.heap.size) (crS s keep torn []) := (hpd0.reFiles (fun k h => h) _).keep ((Frm.refl _ _).alloc _)
      have hst2 : ∀ b, (newL wE.heap.size).role b ≠ .free → wE.heap.size ≤ b ∧ b ≠ wB.heap.size := fun b hb => by have := newL_role _ _ hb; omega
      have hF0 : Frm (fun _ => False) wE (wB.alloc (.mapIter (some (w.heap.size + 2)) ck #[] ck)) := hfB.alloc _
      have HS := Lib.hid (And.intro hit (And.intro hpd1 (And.intro hst2 hF0)))
      have HD := Lib.hid (And.intro hperm (And.intro hR0 (And.intro hlv hszB)))
      clear hszB hpd0 hfB hdl hperm hit hR0 hlv hpd1 hst2 hF0 Hnw c3'
      go_wp2_with fail
      go_loopg [14, 15, 16] dl.length (fun g _ _ _ w5 => ∃ (left done : List Nm) (Lx : PL), g = left.length ∧ GIter strKy w5 wB.heap.size (w.heap.size + 2) (dl.map (nmE L.fb)) (left.map (nmE L.fb)) ∧ dl.Perm (done ++ left) ∧ PD w5 (wE.heap.size + 3) Lx (crS s keep torn done) ∧ (∀ j, Lx.live j → ∃ x ∈ done, x.2 = j) ∧ (∀ b, Lx.role b ≠ .free → wE.heap.size ≤ b ∧ b ≠ wB.heap.size) ∧ Frm (fun _ => False) wE w5)
      case atStart => exact ⟨dl, [], newL wE.heap.size, rfl, HS.out.1, List.Perm.refl _, HS.out.2.1, fun j h => h.elim, HS.out.2.2.1, HS.out.2.2.2⟩
      case round =>
        obtain ⟨left, done, Lx, hg, hgi, hpm, hpx, hlx, hrx, hfx⟩ := hrel
        have HG := Lib.hid (And.intro hg (And.intro hpm hlx))
        clear hrange hg hpm hlx HS
        rcases hgi.run_next (P := Try.prog) 0 with ⟨hl, hnext⟩ | ⟨l1, p, l2, w1, hl, hnext, hgi1, hf1, hent⟩
        · have hl0 : left = [] := List.map_eq_nil_iff.1 hl
          have Hl0 := Lib.hid hl0
          have c0 := hpx.c0
          have HPX := Lib.hid (And.intro hpx (And.intro hrx hfx))
          clear hl hl0 hpx hrx hfx hgi
          go_wp2_with fail
          refine (mclone_any Lx.bd _ wr HPX.out.1.dirm).mono ?_
          rintro e w6 ⟨rfl, hm6, o6, hw6⟩
          have hF6 : Frm (fun _ => False) wr w6 := by rw [hw6]; exact (Frm.refl _ _).alloc _
          have hlt6 : wr.heap.size < w6.heap.size := by rw [hw6]; simp
          have hq := HPX.out.1.keep hF6
          have c1x := hq.c1
          have fzx := hq.fz.frozen
          have HM6 := Lib.hid (And.intro hm6 (And.intro hF6 hlt6))
          clear hm6 hw6 hF6 hlt6 hq c0
          go_wp2_with fail
          go_ret
          obtain ⟨hpx, hrx, hfx⟩ := HPX.out
          obtain ⟨hm6, hF6, hlt6⟩ := HM6.out
          have hdn : done.Perm (crashD s keep torn).dir := by
            have h1 := HG.out.2.1
            rw [Hl0.out, List.append_nil] at h1
            exact (h1.symm.trans HD.out.1).trans (by rw [crR_end]; exact List.Perm.refl _)
          have hpx2 := hpx.perm hdn (List.Perm.refl _)
          obtain ⟨L', _, _, hpd, hst⟩ := hpx2.sure_new hF6 (Nat.le_refl _) hlt6 hm6 hpx2.dp hpx2.ld
          have hwE := hI.out.frm
          refine ⟨wE.heap.size + 3, L', rfl, hpd, (hwE.trans hfx).trans' hst.frm (fun b hb e => ?_), fun b hb => ?_⟩
          · have := (hrx b e).1
            have := hwE.size
            omega
          · have := hwE.size
            have := hfx.size
            rcases hst.new b hb with h | h
            · have := (hrx b h).1; omega
            · omega
        · obtain ⟨m1, x, m2, hx1, hx2, hx3, hx4⟩ := map_split hl
          subst hx3
          have hxl : x ∈ left := by rw [hx1]; simp
          have hxd : x ∈ dl := HG.out.2.1.mem_iff.2 (List.mem_append_right _ hxl)
          have hk : L.live x.2 := HD.out.2.2.1 x hxd
          have hfW : Frm (fun _ => False) wE w1 := hfx.trans' (T := fun b => b = wB.heap.size) hf1 (fun b hb e => by have := HD.out.2.2.2; omega)
          have hpx1 := hpx.frm hf1 (fun b hb => (hrx b hb).2)
          have hI1 := hI.out.keep hfW
          have hP1 := H.out.keep hI1.frm
          have hlk : ∀ m, (Instr.lookup 107 (.map (some w.heap.size)) (.pointer (some ⟨L.fb x.2, 0, none⟩)) false).run Try.prog (w1.drewN m) = .ok (.int .i64 (crG s keep torn s.acts.length x.2 : Int)) (w1.drewN m) := fun m => (hI1.pm.frm ((Frm.refl (fun _ => False) w1).drewN m) (fun h => h)).look (hP1.keep ((Frm.refl _ w1).drewN m)) hk
          have f1 := (hP1.files x.2 hk).f1
          have tT := hI1.t
          have hend := crG_end (s := s) (keep := keep) (torn := torn) x.2
          have hxf : x.2 < s.files.length := H.out.lv x.2 hk
          have hle := HI.out.sureC_le keep torn hxf
          have hszf := Hfs.out x.2
          obtain ⟨ao, cap, f0, hvb, hcap⟩ := (hP1.files x.2 hk).bytes
          have hcF := getF_crash (s := s) keep torn hxf
          have HK := Lib.hid (And.intro hx1 (And.intro hx2 (And.intro hx4 (And.intro hxd (And.intro hk (And.intro hxf (And.intro hle (And.intro hvb hcF))))))))
          have HW := Lib.hid (And.intro hpx1 (And.intro hP1 (And.intro hgi1 (And.intro hrx hfW))))
          clear hl hx1 hx2 hx4 hxl hxd hk hfW hpx hpx1 hI1 hP1 hgi hgi1 hf1 hfx hrx hxf hvb hcF
          generalize hA : crG s keep torn s.acts.length x.2 = A at *
          generalize hM : sureC s keep torn x.2 = M at *
          generalize hZ : (getF s x.2).2 = Z at *
          generalize hS : (getF s x.2).1.size = S at *
          have i3 : (Z : Int) + A = M := by omega
          have i4 : (M : Int) ≤ cap := by omega
          have i5 : (0 : Int) ≤ M := by omega
          have i6 : IntKind.i64.wrap ((Z : Int) + A) = M := by rw [i3]; exact IntWalk.i64_in _ (by omega)
          unfold nmE ptrV at hnext hent
          go_wp2_with fail
          go_quiet (fail)
          have hDr : Frm (fun _ => False) w1 (w1.drewN nq) := (Frm.refl _ w1).drewN nq
          have hpx2 := HW.out.1.keep hDr
          have hP2 := HW.out.2.1.keep hDr
          have f0' := (hP2.files x.2 HK.out.2.2.2.2.1).f0
          rw [HK.out.2.2.2.2.2.2.2.1] at f0'
          have c0x := hpx2.c0
          have hbv := (hP2.files x.2 HK.out.2.2.2.2.1).bv.cut (m := M) (by rw [hS]; exact HK.out.2.2.2.2.2.2.2.1) (by rw [hS]; exact HK.out.2.2.2.2.2.2.1)
          have hnd : (done ++ left).Perm (crR s keep s.acts.length) := HG.out.2.1.symm.trans HD.out.1
          have hno : Dk.ofI done x.1 = none := by
            refine ofI_none.2 fun y hy e => ?_
            have h1 : ((done ++ left).map (·.1)).Nodup := (hnd.map _).nodup_iff.2 HD.out.2.1.srt.names
            rw [HK.out.1, List.map_append, List.nodup_append] at h1
            exact h1.2.2 y.1 (List.mem_map.2 ⟨y, hy, rfl⟩) x.1 (by simp) e
          have hnl : ¬ Lx.live x.2 := by
            intro hl
            obtain ⟨y, hy, e⟩ := HG.out.2.2 _ hl
            have h1 : ((done ++ left).map (·.2)).Nodup := (hnd.map _).nodup_iff.2 HD.out.2.1.vals
            rw [HK.out.1, List.map_append, List.nodup_append] at h1
            exact h1.2.2 y.2 (List.mem_map.2 ⟨y, hy, rfl⟩) x.2 (by simp) e
          have hfb : L.fb x.2 < w.heap.size := H.out.rb _ (by rw [(H.out.files x.2 HK.out.2.2.2.2.1).fr]; simp)
          have hwE := hI.out.frm.size
          have hbdr := HW.out.2.2.2.1 Lx.bd (by rw [hpx2.rd]; simp)
          have hXr : wE.heap.size + 3 ≠ Lx.bd := fun e => by have := hpx2.r0; rw [e, hpx2.rd] at this; cases this
          have hfbd : L.fb x.2 ≠ Lx.bd := by omega
          have hgi2 := HW.out.2.2.1.frm hDr (fun h => h) (fun h => h)
          have hfE := HW.out.2.2.2.2.trans hDr
          have hHC : ∀ wz, Frm (fun _ => False) (w1.drewN nq) wz → Calls Try.prog 57 #[.slice ao M cap] wz fun e w3 => ∃ v', e = .returned v' ∧ BV w3 v' ((getF s x.2).1.extract 0 M) ∧ (∀ b, bown v' = some b → wz.heap.size ≤ b) ∧ Frm (fun _ => False) wz w3 := fun wz hz => bclone_any _ _ wz (hbv.frm hz (fun _ _ h => h)) (by rw [ByteArray.size_extract, hS]; omega)
          have HC := Lib.hid hHC
          have HM := Lib.hid hM
          have HY := Lib.hid (And.intro hpx2 (And.intro hno (And.intro hnl (And.intro hXr (And.intro hfbd (And.intro hgi2 (And.intro hfE HW.out.2.2.2.1)))))))
          clear hDr hpx2 hP2 hbv hno hnl hfb hwE hbdr hXr hfbd hnd hgi2 hfE hHC hM f0 f1 tT hlk hend hA hZ i3 i6
          generalize w1.drewN nq = w2 at *
          go_wp2_with fail
          have hA0 : w2.drew.cell? ⟨wE.heap.size + 3, 0, none⟩ = some (.map (some Lx.bd)) ∧ w2.drew.cell? ⟨L.fb x.2, 0, none⟩ = some (.slice ao S cap) := ⟨c0x, f0'⟩
          have HA0 := Lib.hid hA0
          have hstep : ∀ (w3 : World) (v' : Value), Frm (fun _ => False) w2.drew w3 → BV w3 v' ((getF s x.2).1.extract 0 M) → (∀ b, bown v' = some b → w2.drew.heap.size ≤ b) →
              ∃ (ao' : Option Addr) (n' cap' : Nat) (w4 : World), v' = .slice ao' n' cap' ∧ (Instr.mapUpdate 75 (.map (some Lx.bd)) (strKy.f x.1) (.pointer (some ⟨w3.heap.size, 0, none⟩))).run Try.prog (w3.alloc (.cells #[v', .int .i64 M] 100)) = .ok () w4 ∧
                Hid (w3.cell? ⟨wE.heap.size + 3, 0, none⟩ = some (.map (some Lx.bd)) ∧ w3.cell? ⟨L.fb x.2, 0, none⟩ = some (.slice ao S cap)) ∧
                Hid ((w3.alloc (.cells #[v', .int .i64 M] 100)).cell? ⟨wE.heap.size + 3, 0, none⟩ = some (.map (some Lx.bd)) ∧ (w3.alloc (.cells #[v', .int .i64 M] 100)).cell? ⟨L.fb x.2, 0, none⟩ = some (.slice ao S cap)) ∧
                Hid (w4.cell? ⟨wE.heap.size + 3, 0, none⟩ = some (.map (some Lx.bd)) ∧ w4.cell? ⟨L.fb x.2, 0, none⟩ = some (.slice ao S cap)) ∧
                Hid (Frm (· = Lx.bd) w2 w4 ∧ ∃ L', (∀ j, L'.live j ↔ (Lx.live j ∨ j = x.2)) ∧ (∀ b, L'.role b ≠ .free → Lx.role b ≠ .free ∨ w2.heap.size ≤ b) ∧ PD w4 (wE.heap.size + 3) L' (crS s keep torn (done ++ [(x.1, x.2)]))) := by
            intro w3 v' hf3 hbv' hown'
            obtain ⟨ao', cap', hv', hc'⟩ := hbv'.slice
            have hf3' := ((Frm.refl (fun _ => False) w2).drew).trans hf3
            obtain ⟨w4, hrun, hf4, L', q1, q2, q3⟩ := crash_step (keep := keep) (torn := torn) (name := x.1) (k := x.2) HY.out.1 hf3' (v := v') (by show BV _ _ ((getF s x.2).1.extract 0 (sureC s keep torn x.2)); rw [HM.out]; exact hbv') (fun b hb => hown' b hb) HK.out.2.2.2.2.2.1 HY.out.2.2.1 HY.out.2.1
            rw [HM.out] at hrun hf4
            have A1 := And.intro ((hf3.cell (World.block_lt_of_cell? _ _ HA0.out.1) (fun h => h)).trans HA0.out.1) ((hf3.cell (World.block_lt_of_cell? _ _ HA0.out.2) (fun h => h)).trans HA0.out.2)
            have hA : Frm (fun _ => False) w3 (w3.alloc (.cells #[v', .int .i64 M] 100)) := (Frm.refl _ _).alloc _
            have A2 := And.intro ((hA.cell (World.block_lt_of_cell? _ _ A1.1) (fun h => h)).trans A1.1) ((hA.cell (World.block_lt_of_cell? _ _ A1.2) (fun h => h)).trans A1.2)
            have A3 := And.intro ((hf4.cell (World.block_lt_of_cell? _ _ A2.1) HY.out.2.2.2.1).trans A2.1) ((hf4.cell (World.block_lt_of_cell? _ _ A2.2) HY.out.2.2.2.2.1).trans A2.2)
            exact ⟨ao', _, cap', w4, hv', hrun, Lib.hid A1, Lib.hid A2, Lib.hid A3, Lib.hid ⟨((hf3'.trans hA).mono (fun _ _ h => h.elim)).trans hf4, L', q1, q2, q3⟩⟩
          have HStep := Lib.hid hstep
          clear hA0 hstep
          go_region_held3 (fun w' => w'.cell? ⟨wE.heap.size + 3, 0, none⟩ = some (.map (some Lx.bd)) ∧ w'.cell? ⟨L.fb x.2, 0, none⟩ = some (.slice ao S cap)) (first | exact HA0.out | exact HA1.out | exact HA2.out | exact HA3.out) (first | (go_at_call 57; refine (HC.out w2.drew (Frm.refl _ _).drew).mono ?_; rintro e w3 ⟨v', rfl, hbv', hown', hf3⟩; obtain ⟨ao', n', cap', w4, rfl, hrun, HA1, HA2, HA3, HZ⟩ := HStep.out w3 v' hf3 hbv' hown'; clear hbv' hown' hf3))
          have hwEs := hI.out.sz
          obtain ⟨hfz, L', q1, q2, q3⟩ := HZ.out
          have HZ2 := Lib.hid (And.intro hfz (And.intro q1 (And.intro q2 q3)))
          clear hfz q1 q2 q3 HZ HA1 HA2 HA3 HA0 HStep hrun f0' c0x hnext hent
          go_wp2_with fail
          go_roundg (m1 ++ m2).length
          case measure =>
            have h1 := congrArg List.length HK.out.1
            have h2 := HG.out.1
            simp at h1 ⊢
            omega
          case rel =>
            obtain ⟨hfz, q1, q2, q3⟩ := HZ2.out
            obtain ⟨hpx2, _, _, _, _, hgi2, hfE, hrx⟩ := HY.out
            have hbdr := hrx Lx.bd (by rw [hpx2.rd]; simp)
            have hIlt := hgi2.lt
            refine ⟨m1 ++ m2, done ++ [(x.1, x.2)], L', rfl, ?_, ?_, q3, fun j hj => ?_, fun b hb => ?_, hfE.trans' hfz (fun b hb e => by omega)⟩
            · rw [List.map_append, HK.out.2.1, HK.out.2.2.1]
              exact hgi2.frm hfz (by omega) (by omega)
            · have h1 := HG.out.2.1
              rw [HK.out.1] at h1
              refine h1.trans ?_
              rw [List.append_assoc]
              exact List.Perm.append_left _ List.perm_middle
            · rcases (q1 j).1 hj with h | h
              · obtain ⟨y, hy, e⟩ := HG.out.2.2 j h
                exact ⟨y, List.mem_append_left _ hy, e⟩
              · exact ⟨(x.1, x.2), by simp, h.symm⟩
            · have := hfE.size
              rcases q2 b hb with h | h
              · exact hrx b h
              · have := HD.out.2.2.2
                omega
end Go.Proofs.Ytngickhakedonaa
