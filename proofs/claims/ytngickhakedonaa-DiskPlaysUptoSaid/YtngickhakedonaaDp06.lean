/- A text of a claim's proof: see the last text of the claim. -/
import Derived.Test.YtngickhakedonaaDp05
import Derived.Deep.RegionHeld3
set_option linter.all false
namespace Go.Proofs.Ytngickhakedonaa
open Go.RowKit Go.Tk Go.Dk

variable {w w' : World} {d : Nat} {L : PL} {s : DS} {B : Nat → Prop}

theorem PD.dir_new (h : PD w d L s) {w1 : World} (hf : Frm (fun _ => False) w w1) {nb : Nat} (hn1 : w.heap.size ≤ nb) (hn2 : nb < w1.heap.size) {l dir : List Nm} (hm : GMap strKy w1 nb (l.map (nmE L.fb))) (hp : l.Perm dir) (hl : ∀ x ∈ dir, L.live x.2) :
    ∃ L', L'.live = L.live ∧ L'.fb = L.fb ∧ PD (w1.setCell ⟨d, 0, none⟩ (.map (some nb))) d L' { s with dir := dir } ∧ PStep w (w1.setCell ⟨d, 0, none⟩ (.map (some nb))) L L' := by
  have hk := h.keep hf
  have hfree := h.new_free hn1
  have h1 := hk.addR .dir hfree hn2
  have hF := PD.setFrm w1 d 0 (.map (some nb))
  have hS : ∀ b r, L.role b = r → r ≠ .head → ¬ b = d := fun b r hb hr e => hr (by rw [← hb, e, h.r0])
  have hdlt := h.rb d (by rw [h.r0]; simp)
  refine ⟨{ L with bd := nb, dl := l, role := Ytngickhakedonaa.addR L.role nb .dir }, rfl, rfl, { h1 with
    c0 := set_same _ _ _ _ _ h1.c0
    c1 := (Tk.set_off _ _ _ _ _ _ (by decide)).trans h1.c1, c2 := (Tk.set_off _ _ _ _ _ _ (by decide)).trans h1.c2, c3 := (Tk.set_off _ _ _ _ _ _ (by decide)).trans h1.c3, c4 := (Tk.set_off _ _ _ _ _ _ (by decide)).trans h1.c4, c5 := (Tk.set_off _ _ _ _ _ _ (by decide)).trans h1.c5, c6 := (Tk.set_off _ _ _ _ _ _ (by decide)).trans h1.c6, c7 := (Tk.set_off _ _ _ _ _ _ (by decide)).trans h1.c7
    fz := h1.fz.set _ _
    dirm := hm.frm hF (fun e => by omega)
    surem := h1.surem.frm hF (hS _ _ h.rs (by simp))
    failsm := h1.failsm.frm hF (hS _ _ h.rf (by simp))
    dp := hp
    loose := row_frm h1.loose hF (fun b hb => hS b _ (h.rl b hb) (by simp))
    caps := fun p hp => (h1.caps p hp).frm hF (fun b hb e => by rw [e] at hb; have := h1.r0; rw [hb] at this; cases this)
    files := fun k hk =>
      have q := (h1.files k hk).frm hF (fun b hb e => by rw [e] at hb; have := h1.r0; rw [hb] at this; cases this) (fun b hb e => by rw [e] at hb; have := h1.r0; rw [hb] at this; cases this)
      ⟨q.f0, q.f1, q.fz, q.fr, q.bv, q.br⟩
    ld := hl
    rd := addR_same _ _ _
    rb := fun b hb => by have := h1.rb b hb; simpa using this }, ?_, fun b hb => ?_⟩
  · exact (hf.mono (fun _ _ h => h.elim)).setCell (p := ⟨d, 0, none⟩) (fun _ => by rw [h.r0]; simp) _
  · by_cases e : b = nb
    · exact .inr (by rw [e]; exact ⟨hn1, by simpa using hn2⟩)
    · exact .inl (by rwa [show ({ L with bd := nb, dl := l, role := Ytngickhakedonaa.addR L.role nb .dir } : PL).role b = L.role b from addR_ne _ e] at hb)
theorem PD.sure_new (h : PD w d L s) {w1 : World} (hf : Frm (fun _ => False) w w1) {nb : Nat} (hn1 : w.heap.size ≤ nb) (hn2 : nb < w1.heap.size) {l dir : List Nm} (hm : GMap strKy w1 nb (l.map (nmE L.fb))) (hp : l.Perm dir) (hl : ∀ x ∈ dir, L.live x.2) :
    ∃ L', L'.live = L.live ∧ L'.fb = L.fb ∧ PD (w1.setCell ⟨d, 1, none⟩ (.map (some nb))) d L' { s with sure := dir } ∧ PStep w (w1.setCell ⟨d, 1, none⟩ (.map (some nb))) L L' := by
  have hk := h.keep hf
  have hfree := h.new_free hn1
  have h1 := hk.addR .sure hfree hn2
  have hF := PD.setFrm w1 d 1 (.map (some nb))
  have hS : ∀ b r, L.role b = r → r ≠ .head → ¬ b = d := fun b r hb hr e => hr (by rw [← hb, e, h.r0])
  have hdlt := h.rb d (by rw [h.r0]; simp)
  refine ⟨{ L with bs := nb, sl := l, role := Ytngickhakedonaa.addR L.role nb .sure }, rfl, rfl, { h1 with
    c1 := set_same _ _ _ _ _ h1.c1
    c0 := (Tk.set_off _ _ _ _ _ _ (by decide)).trans h1.c0, c2 := (Tk.set_off _ _ _ _ _ _ (by decide)).trans h1.c2, c3 := (Tk.set_off _ _ _ _ _ _ (by decide)).trans h1.c3, c4 := (Tk.set_off _ _ _ _ _ _ (by decide)).trans h1.c4, c5 := (Tk.set_off _ _ _ _ _ _ (by decide)).trans h1.c5, c6 := (Tk.set_off _ _ _ _ _ _ (by decide)).trans h1.c6, c7 := (Tk.set_off _ _ _ _ _ _ (by decide)).trans h1.c7
    fz := h1.fz.set _ _
    surem := hm.frm hF (fun e => by omega)
    dirm := h1.dirm.frm hF (hS _ _ h.rd (by simp))
    failsm := h1.failsm.frm hF (hS _ _ h.rf (by simp))
    sp := hp
    loose := row_frm h1.loose hF (fun b hb => hS b _ (h.rl b hb) (by simp))
    caps := fun p hp => (h1.caps p hp).frm hF (fun b hb e => by rw [e] at hb; have := h1.r0; rw [hb] at this; cases this)
    files := fun k hk =>
      have q := (h1.files k hk).frm hF (fun b hb e => by rw [e] at hb; have := h1.r0; rw [hb] at this; cases this) (fun b hb e => by rw [e] at hb; have := h1.r0; rw [hb] at this; cases this)
      ⟨q.f0, q.f1, q.fz, q.fr, q.bv, q.br⟩
    ls := hl
    rs := addR_same _ _ _
    rb := fun b hb => by have := h1.rb b hb; simpa using this }, ?_, fun b hb => ?_⟩
  · exact (hf.mono (fun _ _ h => h.elim)).setCell (p := ⟨d, 1, none⟩) (fun _ => by rw [h.r0]; simp) _
  · by_cases e : b = nb
    · exact .inr (by rw [e]; exact ⟨hn1, by simpa using hn2⟩)
    · exact .inl (by rwa [show ({ L with bs := nb, sl := l, role := Ytngickhakedonaa.addR L.role nb .sure } : PL).role b = L.role b from addR_ne _ e] at hb)

theorem pre3 (s : DS) (name too b : ByteArray) :
    (startsE s false [] = (false, 35) ∧ doD s 3 name too b = (⟨#[]⟩, 35, startsS s)) ∨
    (startsS s = { s with n := s.n + 1 } ∧ ∃ r : Bool, startsE s false [] = (r, 0) ∧ doD s 3 name too b = if r = true then ((⟨#[]⟩, 34, { s with n := s.n + 1, dir := s.sure, acts := s.acts.filter (lsA (-1)) }) : ByteArray × Int × DS) else (⟨#[]⟩, 0, { s with n := s.n + 1, sure := s.dir, acts := s.acts.filter (lsA (-1)) })) := by
  by_cases hg : gone s = true
  · exact .inl ⟨if_pos hg, by unfold doD startsS; rw [if_pos hg, if_pos hg]⟩
  have hS : startsS s = { s with n := s.n + 1 } := if_neg hg
  refine .inr ⟨hS, decide ((s.n : Int) ∈ s.fails), ?_, ?_⟩
  · unfold startsE; rw [if_neg hg, if_neg (by simp), if_neg (by simp)]
  · unfold doD
    rw [if_neg hg, if_neg (by simp), if_neg (by simp), if_neg (by simp)]
    by_cases hn : (s.n : Int) ∈ s.fails
    · rw [if_pos hn, decide_eq_true hn, if_pos rfl]; rfl
    · rw [if_neg hn, decide_eq_false hn, if_neg (by simp)]; rfl

set_option maxRecDepth 100000 in
set_option maxHeartbeats 2000000 in
theorem syncdir_any (name too b : ByteArray) (w : World) (h : PD w d L s) (hi : Inv s) (hn : s.n ≤ 1000000) (hal : s.acts.length ≤ 100000) :
    Calls Try.prog 34 #[.pointer (some ⟨d, 0, none⟩)] w fun e w' => e = .returned (.int .i64 (doD s 3 name too b).2.1) ∧ ∃ L', PD w' d L' (doD s 3 name too b).2.2 ∧ PStep w w' L L' := by
  obtain ⟨D, hD⟩ : ∃ D, doD s 3 name too b = D := ⟨_, rfl⟩
  rw [hD]
  have HD := Lib.hid hD
  have HI := Lib.hid hi
  have H := Lib.hid h
  have Hpre := Lib.hid (pre3 s name too b)
  have hal2 : L.pa.length ≤ 100000 := by have := congrArg List.length h.ap; rw [List.length_map] at this; omega
  clear h hi hD
  go_enter Try.func34, Try.ntmps34
  go_wp2_with fail
  refine (starts_any false _ [] _ H.out HI.out hn (Rw.nil strC 1 w) (fun b hb => by cases hb) (by simp) (by simp) (fun h => by cases h)).mono ?_
  rintro e w1 ⟨rfl, hp1, hf1⟩
  have S1 : PStep w w1 L L := PStep.of_frm hf1 (fun b e => by rw [e, hp1.r0]; simp) rfl
  rcases Hpre.out with ⟨he1, he2⟩ | ⟨hs, r, he1, he2⟩
  · have hd : D = (⟨#[]⟩, 35, startsS s) := HD.out.symm.trans he2
    rw [he1]
    have H1 := Lib.hid (And.intro hp1 S1)
    subst hd
    clear he1 he2 hp1 S1 hf1
    go_wp2_with fail
    go_ret
    exact ⟨rfl, L, H1.out.1, H1.out.2⟩
  · rw [hs] at hp1
    have c2 := hp1.c2
    have fz := hp1.fz.frozen
    have H1 := Lib.hid (And.intro hp1 S1)
    have HE := Lib.hid (HD.out.symm.trans he2)
    rw [he1]
    clear hp1 S1 hf1 hs he1 he2
    go_wp2_with fail
    refine (del_any L.fb 60 #[] run_c60 qD L.pa L.vl _ H1.out.1.loose (by omega) (tells_dir _ _ _ _)).mono ?_
    rintro e w2 ⟨v', rfl, hro, hsub, hf2⟩
    obtain ⟨c2b, fzb, hFF, L2, e1, e2, e3, e4, e5, hpd, hst⟩ := H1.out.1.loose_del nqD hro hsub hf2
    obtain ⟨ao2, cap2, hv2, _⟩ := row_slice hro
    subst hv2
    have hw3 := Lib.hid (H1.out.2.trans hst)
    have Hpd := Lib.hid hpd
    have c0b := hpd.c0
    have c1b := hpd.c1
    have fzb2 := hpd.fz.frozen
    clear c2 fz hro hsub hf2 hpd hst e1 e2 e3 e4 e5 hFF
    cases r with
    | false =>
      have hd := HE.out
      rw [if_neg (by simp)] at hd
      subst hd
      go_wp2_with fail
      generalize (w2.setCell ⟨d, 2, none⟩ (.slice ao2 (L.pa.filter (nq qD)).length cap2)) = w3 at *
      refine (mclone_any L2.bd _ _ Hpd.out.dirm).mono ?_
      rintro e w4 ⟨rfl, hm, o, hw4⟩
      have hdlt := Hpd.out.rb d (by rw [Hpd.out.r0]; simp)
      have hA : Frm (fun _ => False) w3 w4 := by rw [hw4]; exact (Frm.refl _ w3).alloc o
      have hsz : w3.heap.size < w4.heap.size := by rw [hw4]; simp
      have c1c := (hA.cell (p := ⟨d, 1, none⟩) hdlt (fun h => h)).trans c1b
      have fzc := fun i => (hA.frozen (p := ⟨d, i, none⟩) hdlt (fun h => h)).trans (fzb2 i)
      have hN := Lib.hid (Hpd.out.sure_new hA (Nat.le_refl _) hsz hm Hpd.out.dp Hpd.out.ld)
      clear hm hA hw4 hsz c0b c1b fzb fzb2 c2b
      go_wp2_with fail
      go_ret
      obtain ⟨L3, _, _, hpd3, hst3⟩ := hN.out
      exact ⟨rfl, L3, hpd3, hw3.out.trans hst3⟩
    | true =>
      have hd := HE.out
      rw [if_pos rfl] at hd
      subst hd
      go_wp2_with fail
      generalize (w2.setCell ⟨d, 2, none⟩ (.slice ao2 (L.pa.filter (nq qD)).length cap2)) = w3 at *
      refine (mclone_any L2.bs _ _ Hpd.out.surem).mono ?_
      rintro e w4 ⟨rfl, hm, o, hw4⟩
      have hdlt := Hpd.out.rb d (by rw [Hpd.out.r0]; simp)
      have hA : Frm (fun _ => False) w3 w4 := by rw [hw4]; exact (Frm.refl _ w3).alloc o
      have hsz : w3.heap.size < w4.heap.size := by rw [hw4]; simp
      have c0c := (hA.cell (p := ⟨d, 0, none⟩) hdlt (fun h => h)).trans c0b
      have fzc := fun i => (hA.frozen (p := ⟨d, i, none⟩) hdlt (fun h => h)).trans (fzb2 i)
      have hN := Lib.hid (Hpd.out.dir_new hA (Nat.le_refl _) hsz hm Hpd.out.sp Hpd.out.ls)
      clear hm hA hw4 hsz c0b c1b fzb fzb2 c2b
      go_wp2_with fail
      go_ret
      obtain ⟨L3, _, _, hpd3, hst3⟩ := hN.out
      exact ⟨rfl, L3, hpd3, hw3.out.trans hst3⟩
end Go.Proofs.Ytngickhakedonaa

namespace Go.Proofs.Ytngickhakedonaa
open Go.RowKit Go.Tk Go.Dk

variable {w w' : World} {d : Nat} {L : PL} {s : DS} {B : Nat → Prop}

/-- a block of the call's own becomes a captured one -/
theorem PD.konst {L0 : PL} (h : PD w' d L s) (hst : PStep w w' L0 L) {b : Nat} (hfree : L.role b = .free) (hb : w.heap.size ≤ b) (hb2 : b < w'.heap.size) :
    PD w' d { L with role := Ytngickhakedonaa.addR L.role b .konst } s ∧ PStep w w' L0 { L with role := Ytngickhakedonaa.addR L.role b .konst } := by
  refine ⟨h.addR .konst hfree hb2, hst.frm, fun x hx => ?_⟩
  by_cases e : x = b
  · exact .inr (by rw [e]; exact ⟨hb, hb2⟩)
  · exact hst.new x (by rwa [show ({ L with role := Ytngickhakedonaa.addR L.role b .konst } : PL).role x = L.role x from addR_ne _ e] at hx)

set_option maxRecDepth 100000 in
set_option maxHeartbeats 2000000 in
theorem remove_any (name too b : ByteArray) (w : World) (h : PD w d L s) (hi : Inv s) (hn : s.n ≤ 1000000) (hname : name.size ≤ 2305843009213693952) (hal : s.acts.length ≤ 100000) :
    Calls Try.prog 36 #[.pointer (some ⟨d, 0, none⟩), .string name] w fun e w' => e = .returned (.int .i64 (doD s 5 name too b).2.1) ∧ ∃ L', PD w' d L' (doD s 5 name too b).2.2 ∧ PStep w w' L L' := by
  obtain ⟨D, hD⟩ : ∃ D, doD s 5 name too b = D := ⟨_, rfl⟩
  rw [hD]
  have HD := Lib.hid hD
  have HI := Lib.hid hi
  have H := Lib.hid h
  have Hpre := Lib.hid (pre1 s name too b 5 (.inr (.inr rfl)))
  have Hfr := Lib.hid (And.intro (h.new_free (Nat.le_refl w.heap.size)) (h.new_free (Nat.le_succ w.heap.size)))
  clear h hi hD
  go_enter Try.func36, Try.ntmps36
  go_wp2_with fail
  refine (starts_any true _ [name] _ (H.out.keep (((Frm.refl _ w).alloc _).alloc _)) HI.out hn (by have := rw_one (w.alloc (.cells #[.string name] 9)) name 9; rw [World.size_alloc] at this; exact this) (fun b hb => by cases hb; exact Hfr.out.2) (by simp) (by simpa using hname) (fun _ => by simp)).mono ?_
  rintro e w1 ⟨rfl, hp1, hf1⟩
  have S1 : PStep w w1 L L := ((PStep.alloc w L _).trans (PStep.alloc _ L _)).trans (PStep.of_frm hf1 (fun b e => by rw [e, hp1.r0]; simp) rfl)
  rcases Hpre.out with ⟨er, he0, he1, he2⟩ | ⟨k, hk, hs, hrest⟩
  · have hd : D = (⟨#[]⟩, er, startsS s) := HD.out.symm.trans he2
    rw [he1]
    have t1 : (er != 0) = true := by simpa using he0
    have t2 : (er == 0) = false := by simpa using he0
    have H1 := Lib.hid (And.intro hp1 S1)
    subst hd
    clear he0 he1 he2 hp1 S1 hf1
    go_wp2_with fail
    go_ret
    exact ⟨rfl, L, H1.out.1, H1.out.2⟩
  · rw [hs] at hp1
    have hsz := hf1.size
    simp only [World.size_alloc] at hsz
    have hd0 : w.heap.size ≠ d := fun e => by have := H.out.r0; rw [← e, Hfr.out.1] at this; cases this
    have x0 : w1.cell? ⟨w.heap.size, 0, none⟩ = some (.string name) := (hf1.cell (p := ⟨w.heap.size, 0, none⟩) (by simp; omega) hd0).trans (by simp)
    have Hx := Lib.hid x0
    rcases hrest with ⟨_, h1, h2⟩ | ⟨h1, h2⟩
    · have hd := HD.out.symm.trans h2
      rw [h1]
      have H1 := Lib.hid (And.intro hp1 S1)
      subst hd
      clear h1 h2 hp1 S1 hf1 hs hk x0
      go_wp2_with fail
      go_ret
      exact ⟨rfl, L, H1.out.1, H1.out.2⟩
    · have hd := HD.out.symm.trans h2
      rw [h1]
      obtain ⟨hp2, S2⟩ := hp1.konst S1 Hfr.out.1 (Nat.le_refl _) (by omega)
      have HT := turn_any (.rm name, w.heap.size, 0) w1 hp2 (HI.out.of_same rfl rfl rfl rfl) ⟨x0, addR_same _ _ _⟩ trivial trivial rfl hal
      have HT' := Lib.hid HT
      have H1 := Lib.hid S2
      subst hd
      clear h1 h2 hp1 hp2 S1 S2 hf1 hs hk x0 HT
      go_wp2_with fail
      refine HT'.out.mono ?_
      rintro e w2 ⟨rfl, L', _, _, _, hpd, hst, _⟩
      have H2 := Lib.hid (And.intro hpd (H1.out.trans hst))
      clear hpd hst
      go_wp2_with fail
      go_ret
      exact ⟨rfl, L', H2.out.1, H2.out.2⟩
end Go.Proofs.Ytngickhakedonaa

namespace Go.Proofs.Ytngickhakedonaa
open Go.RowKit Go.Tk Go.Dk

variable {w w' : World} {d : Nat} {L : PL} {s : DS} {B : Nat → Prop}

theorem pre4 (s : DS) (name too b : ByteArray) :
    (∃ e : Int, e ≠ 0 ∧ startsE s true [name, too] = (false, e) ∧ doD s 4 name too b = (⟨#[]⟩, e, startsS s)) ∨
    (∃ k, ofI s.dir name = some k ∧ startsS s = { s with n := s.n + 1 } ∧ ((startsE s true [name, too] = (true, 0) ∧ doD s 4 name too b = (⟨#[]⟩, 34, { s with n := s.n + 1 })) ∨
      (startsE s true [name, too] = (false, 0) ∧ doD s 4 name too b = (⟨#[]⟩, 0, if name = too then { s with n := s.n + 1 } else { s with n := s.n + 1, acts := s.acts ++ [.mv name too], dir := doneD s.dir (.mv name too) })))) := by
  have hall : [name, too].all okName = (okName name && okName too) := by simp
  have hd0 : ([name, too] : List ByteArray).getD 0 ⟨#[]⟩ = name := rfl
  by_cases hg : gone s = true
  · exact .inl ⟨35, by decide, if_pos hg, by unfold doD startsS; rw [if_pos hg, if_pos hg]⟩
  have hS : startsS s = { s with n := s.n + 1 } := if_neg hg
  rw [hS]
  cases ho : (okName name && okName too) with
  | false =>
    have h2 : (4 ≠ 3 ∧ okName name = false) ∨ (4 = 4 ∧ okName too = false) := by
      cases h1 : okName name with
      | false => exact .inl ⟨by decide, rfl⟩
      | true => rw [h1] at ho; exact .inr ⟨rfl, by simpa using ho⟩
    exact .inl ⟨30, by decide, by unfold startsE; rw [if_neg hg, hall, if_pos ho], by unfold doD; rw [if_neg hg, if_pos h2]⟩
  | true =>
    have h1 : ¬ ([name, too].all okName = false) := by rw [hall, ho]; simp
    have h2 : ¬ ((4 ≠ 3 ∧ okName name = false) ∨ (4 = 4 ∧ okName too = false)) := by
      have := Bool.and_eq_true_iff.1 ho
      rw [this.1, this.2]; simp
    cases hf : ofI s.dir name with
    | none =>
      exact .inl ⟨32, by decide, by unfold startsE; rw [if_neg hg, if_neg h1, if_pos ⟨rfl, by rw [hd0]; exact hf⟩], by unfold doD; rw [if_neg hg, if_neg h2, if_pos ⟨by decide, by decide, hf⟩]⟩
    | some k =>
      have h3 : ¬ (true = true ∧ ofI s.dir (([name, too] : List ByteArray).getD 0 ⟨#[]⟩) = none) := by rw [hd0, hf]; simp
      have h4 : ¬ (4 ≠ 3 ∧ 4 ≠ 0 ∧ ofI s.dir name = none) := by rw [hf]; simp
      have h5 : ¬ (4 = 0 ∧ 0 < b.size ∧ s.room < used s + b.size) := by simp
      refine .inr ⟨k, rfl, rfl, ?_⟩
      by_cases hn : (s.n : Int) ∈ s.fails
      · exact .inl ⟨by unfold startsE; rw [if_neg hg, if_neg h1, if_neg h3, decide_eq_true hn], by unfold doD; rw [if_neg hg, if_neg h2, if_neg h4, if_neg h5, if_pos hn]; rfl⟩
      · exact .inr ⟨by unfold startsE; rw [if_neg hg, if_neg h1, if_neg h3, decide_eq_false hn], by unfold doD; rw [if_neg hg, if_neg h2, if_neg h4, if_neg h5, if_neg hn]; rfl⟩

theorem al_old (w : World) (o : Obj) (b i : Nat) (h : b < w.heap.size) : (w.alloc o).cell? ⟨b, i, none⟩ = w.cell? ⟨b, i, none⟩ := ((Frm.refl (fun _ => False) w).alloc o).cell (p := ⟨b, i, none⟩) h (fun h => h)
theorem al_new (w : World) (cs : Array Value) (t : TypeId) (i : Nat) : (w.alloc (.cells cs t)).cell? ⟨w.heap.size, i, none⟩ = cs[i]? := World.cell?_alloc_new _ _ _ _
theorem rw_two (w : World) (n m : ByteArray) (t : TypeId) : Rw strC 1 (w.alloc (.cells #[.string n, .string m] t)) (.slice (some ⟨w.heap.size, 0, none⟩) 2 2) [n, m] := by
  refine ⟨some ⟨w.heap.size, 0, none⟩, 2, rfl, Nat.le_refl _, (fun h => by cases h), fun a e => ?_, fun i hi => ?_⟩
  · cases e; exact ⟨rfl, rfl, by simp⟩
  · refine ⟨w.heap.size, rfl, fun j u hu => ?_⟩
    rw [World.cell?_alloc_new]
    have hj : j = 0 := by
      cases j with
      | zero => rfl
      | succ j => simp [strC] at hu
    subst hj
    have hi' : i = 0 ∨ i = 1 := by simp at hi; omega
    rcases hi' with rfl | rfl <;> simpa [strC] using hu

set_option maxRecDepth 100000 in
set_option maxHeartbeats 2000000 in
theorem rename_any (name too b : ByteArray) (w : World) (h : PD w d L s) (hi : Inv s) (hn : s.n ≤ 1000000) (hname : name.size ≤ 2305843009213693952) (htoo : too.size ≤ 2305843009213693952) (hal : s.acts.length ≤ 100000) :
    Calls Try.prog 35 #[.pointer (some ⟨d, 0, none⟩), .string name, .string too] w fun e w' => e = .returned (.int .i64 (doD s 4 name too b).2.1) ∧ ∃ L', PD w' d L' (doD s 4 name too b).2.2 ∧ PStep w w' L L' := by
  obtain ⟨D, hD⟩ : ∃ D, doD s 4 name too b = D := ⟨_, rfl⟩
  rw [hD]
  have HD := Lib.hid hD
  have HI := Lib.hid hi
  have H := Lib.hid h
  have Hpre := Lib.hid (pre4 s name too b)
  have Hfr := Lib.hid (And.intro (h.new_free (Nat.le_refl w.heap.size)) (And.intro (h.new_free (Nat.le_succ w.heap.size)) (h.new_free (show w.heap.size ≤ w.heap.size + 1 + 1 by omega))))
  clear h hi hD
  go_enter Try.func35, Try.ntmps35
  go_wp2_with fail
  refine (starts_any true _ [name, too] _ (H.out.keep ((((Frm.refl _ w).alloc _).alloc _).alloc _)) HI.out hn (by have := rw_two ((w.alloc (.cells #[.string name] 9)).alloc (.cells #[.string too] 9)) name too 9; rw [World.size_alloc, World.size_alloc] at this; exact this) (fun b hb => by cases hb; exact Hfr.out.2.2) (by simp) (by simp [hname, htoo]) (fun _ => by simp)).mono ?_
  rintro e w1 ⟨rfl, hp1, hf1⟩
  have S1 : PStep w w1 L L := (((PStep.alloc w L _).trans (PStep.alloc _ L _)).trans (PStep.alloc _ L _)).trans (PStep.of_frm hf1 (fun b e => by rw [e, hp1.r0]; simp) rfl)
  rcases Hpre.out with ⟨er, he0, he1, he2⟩ | ⟨k, hk, hs, hrest⟩
  · have hd : D = (⟨#[]⟩, er, startsS s) := HD.out.symm.trans he2
    rw [he1]
    have t1 : (er != 0) = true := by simpa using he0
    have t2 : (er == 0) = false := by simpa using he0
    have H1 := Lib.hid (And.intro hp1 S1)
    subst hd
    clear he0 he1 he2 hp1 S1 hf1
    go_wp2_with fail
    go_ret
    exact ⟨rfl, L, H1.out.1, H1.out.2⟩
  · rw [hs] at hp1
    have hsz := hf1.size
    simp only [World.size_alloc] at hsz
    have hd0 : w.heap.size ≠ d := fun e => by have := H.out.r0; rw [← e, Hfr.out.1] at this; cases this
    have hd1 : w.heap.size + 1 ≠ d := fun e => by have := H.out.r0; rw [← e, Hfr.out.2.1] at this; cases this
    have x0 : w1.cell? ⟨w.heap.size, 0, none⟩ = some (.string name) := (hf1.cell (p := ⟨w.heap.size, 0, none⟩) (by simp; omega) hd0).trans (by rw [al_old _ _ _ _ (by simp; omega), al_old _ _ _ _ (by simp), al_new]; rfl)
    have x1 : w1.cell? ⟨w.heap.size + 1, 0, none⟩ = some (.string too) := (hf1.cell (p := ⟨w.heap.size + 1, 0, none⟩) (by simp) hd1).trans (by rw [al_old _ _ _ _ (by simp)]; have := al_new (w.alloc (.cells #[.string name] 9)) #[.string too] 9 0; rw [World.size_alloc] at this; rw [this]; rfl)
    have Hx := Lib.hid x0
    rcases hrest with ⟨h1, h2⟩ | ⟨h1, h2⟩
    · have hd := HD.out.symm.trans h2
      rw [h1]
      have H1 := Lib.hid (And.intro hp1 S1)
      subst hd
      clear h1 h2 hp1 S1 hf1 hs hk x0 x1
      go_wp2_with fail
      go_ret
      exact ⟨rfl, L, H1.out.1, H1.out.2⟩
    · have hd := HD.out.symm.trans h2
      rw [h1]
      by_cases hnt : name = too
      · rw [if_pos hnt] at hd
        have t1 : (name.toList == too.toList) = true := by rw [hnt]; simp
        have H1 := Lib.hid (And.intro hp1 S1)
        have Hnt := Lib.hid hnt
        subst hd
        clear h1 h2 hp1 S1 hf1 hs hk hnt
        go_wp2_with fail
        go_ret
        exact ⟨rfl, L, H1.out.1, H1.out.2⟩
      · rw [if_neg hnt] at hd
        have t1 : (name.toList == too.toList) = false := (Lib.bytes_beq_false_iff name too).2 hnt
        obtain ⟨hp2, S2⟩ := hp1.konst S1 Hfr.out.1 (Nat.le_refl _) (by omega)
        obtain ⟨hp3, S3⟩ := hp2.konst (b := w.heap.size + 1) S2 ((addR_ne _ (by omega)).trans Hfr.out.2.1) (by omega) (by omega)
        have cap3 : capOk w1 L.fb (Ytngickhakedonaa.addR (Ytngickhakedonaa.addR L.role w.heap.size .konst) (w.heap.size + 1) .konst) (.mv name too, w.heap.size, w.heap.size + 1) := ⟨x0, x1, (addR_ne _ (show w.heap.size ≠ w.heap.size + 1 by omega)).trans (addR_same _ _ _), addR_same _ _ _⟩
        have HT := turn_any (.mv name too, w.heap.size, w.heap.size + 1) w1 hp3 (HI.out.of_same rfl rfl rfl rfl) cap3 ⟨by rw [show ofI ({ s with n := s.n + 1 } : DS).dir name = some k from hk]; rfl, hnt⟩ trivial rfl hal
        have HT' := Lib.hid HT
        have H1 := Lib.hid S3
        have Hnt := Lib.hid hnt
        subst hd
        clear h1 h2 hp1 hp2 hp3 S1 S2 S3 hf1 hs hk HT hnt cap3
        go_wp2_with fail
        refine HT'.out.mono ?_
        rintro e w2 ⟨rfl, L', _, _, _, hpd, hst, _⟩
        have H2 := Lib.hid (And.intro hpd (H1.out.trans hst))
        clear hpd hst
        go_wp2_with fail
        go_ret
        exact ⟨rfl, L', H2.out.1, H2.out.2⟩
end Go.Proofs.Ytngickhakedonaa

namespace Go.Proofs.Ytngickhakedonaa
open Go.RowKit Go.Tk Go.Dk

variable {w w' : World} {d : Nat} {L : PL} {s : DS} {B : Nat → Prop}

def growD (s : DS) : DS := { s with files := s.files ++ [(⟨#[]⟩, 0)] }
theorem getF_growD (s : DS) (k : Nat) : getF (growD s) k = getF s k := getF_newD s ⟨#[]⟩ k
theorem Inv.grow (h : Inv s) : Inv (growD s) := by
  refine ⟨h.ok, h.acts, h.fin, fun x hx => by have := h.slt x hx; show _ < (s.files ++ [_]).length; simp; omega, fun a ha => ?_, fun k hk => ?_⟩
  · have := h.alt a ha
    cases a <;> simp [actLt, growD] at this ⊢ <;> omega
  · rw [getF_growD]
    rcases Nat.lt_or_ge k s.files.length with hk' | hk'
    · exact h.sums k hk'
    · have e : getF s k = (⟨#[]⟩, 0) := by unfold getF; rw [List.getD_eq_getElem?_getD, List.getElem?_eq_none hk']; rfl
      show _ + puts s.acts k = _
      rw [e, puts_lt _ h.alt k hk']; rfl

open Classical in
/-- a new file -/
theorem PD.new_file (h : PD w d L s) (hf : Frm (fun _ => False) w w') {g : Nat} (hg1 : w.heap.size ≤ g) (hg2 : g < w'.heap.size) (f0 : w'.cell? ⟨g, 0, none⟩ = some (.slice none 0 0)) (f1 : w'.cell? ⟨g, 1, none⟩ = some (.int .i64 0)) (fz : Fz w' g) :
    ∃ L', (∀ k, L.live k → L'.live k ∧ L'.fb k = L.fb k) ∧ L'.live s.files.length ∧ L'.fb s.files.length = g ∧ L'.dl = L.dl ∧ L'.bd = L.bd ∧ L'.vl = L.vl ∧ L'.pa = L.pa ∧ (∀ b, b ≠ g → L'.role b = L.role b) ∧ PD w' d L' (growD s) ∧ PStep w w' L L' := by
  have hk := h.keep hf
  have hfree := h.new_free hg1
  have hne : ∀ k, L.live k → k ≠ s.files.length := fun k hk => Nat.ne_of_lt (h.lv k hk)
  have key : ∀ b r, r ≠ .free → L.role b = r → Ytngickhakedonaa.addR L.role g (.file s.files.length) b = r := fun b r hr hb => by
    rw [addR_ne _ (fun e => by rw [e, hfree] at hb; exact hr hb.symm), hb]
  have hfb : ∀ k, L.live k → (if k = s.files.length then g else L.fb k) = L.fb k := fun k hk => if_neg (hne k hk)
  have hnm : ∀ l : List Nm, (∀ x ∈ l, L.live x.2) → l.map (nmE (fun k => if k = s.files.length then g else L.fb k)) = l.map (nmE L.fb) := fun l hl => List.map_congr_left fun x hx => by show (x.1, ptrV (if x.2 = s.files.length then g else L.fb x.2)) = _; rw [hfb _ (hl x hx)]; rfl
  have hpaC : ∀ p ∈ L.pa, paC (fun k => if k = s.files.length then g else L.fb k) p = paC L.fb p := by
    intro p hp
    have hl := h.la p.1 (by rw [← h.ap]; exact List.mem_map.2 ⟨p, hp, rfl⟩)
    obtain ⟨a, x, y⟩ := p
    cases a with
    | put k n => unfold paC paV; simp only []; rw [hfb k hl]
    | _ => rfl
  have hpf : ∀ l : List PA, (∀ p ∈ l, p ∈ L.pa) → l.flatMap (paC (fun k => if k = s.files.length then g else L.fb k)) = l.flatMap (paC L.fb) := by
    intro l hl
    induction l with
    | nil => rfl
    | cons x l ih => rw [List.flatMap_cons, List.flatMap_cons, hpaC x (hl x (by simp)), ih (fun p hp => hl p (List.mem_cons_of_mem _ hp))]
  refine ⟨{ L with live := fun k => L.live k ∨ k = s.files.length, fb := fun k => if k = s.files.length then g else L.fb k, vb := fun k => if k = s.files.length then .slice none 0 0 else L.vb k, role := Ytngickhakedonaa.addR L.role g (.file s.files.length) }, fun k hk => ⟨.inl hk, hfb k hk⟩, .inr rfl, if_pos rfl, rfl, rfl, rfl, rfl, fun b hb => addR_ne _ hb, ?_, ?_⟩
  · exact { hk with
      dirm := by show GMap _ _ _ (L.dl.map (nmE _)); rw [hnm L.dl (fun x hx => h.ld x (h.dp.mem_iff.1 hx))]; exact hk.dirm
      surem := by show GMap _ _ _ (L.sl.map (nmE _)); rw [hnm L.sl (fun x hx => h.ls x (h.sp.mem_iff.1 hx))]; exact hk.surem
      loose := by show w'.ownsRow _ _ _ _ _ (L.pa.flatMap (paC _)); rw [hpf L.pa (fun _ h => h)]; exact hk.loose
      caps := fun p hp => by
        have hc := hk.caps p hp
        have hl := h.la p.1 (by rw [← h.ap]; exact List.mem_map.2 ⟨p, hp, rfl⟩)
        obtain ⟨a, x, y⟩ := p
        cases a with
        | mk n k => exact ⟨hc.1.trans (by show some (ptrV (L.fb k)) = some (ptrV (if k = s.files.length then g else L.fb k)); rw [hfb k hl]), hc.2.1, key _ _ (by simp) hc.2.2.1, key _ _ (by simp) hc.2.2.2⟩
        | mv n m => exact ⟨hc.1, hc.2.1, key _ _ (by simp) hc.2.2.1, key _ _ (by simp) hc.2.2.2⟩
        | rm n => exact ⟨hc.1, key _ _ (by simp) hc.2⟩
        | put k n => trivial
      files := fun k hkl => by
        rw [getF_growD]
        rcases hkl with hkl | rfl
        · have q := hk.files k hkl
          have e1 := hfb k hkl
          refine ⟨?_, ?_, ?_, ?_, ?_, ?_⟩
          · show w'.cell? ⟨if k = s.files.length then g else L.fb k, 0, none⟩ = some (if k = s.files.length then _ else L.vb k)
            rw [e1, if_neg (hne k hkl)]; exact q.f0
          · show w'.cell? ⟨if k = s.files.length then g else L.fb k, 1, none⟩ = _
            rw [e1]; exact q.f1
          · show Fz w' (if k = s.files.length then g else L.fb k)
            rw [e1]; exact q.fz
          · show Ytngickhakedonaa.addR L.role g _ (if k = s.files.length then g else L.fb k) = _
            rw [e1]; exact key _ _ (by simp) q.fr
          · show BV w' (if k = s.files.length then _ else L.vb k) _
            rw [if_neg (hne k hkl)]; exact q.bv
          · intro b hb
            replace hb : bown (if k = s.files.length then (.slice none 0 0) else L.vb k) = some b := hb
            rw [if_neg (hne k hkl)] at hb
            exact key _ _ (by simp) (q.br b hb)
        · have e : getF s s.files.length = (⟨#[]⟩, 0) := by unfold getF; rw [List.getD_eq_getElem?_getD, List.getElem?_eq_none (Nat.le_refl _)]; rfl
          rw [e]
          refine ⟨?_, ?_, ?_, ?_, ?_, ?_⟩
          · show w'.cell? ⟨if s.files.length = s.files.length then g else _, 0, none⟩ = some (if s.files.length = s.files.length then _ else _)
            rw [if_pos rfl, if_pos rfl]; exact f0
          · show w'.cell? ⟨if s.files.length = s.files.length then g else _, 1, none⟩ = _
            rw [if_pos rfl]; exact f1
          · show Fz w' (if s.files.length = s.files.length then g else _)
            rw [if_pos rfl]; exact fz
          · show Ytngickhakedonaa.addR L.role g _ (if s.files.length = s.files.length then g else _) = _
            rw [if_pos rfl]; exact addR_same _ _ _
          · show BV w' (if s.files.length = s.files.length then _ else _) _
            rw [if_pos rfl]; exact World.ownsRow_nil _ _ _ _
          · intro b hb
            replace hb : bown (if s.files.length = s.files.length then (.slice none 0 0) else L.vb _) = some b := hb
            rw [if_pos rfl] at hb
            cases hb
      ld := fun x hx => .inl (h.ld x hx)
      ls := fun x hx => .inl (h.ls x hx)
      la := fun a ha => by
        have := h.la a ha
        cases a <;> first | exact .inl this | trivial
      lv := fun k hk => by
        show k < (s.files ++ [_]).length
        rw [List.length_append]
        rcases hk with hk | rfl
        · have := h.lv k hk; omega
        · simp
      r0 := key _ _ (by simp) h.r0, rd := key _ _ (by simp) h.rd, rs := key _ _ (by simp) h.rs, rf := key _ _ (by simp) h.rf
      rl := fun b hb => key _ _ (by simp) (h.rl b hb)
      rb := fun b hb => by
        by_cases e : b = g
        · rw [e]; exact hg2
        · have hb' : Ytngickhakedonaa.addR L.role g (.file s.files.length) b ≠ .free := hb
          rw [addR_ne _ e] at hb'
          exact hk.rb b hb' }
  · refine ⟨hf.mono (fun _ _ h => h.elim), fun b hb => ?_⟩
    by_cases e : b = g
    · exact .inr (by rw [e]; exact ⟨hg1, hg2⟩)
    · have hb' : Ytngickhakedonaa.addR L.role g (.file s.files.length) b ≠ .free := hb
      rw [addR_ne _ e] at hb'
      exact .inl hb'

theorem byC_append (x y : ByteArray) : byC (x ++ y) = byC x ++ byC y := by
  unfold byC
  rw [← List.map_append]
  congr 1

/-- bytes behind a file's -/
theorem PD.file_app (h : PD w d L s) {k : Nat} (hk : L.live k) {wa : World} {v : Value} {b : ByteArray} (ho : wa.ownsRow 0 5 1 v ((getF s k).1.size + b.size) (byC (getF s k).1 ++ byC b)) (hg : w.grownBy wa (L.vb k).ownBlock) (hat : v.ownBlock = (L.vb k).ownBlock ∨ v.ownBlock = some w.heap.size) :
    wa.cell? ⟨L.fb k, 0, none⟩ = some (L.vb k) ∧ (∀ o, wa.frozen? ⟨L.fb k, o, none⟩ = false) ∧ Frm (fun c => (L.vb k).ownBlock = some c) w wa ∧
    ∃ L', L'.live = L.live ∧ L'.fb = L.fb ∧ L'.vl = L.vl ∧ L'.pa = L.pa ∧ L'.dl = L.dl ∧ L'.bd = L.bd ∧ PD (wa.setCell ⟨L.fb k, 0, none⟩ v) d L' { s with files := s.files.set k ((getF s k).1 ++ b, (getF s k).2) } ∧ PStep w (wa.setCell ⟨L.fb k, 0, none⟩ v) L L' := by
  have hf := h.files k hk
  have hlt : L.fb k < w.heap.size := World.block_lt_of_cell? _ _ hf.f0
  have hF : Frm (fun c => (L.vb k).ownBlock = some c) w wa := Frm.of_grown (S := fun c => (L.vb k).ownBlock = some c) hg (fun k hk _ => hk)
  have hnb : ¬ (L.vb k).ownBlock = some (L.fb k) := fun e => by have := hf.br _ e; rw [hf.fr] at this; cases this
  have cc : ∀ o, wa.cell? ⟨L.fb k, o, none⟩ = w.cell? ⟨L.fb k, o, none⟩ := fun o => hF.cell (p := ⟨L.fb k, o, none⟩) hlt hnb
  have fz := hf.fz.frm hF hnb
  have hset := PD.setFrm wa (L.fb k) 0 v
  have hFF : Frm (fun c => c = L.fb k ∨ bown (L.vb k) = some c) w (wa.setCell ⟨L.fb k, 0, none⟩ v) := (hF.mono (fun c _ hc => .inr hc)).trans (hset.mono (fun c _ hc => .inl hc))
  have hvb : v.ownBlock ≠ some (L.fb k) := by
    intro e
    rcases hat with h1 | h1
    · exact hnb (h1.symm.trans e)
    · rw [e] at h1; have := Option.some.inj h1; omega
  obtain ⟨L', e1, e2, e3, e4, e5, e6, hpd, hnew⟩ := h.file_step hk hFF (v := v) (f := ((getF s k).1 ++ b, (getF s k).2)) (set_same _ _ _ _ _ ((cc 0).trans hf.f0)) ((Tk.set_off _ _ _ _ _ _ (by decide)).trans ((cc 1).trans hf.f1)) (fz.set _ _)
    (by unfold BV; rw [byC_append, ByteArray.size_append]; exact row_frm ho hset (fun c hc e => hvb (e ▸ hc)))
    (fun g hg => by
      rcases hat with h1 | h1
      · exact .inl (h1.symm.trans hg)
      · have h2 : v.ownBlock = some g := hg
        rw [h2] at h1; cases h1; exact .inr (Nat.le_refl _))
  refine ⟨(cc 0).trans hf.f0, fz.frozen, hF, L', e2, e3, e4, e5, e1, e6, hpd, hFF.mono (fun c _ hc => ?_), hnew⟩
  rcases hc with rfl | hc
  · rw [hf.fr]; simp
  · rw [hf.br c hc]; simp
end Go.Proofs.Ytngickhakedonaa

namespace Go.Proofs.Ytngickhakedonaa
open Go.RowKit Go.Tk Go.Dk

variable {w w' : World} {d : Nat} {L : PL} {s : DS} {B : Nat → Prop}

/-- the walk's part for a new file -/
theorem new_turn {w0 wy : World} {L : PL} {s : DS} {d N : Nat} {name : ByteArray} (h : PD wy d L s) (hi : Inv s) (hst : PStep w0 wy L L) (hno : ofI s.dir name = none) (hNf : L.role N = .free) (hN1 : w0.heap.size ≤ N) (hN2 : N < wy.heap.size) (hNc : wy.cell? ⟨N, 0, none⟩ = some (.string name)) (hal : s.acts.length ≤ 100000) :
    Calls Try.prog 51 #[.pointer (some ⟨d, 0, none⟩), .func (.func 52) #[] #[.pointer (some ⟨wy.heap.size + 1, 0, none⟩), .pointer (some ⟨N, 0, none⟩)]] ((wy.alloc (.cells #[.slice none 0 0, .int .i64 0] 100)).alloc (.cells #[.pointer (some ⟨wy.heap.size, 0, none⟩)] 98)) fun e w3 => e = .returned (.tuple #[]) ∧ ∃ L3, PD w3 d L3 (newD s name) ∧ Inv (newD s name) ∧ L3.live s.files.length ∧ PStep w0 w3 L L3 ∧ w3.cell? ⟨N, 0, none⟩ = some (.string name) ∧ ofI (newD s name).dir name = some s.files.length := by
  have hgl : wy.heap.size < ((wy.alloc (.cells #[.slice none 0 0, .int .i64 0] 100)).alloc (.cells #[.pointer (some ⟨wy.heap.size, 0, none⟩)] 98)).heap.size := by rw [World.size_alloc, World.size_alloc]; omega
  have hA : Frm (fun _ => False) wy ((wy.alloc (.cells #[.slice none 0 0, .int .i64 0] 100)).alloc (.cells #[.pointer (some ⟨wy.heap.size, 0, none⟩)] 98)) := ((Frm.refl _ wy).alloc _).alloc _
  have hF1 : Frm (fun _ => False) (wy.alloc (.cells #[.slice none 0 0, .int .i64 0] 100)) ((wy.alloc (.cells #[.slice none 0 0, .int .i64 0] 100)).alloc (.cells #[.pointer (some ⟨wy.heap.size, 0, none⟩)] 98)) := (Frm.refl _ _).alloc _
  obtain ⟨L1, hl1, hl2, hl3, _, _, _, _, hrole, hpd1, hst1⟩ := h.new_file hA (g := wy.heap.size) (Nat.le_refl _) hgl (by rw [al_old _ _ _ _ (by simp), al_new]; rfl) (by rw [al_old _ _ _ _ (by simp), al_new]; rfl) ((Fz.new wy _ _).frm hF1 (fun h => h))
  have hNne : N ≠ wy.heap.size := by omega
  have hCfree : L1.role (wy.heap.size + 1) = .free := (hrole _ (by omega)).trans (h.new_free (by omega))
  obtain ⟨hpd2, hst2⟩ := hpd1.konst (L0 := L) (w := w0) (hst.trans hst1) (b := N) ((hrole N hNne).trans hNf) hN1 (Nat.lt_trans hN2 hgl)
  obtain ⟨hpd3, hst3⟩ := hpd2.konst (b := wy.heap.size + 1) hst2 ((addR_ne _ (by omega)).trans hCfree) (by have := hst.frm.size; omega) (by simp)
  have hc1 : ((wy.alloc (.cells #[.slice none 0 0, .int .i64 0] 100)).alloc (.cells #[.pointer (some ⟨wy.heap.size, 0, none⟩)] 98)).cell? ⟨wy.heap.size + 1, 0, none⟩ = some (ptrV (L1.fb s.files.length)) := by
    have := al_new (wy.alloc (.cells #[.slice none 0 0, .int .i64 0] 100)) #[.pointer (some ⟨wy.heap.size, 0, none⟩)] 98 0
    rw [World.size_alloc] at this
    rw [this, hl3]; rfl
  have hc2 : ((wy.alloc (.cells #[.slice none 0 0, .int .i64 0] 100)).alloc (.cells #[.pointer (some ⟨wy.heap.size, 0, none⟩)] 98)).cell? ⟨N, 0, none⟩ = some (.string name) := (hA.cell (p := ⟨N, 0, none⟩) hN2 (fun h => h)).trans hNc
  have hcap : capOk ((wy.alloc (.cells #[.slice none 0 0, .int .i64 0] 100)).alloc (.cells #[.pointer (some ⟨wy.heap.size, 0, none⟩)] 98)) L1.fb (Ytngickhakedonaa.addR (Ytngickhakedonaa.addR L1.role N .konst) (wy.heap.size + 1) .konst) (.mk name s.files.length, wy.heap.size + 1, N) :=
    ⟨hc1, hc2, addR_same _ _ _, (addR_ne _ (show N ≠ wy.heap.size + 1 by omega)).trans (addR_same _ _ _)⟩
  have hok : OkAct (growD s).dir (.mk name s.files.length) := ⟨ofI_none.1 hno, fun x hx e => by have := hi.dlt x hx; omega⟩
  refine (turn_any (.mk name s.files.length, wy.heap.size + 1, N) _ hpd3 hi.grow hcap hok hl2 rfl hal).mono ?_
  rintro e w3 ⟨rfl, L3, e1, e2, e3, hpd4, hst4, hF4⟩
  have hinv : Inv (newD s name) := hi.new hno
  have hN3 : ({ L1 with role := Ytngickhakedonaa.addR (Ytngickhakedonaa.addR L1.role N .konst) (wy.heap.size + 1) .konst } : PL).role N = .konst := (addR_ne _ (show N ≠ wy.heap.size + 1 by omega)).trans (addR_same _ _ _)
  refine ⟨rfl, L3, hpd4, hinv, by rw [e1]; exact hl2, hst3.trans hst4, ?_, (ofI_some hinv.dok.srt.names).2 ((wi_perm _ _ _).mem_iff.2 (by simp))⟩
  refine (hF4.cell (p := ⟨N, 0, none⟩) (Nat.lt_trans hN2 hgl) ?_).trans hc2
  rintro (e | e | e)
  · have := hpd3.r0; rw [← e, hN3] at this; cases this
  · have := hpd3.rd; rw [← e, hN3] at this; cases this
  · have := hpd3.rl N e; rw [hN3] at this; cases this

def appD (s : DS) (name b : ByteArray) : DS := match ofI s.dir name with
  | some k => putD s k b
  | none => putD (newD s name) s.files.length b
theorem pre0 (s : DS) (name too b : ByteArray) :
    (∃ e : Int, e ≠ 0 ∧ startsE s false [name] = (false, e) ∧ doD s 0 name too b = (⟨#[]⟩, e, startsS s)) ∨
    (startsS s = { s with n := s.n + 1 } ∧ ∃ r : Bool, startsE s false [name] = (r, 0) ∧ ((0 < b.size ∧ s.room < (used s : Int) + b.size ∧ doD s 0 name too b = (⟨#[]⟩, 33, { s with n := s.n + 1 })) ∨
      (¬ (0 < b.size ∧ s.room < (used s : Int) + b.size) ∧ doD s 0 name too b = if r = true then ((⟨#[]⟩, 34, { s with n := s.n + 1 }) : ByteArray × Int × DS) else (⟨#[]⟩, 0, appD { s with n := s.n + 1 } name b)))) := by
  have hall : [name].all okName = okName name := by simp
  by_cases hg : gone s = true
  · exact .inl ⟨35, by decide, if_pos hg, by unfold doD startsS; rw [if_pos hg, if_pos hg]⟩
  have hS : startsS s = { s with n := s.n + 1 } := if_neg hg
  rw [hS]
  cases ho : okName name with
  | false => exact .inl ⟨30, by decide, by unfold startsE; rw [if_neg hg, hall, if_pos ho], by unfold doD; rw [if_neg hg, if_pos (.inl ⟨by decide, ho⟩)]⟩
  | true =>
    have h1 : ¬ ([name].all okName = false) := by rw [hall, ho]; simp
    have h2 : ¬ ((0 ≠ 3 ∧ okName name = false) ∨ (0 = 4 ∧ okName too = false)) := by rw [ho]; simp
    have h3 : ¬ (0 ≠ 3 ∧ 0 ≠ 0 ∧ ofI s.dir name = none) := by simp
    refine .inr ⟨rfl, decide ((s.n : Int) ∈ s.fails), by unfold startsE; rw [if_neg hg, if_neg h1, if_neg (by simp)], ?_⟩
    by_cases hf : 0 < b.size ∧ s.room < (used s : Int) + b.size
    · exact .inl ⟨hf.1, hf.2, by unfold doD; rw [if_neg hg, if_neg h2, if_neg h3, if_pos ⟨rfl, hf⟩]⟩
    · refine .inr ⟨hf, ?_⟩
      unfold doD
      rw [if_neg hg, if_neg h2, if_neg h3, if_neg (fun h => hf h.2)]
      by_cases hn : (s.n : Int) ∈ s.fails
      · rw [if_pos hn, decide_eq_true hn, if_pos rfl]; rfl
      · rw [if_neg hn, decide_eq_false hn, if_neg (by simp)]; rfl

set_option maxRecDepth 100000 in
set_option maxHeartbeats 2000000 in
theorem append_any (name too b : ByteArray) (ao : Option Addr) (cap : Nat) (w : World) (h : PD w d L s) (hi : Inv s) (hn : s.n ≤ 1000000) (hname : name.size ≤ 2305843009213693952) (hal : s.acts.length ≤ 10000) (hus : used s ≤ 100000000000) (hb : b.size ≤ 100000000000) (hfs : ∀ k, (getF s k).1.size ≤ 100000000000)
    (hcell : ∀ a, ao = some a → L.role a.block = .free ∧ a.block < w.heap.size ∧ ∀ j u, (byC b)[j]? = some u → w.cell? (a.add j) = some u) (hnil : ao = none → b.size = 0) (hcap : b.size ≤ cap) :
    Calls Try.prog 26 #[.pointer (some ⟨d, 0, none⟩), .string name, .slice ao b.size cap] w fun e w' => e = .returned (.int .i64 (doD s 0 name too b).2.1) ∧ ∃ L', PD w' d L' (doD s 0 name too b).2.2 ∧ PStep w w' L L' := by
  obtain ⟨D, hD⟩ : ∃ D, doD s 0 name too b = D := ⟨_, rfl⟩
  rw [hD]
  have HD := Lib.hid hD
  have HI := Lib.hid hi
  have H := Lib.hid h
  have Hpre := Lib.hid (pre0 s name too b)
  have Hfr := Lib.hid (And.intro (h.new_free (Nat.le_refl w.heap.size)) (h.new_free (Nat.le_succ w.heap.size)))
  have Hb := Lib.hid (And.intro hcell hnil)
  have Hfs := Lib.hid hfs
  clear h hi hD hcell hnil hfs
  go_enter Try.func26, Try.ntmps26
  go_wp2_with fail
  refine (starts_any false _ [name] _ (H.out.keep (((Frm.refl _ w).alloc _).alloc _)) HI.out hn (by have := rw_one (w.alloc (.cells #[.string name] 9)) name 9; rw [World.size_alloc] at this; exact this) (fun b hb => by cases hb; exact Hfr.out.2) (by simp) (by simpa using hname) (fun _ => by simp)).mono ?_
  rintro e w1 ⟨rfl, hp1, hf1⟩
  have S1 : PStep w w1 L L := ((PStep.alloc w L _).trans (PStep.alloc _ L _)).trans (PStep.of_frm hf1 (fun b e => by rw [e, hp1.r0]; simp) rfl)
  rcases Hpre.out with ⟨er, he0, he1, he2⟩ | ⟨hs, r, hE1, hrest⟩
  · have hd : D = (⟨#[]⟩, er, startsS s) := HD.out.symm.trans he2
    rw [he1]
    have t1 : (er != 0) = true := by simpa using he0
    have t2 : (er == 0) = false := by simpa using he0
    have H1 := Lib.hid (And.intro hp1 S1)
    subst hd
    clear he0 he1 he2 hp1 S1 hf1
    go_wp2_with fail
    go_ret
    exact ⟨rfl, L, H1.out.1, H1.out.2⟩
  · rw [hs] at hp1
    have hsz := hf1.size
    simp only [World.size_alloc] at hsz
    have hd0 : w.heap.size ≠ d := fun e => by have := H.out.r0; rw [← e, Hfr.out.1] at this; cases this
    have x0 : w1.cell? ⟨w.heap.size, 0, none⟩ = some (.string name) := (hf1.cell (p := ⟨w.heap.size, 0, none⟩) (by simp; omega) hd0).trans (by simp)
    have c3 := hp1.c3
    have c0 := hp1.c0
    have H1 := Lib.hid (And.intro hp1 S1)
    rw [hE1]
    clear hs hp1 S1 hf1 hE1
    by_cases hb0 : 0 < b.size
    · have i1 : (0 : Int) < b.size := by omega
      have hq := fun wx (hf : Frm (fun _ => False) w1 wx) => used_any (L := L) wx (H1.out.1.keep hf) (s := { s with n := s.n + 1 }) (by show used s ≤ _; omega)
      rw [show used { s with n := s.n + 1 } = used s from rfl] at hq
      have Hq := Lib.hid hq
      generalize used s = U at *
      have hwrap : IntKind.i64.wrap ((U : Int) + (b.size : Int)) = (U : Int) + b.size := IntWalk.i64_in _ (by omega)
      clear hq
      by_cases hroom : s.room < (U : Int) + b.size
      · have hd : D = (⟨#[]⟩, 33, { s with n := s.n + 1 }) := by
          rcases hrest with ⟨_, _, h⟩ | ⟨h, _⟩
          · exact HD.out.symm.trans h
          · exact absurd ⟨hb0, hroom⟩ h
        have t1 : decide (s.room < (U : Int) + (b.size : Int)) = true := decide_eq_true hroom
        subst hd
        clear hrest hroom
        go_wp2_with fail
        go_region_held3 (fun w' => w'.cell? ⟨d, 3, none⟩ = some (.int .i64 s.room)) (first | exact c3 | exact Hc3.out) (first | (go_at_call 50; refine (Hq.out w1.drew (Frm.refl _ _).drew).mono ?_; rintro e w2 ⟨rfl, hf2⟩; have Hc3 := Lib.hid ((hf2.cell (p := ⟨d, 3, none⟩) (World.block_lt_of_cell? _ _ c3) (fun h => h)).trans c3); have HF2 := Lib.hid hf2; clear hf2))
        go_wp2_with fail
        go_ret
        exact ⟨rfl, L, H1.out.1.keep ((Frm.refl (fun _ => False) w1).drew.trans HF2.out), H1.out.2.keep ((Frm.refl (fun _ => False) w1).drew.trans HF2.out)⟩
      · have hE : D = if r = true then ((⟨#[]⟩, 34, { s with n := s.n + 1 }) : ByteArray × Int × DS) else (⟨#[]⟩, 0, appD { s with n := s.n + 1 } name b) := by
          rcases hrest with ⟨_, h, _⟩ | ⟨_, h⟩
          · exact absurd h hroom
          · exact HD.out.symm.trans h
        have t1 : decide (s.room < (U : Int) + (b.size : Int)) = false := decide_eq_false hroom
        have HE := Lib.hid hE
        clear hrest hroom hE
        go_wp2_with fail
        go_region_held3 (fun w' => w'.cell? ⟨d, 3, none⟩ = some (.int .i64 s.room)) (first | exact c3 | exact Hc3.out) (first | (go_at_call 50; refine (Hq.out w1.drew (Frm.refl _ _).drew).mono ?_; rintro e wx ⟨rfl, hf2⟩; have Hc3 := Lib.hid ((hf2.cell (p := ⟨d, 3, none⟩) (World.block_lt_of_cell? _ _ c3) (fun h => h)).trans c3); have HF2 := Lib.hid hf2; clear hf2))
        have HX : Hid (PD wx d L { s with n := s.n + 1 } ∧ PStep w wx L L ∧ wx.cell? ⟨w.heap.size, 0, none⟩ = some (.string name)) := Lib.hid ⟨H1.out.1.keep ((Frm.refl (fun _ => False) w1).drew.trans HF2.out), H1.out.2.keep ((Frm.refl (fun _ => False) w1).drew.trans HF2.out), (HF2.out.cell (p := ⟨w.heap.size, 0, none⟩) (World.block_lt_of_cell? _ _ x0) (fun h => h)).trans x0⟩
        clear c0 c3 x0 H1 Hc3 HF2 Hq hwrap t1
        -- region 6 on, at wx
        cases r with
        | true =>
          have hd : D = (⟨#[]⟩, 34, { s with n := s.n + 1 }) := HE.out
          subst hd
          go_wp2_with fail
          go_ret
          exact ⟨rfl, L, HX.out.1, HX.out.2.1⟩
        | false =>
          have hd : D = (⟨#[]⟩, 0, appD { s with n := s.n + 1 } name b) := HE.out
          have HD0 := Lib.hid hd
          clear hd HE HD Hpre
          have c0 := HX.out.1.c0
          have x0 := HX.out.2.2
          have hlk := HX.out.1.look (HI.out.of_same rfl rfl rfl rfl) name
          unfold dirV at hlk
          cases hk : ofI s.dir name with
          | some k =>
            rw [show ofI ({ s with n := s.n + 1 } : DS).dir name = some k from hk] at hlk
            unfold ptrV at hlk
            have Hk := Lib.hid hk
            have hap : appD { s with n := s.n + 1 } name b = putD { s with n := s.n + 1 } k b := by unfold appD; rw [show ofI ({ s with n := s.n + 1 } : DS).dir name = some k from hk]
            have Hap := Lib.hid (HD0.out.trans (by rw [hap]))
            clear hk hap HD0
            go_wp2_with fail
            go_quiet (fail)
            have HT : Hid (PD (wx.drewN nq) d L { s with n := s.n + 1 } ∧ Inv { s with n := s.n + 1 } ∧ L.live k ∧ PStep w (wx.drewN nq) L L ∧ (wx.drewN nq).cell? ⟨w.heap.size, 0, none⟩ = some (.string name) ∧ ofI ({ s with n := s.n + 1 } : DS).dir name = some k) := Lib.hid ⟨HX.out.1.keep ((Frm.refl _ _).drewN _), HI.out.of_same rfl rfl rfl rfl, HX.out.1.live_of (s := { s with n := s.n + 1 }) Hk.out, HX.out.2.1.keep ((Frm.refl _ _).drewN _), x0, Hk.out⟩
            generalize wx.drewN nq = w3 at *
            have hal3 : ({ s with n := s.n + 1 } : DS).acts.length ≤ 100000 := by show s.acts.length ≤ _; omega
            have hfs3 : ∀ j, (getF { s with n := s.n + 1 } j).1.size ≤ 100000000000 := Hfs.out
            generalize ({ s with n := s.n + 1 } : DS) = s3 at *
            clear hlk c0 x0
            obtain ⟨i5, hi5, hy0, hy1, hy2⟩ := info_parts info5
            obtain ⟨i0, hi0, hz0, hz1, hz2⟩ := info_parts info104
            have c0 := HT.out.1.c0
            have x0 := HT.out.2.2.2.2.1
            have hlk := HT.out.1.look HT.out.2.1 name
            unfold dirV at hlk
            rw [HT.out.2.2.2.2.2] at hlk
            unfold ptrV at hlk
            go_wp2_with fail
            go_quiet (fail)
            have hD : Frm (fun _ => False) w3 (w3.drewN nq) := (Frm.refl _ w3).drewN nq
            have H4 := Lib.hid (And.intro (HT.out.1.keep hD) (HT.out.2.2.2.1.keep hD))
            generalize w3.drewN nq = w4 at *
            have hfile := H4.out.1.files k HT.out.2.2.1
            obtain ⟨ao3, cap3, f0, hvb, hle3⟩ := hfile.bytes
            have fzk := hfile.fz.frozen
            have hrow : w4.ownsRow 0 5 1 (.slice ao3 (getF s3 k).1.size cap3) (getF s3 k).1.size (byC (getF s3 k).1) := by rw [← hvb]; exact hfile.bv
            have Hrow := Lib.hid hrow
            obtain ⟨a, rfl⟩ : ∃ a, ao = some a := by
              cases ao with
              | none => have := Hb.out.2 rfl; omega
              | some a => exact ⟨a, rfl⟩
            have hbc : ∀ j u, (byC b)[j]? = some u → w4.cell? (a.add j) = some u := by
              intro j u hu
              obtain ⟨q1, q2, q3⟩ := Hb.out.1 a rfl
              have hbk : (a.add j).block = a.block := by unfold Addr.add; split <;> rfl
              exact (H4.out.2.frm.cell (p := a.add j) (by rw [hbk]; exact q2) (by rw [hbk]; simp [q1])).trans (q3 j u hu)
            have hX := hfs3 k
            have Hm := Lib.hid (And.intro hbc (And.intro (show (getF s3 k).1.size + b.size ≤ maxLen by unfold maxLen; omega) (And.intro (show ((getF s3 k).1.size + b.size) * 1 ≤ 140737488355328 by omega) (show (byC b).length = b.size * 1 by rw [byC_len, Nat.mul_one]))))
            have Hvb := Lib.hid hvb
            have Hput := Lib.hid (show putD s3 k b = { s3 with files := s3.files.set k ((getF s3 k).1 ++ b, (getF s3 k).2), acts := s3.acts ++ [.put k b.size] } by unfold putD; rw [if_neg (by omega)])
            have hal4 : L.pa.length ≤ 100000 := by have := congrArg List.length H4.out.1.ap; rw [List.length_map] at this; omega
            clear hlk c0 x0 hD hfile hvb hrow hbc hX
            generalize hXX : (getF s3 k).1.size = XS at *
            have HXX := Lib.hid hXX
            clear hXX
            go_wp2_with (first
              | (at_builtin; refine wpList_append_own_at _ rfl _ _ 45 rfl 0 5 i5 _ 1 1 Try.underlying45 hi5 hy0 hy1 hy2 rfl (by decide) _ _ _ rfl Hrow.out a b.size cap (byC b) rfl Hm.out.2.2.2 Hm.out.1 (byC_one b) Hm.out.2.1 Hm.out.2.2.1 (Nat.zero_le _) ?_; intro v' wa hown hgrow _ hat; have St := H4.out.1.file_app HT.out.2.2.1 (v := v') (wa := wa) (b := b) (by rw [HXX.out]; exact hown) (by rw [Hvb.out]; exact hgrow) (by rw [Hvb.out]; exact hat); obtain ⟨ao5, cap5, hv5, _⟩ := row_slice hown; clear hown hat hgrow f0; obtain ⟨f0a, fza, hFa, L5, e1, e2, e3, e4, _, _, hpd5, hst5⟩ := St; rw [Hvb.out] at f0a; subst hv5; have c2S := hpd5.c2; obtain ⟨ao6, cap6, hv6, _⟩ := row_slice hpd5.loose; rw [hv6] at c2S; have fzS := hpd5.fz.frozen; have hal5 : L5.pa.length ≤ 100000 := (by rw [e4]; exact hal4); have Q := app_facts (wa.setCell ⟨L.fb k, 0, none⟩ (.slice ao5 (XS + b.size) cap5)) [.pointer (some ⟨L.fb k, 0, none⟩), .int .i64 b.size, .nilFunc] 104 L5.pa.length 24 0 (by simp [Value.oneCell']) (by omega) (by decide) (Nat.zero_le _); have HQ1 := Q.out.1; rw [World.size_setCell] at HQ1; have HQ2 := Lib.hid HQ1; clear HQ1; have H5 := Lib.hid (And.intro hpd5 (And.intro hst5 (And.intro e2 (And.intro e1 hv6)))); have Ho5 := Lib.hid hpd5.loose; rw [hv6] at Ho5; clear hpd5 hst5 e1 e2 e3 e4 hv6 hFa)
              | (at_builtin; refine wpList_append_own_at _ rfl _ _ 77 rfl 0 104 i0 _ 3 24 Try.underlying77 hi0 hz0 hz1 hz2 rfl (by decide) _ _ _ rfl (Ho5.out.alloc _) ⟨wa.heap.size, 0, none⟩ 1 1 [.pointer (some ⟨L.fb k, 0, none⟩), .int .i64 b.size, .nilFunc] rfl rfl HQ2.out Q.out.2.1 Q.out.2.2.1 Q.out.2.2.2.1 Q.out.2.2.2.2 ?_; intro v6 wb hown6 hgrow6 _ hat6; have St6 := H5.out.1.loose_app (p := (.put k b.size, 0, 0)) (v := v6) (wa := wb) (by show wb.ownsRow _ _ _ _ _ (_ ++ [ptrV (L5.fb k), .int .i64 b.size, .nilFunc]); rw [show ([ptrV (L5.fb k), .int .i64 b.size, .nilFunc] : List Value) = [.pointer (some ⟨L.fb k, 0, none⟩), .int .i64 b.size, .nilFunc] by rw [H5.out.2.2.1]; rfl]; exact hown6) (by rw [H5.out.2.2.2.2]; exact hgrow6) (by rw [H5.out.2.2.2.2]; exact hat6) trivial (by show L5.live k; rw [H5.out.2.2.2.1]; exact HT.out.2.2.1); obtain ⟨ao7, cap7, hv7, _⟩ := row_slice hown6; clear hown6 hat6 hgrow6 c2S fzS; obtain ⟨c2a, fzb, L6, _, _, _, _, _, hpd6, hst6, _⟩ := St6; rw [H5.out.2.2.2.2] at c2a; subst hv7; have H6 := Lib.hid (And.intro hpd6 hst6); clear hpd6 hst6))
            go_ret
            exact ⟨by rw [Hap.out]; rfl, L6, by rw [Hap.out]; show PD _ d L6 (putD s3 k b); rw [Hput.out]; exact H6.out.1, (H4.out.2.trans H5.out.2.1).trans H6.out.2⟩
          | none =>
            rw [show ofI ({ s with n := s.n + 1 } : DS).dir name = none from hk] at hlk
            have Hk := Lib.hid hk
            have hap : appD { s with n := s.n + 1 } name b = putD (newD { s with n := s.n + 1 } name) s.files.length b := by unfold appD; rw [show ofI ({ s with n := s.n + 1 } : DS).dir name = none from hk]
            have Hap := Lib.hid (HD0.out.trans (by rw [hap]))
            clear hk hap HD0
            go_wp2_with fail
            go_quiet (fail)
            have HT0 : Hid (PD (wx.drewN nq) d L { s with n := s.n + 1 } ∧ PStep w (wx.drewN nq) L L ∧ (wx.drewN nq).cell? ⟨w.heap.size, 0, none⟩ = some (.string name)) := Lib.hid ⟨HX.out.1.keep ((Frm.refl _ _).drewN _), HX.out.2.1.keep ((Frm.refl _ _).drewN _), x0⟩
            have hwsz : w.heap.size < (wx.drewN nq).heap.size := World.block_lt_of_cell? _ _ x0
            generalize wx.drewN nq = wy at *
            clear hlk c0 x0 HX
            have hnew := new_turn HT0.out.1 (HI.out.of_same rfl rfl rfl rfl) HT0.out.2.1 (name := name) Hk.out Hfr.out.1 (Nat.le_refl _) hwsz HT0.out.2.2 (by show s.acts.length ≤ _; omega)
            have Hnew := Lib.hid hnew
            clear hnew
            go_wp2_with fail
            refine Hnew.out.mono ?_
            rintro e w3 ⟨rfl, L3, q1, q2, q3, q4, q5, q6⟩
            have HT : Hid (PD w3 d L3 (newD { s with n := s.n + 1 } name) ∧ Inv (newD { s with n := s.n + 1 } name) ∧ L3.live s.files.length ∧ PStep w w3 L L3 ∧ w3.cell? ⟨w.heap.size, 0, none⟩ = some (.string name) ∧ ofI (newD { s with n := s.n + 1 } name).dir name = some s.files.length) := Lib.hid ⟨q1, q2, q3, q4, q5, q6⟩
            have hal3 : (newD { s with n := s.n + 1 } name).acts.length ≤ 100000 := by show (s.acts ++ [_]).length ≤ _; rw [List.length_append]; simp; omega
            have hfs3 : ∀ j, (getF (newD { s with n := s.n + 1 } name) j).1.size ≤ 100000000000 := fun j => by rw [getF_newD]; exact Hfs.out j
            clear q1 q2 q3 q4 q5 q6 HT0 Hnew
            generalize s.files.length = k at *
            generalize newD { s with n := s.n + 1 } name = s3 at *
            obtain ⟨i5, hi5, hy0, hy1, hy2⟩ := info_parts info5
            obtain ⟨i0, hi0, hz0, hz1, hz2⟩ := info_parts info104
            have c0 := HT.out.1.c0
            have x0 := HT.out.2.2.2.2.1
            have hlk := HT.out.1.look HT.out.2.1 name
            unfold dirV at hlk
            rw [HT.out.2.2.2.2.2] at hlk
            unfold ptrV at hlk
            go_wp2_with fail
            go_quiet (fail)
            have hD : Frm (fun _ => False) w3 (w3.drewN nq) := (Frm.refl _ w3).drewN nq
            have H4 := Lib.hid (And.intro (HT.out.1.keep hD) (HT.out.2.2.2.1.keep hD))
            generalize w3.drewN nq = w4 at *
            have hfile := H4.out.1.files k HT.out.2.2.1
            obtain ⟨ao3, cap3, f0, hvb, hle3⟩ := hfile.bytes
            have fzk := hfile.fz.frozen
            have hrow : w4.ownsRow 0 5 1 (.slice ao3 (getF s3 k).1.size cap3) (getF s3 k).1.size (byC (getF s3 k).1) := by rw [← hvb]; exact hfile.bv
            have Hrow := Lib.hid hrow
            obtain ⟨a, rfl⟩ : ∃ a, ao = some a := by
              cases ao with
              | none => have := Hb.out.2 rfl; omega
              | some a => exact ⟨a, rfl⟩
            have hbc : ∀ j u, (byC b)[j]? = some u → w4.cell? (a.add j) = some u := by
              intro j u hu
              obtain ⟨q1, q2, q3⟩ := Hb.out.1 a rfl
              have hbk : (a.add j).block = a.block := by unfold Addr.add; split <;> rfl
              exact (H4.out.2.frm.cell (p := a.add j) (by rw [hbk]; exact q2) (by rw [hbk]; simp [q1])).trans (q3 j u hu)
            have hX := hfs3 k
            have Hm := Lib.hid (And.intro hbc (And.intro (show (getF s3 k).1.size + b.size ≤ maxLen by unfold maxLen; omega) (And.intro (show ((getF s3 k).1.size + b.size) * 1 ≤ 140737488355328 by omega) (show (byC b).length = b.size * 1 by rw [byC_len, Nat.mul_one]))))
            have Hvb := Lib.hid hvb
            have Hput := Lib.hid (show putD s3 k b = { s3 with files := s3.files.set k ((getF s3 k).1 ++ b, (getF s3 k).2), acts := s3.acts ++ [.put k b.size] } by unfold putD; rw [if_neg (by omega)])
            have hal4 : L3.pa.length ≤ 100000 := by have := congrArg List.length H4.out.1.ap; rw [List.length_map] at this; omega
            clear hlk c0 x0 hD hfile hvb hrow hbc hX
            generalize hXX : (getF s3 k).1.size = XS at *
            have HXX := Lib.hid hXX
            clear hXX
            go_wp2_with (first
              | (at_builtin; refine wpList_append_own_at _ rfl _ _ 45 rfl 0 5 i5 _ 1 1 Try.underlying45 hi5 hy0 hy1 hy2 rfl (by decide) _ _ _ rfl Hrow.out a b.size cap (byC b) rfl Hm.out.2.2.2 Hm.out.1 (byC_one b) Hm.out.2.1 Hm.out.2.2.1 (Nat.zero_le _) ?_; intro v' wa hown hgrow _ hat; have St := H4.out.1.file_app HT.out.2.2.1 (v := v') (wa := wa) (b := b) (by rw [HXX.out]; exact hown) (by rw [Hvb.out]; exact hgrow) (by rw [Hvb.out]; exact hat); obtain ⟨ao5, cap5, hv5, _⟩ := row_slice hown; clear hown hat hgrow f0; obtain ⟨f0a, fza, hFa, L5, e1, e2, e3, e4, _, _, hpd5, hst5⟩ := St; rw [Hvb.out] at f0a; subst hv5; have c2S := hpd5.c2; obtain ⟨ao6, cap6, hv6, _⟩ := row_slice hpd5.loose; rw [hv6] at c2S; have fzS := hpd5.fz.frozen; have hal5 : L5.pa.length ≤ 100000 := (by rw [e4]; exact hal4); have Q := app_facts (wa.setCell ⟨L3.fb k, 0, none⟩ (.slice ao5 (XS + b.size) cap5)) [.pointer (some ⟨L3.fb k, 0, none⟩), .int .i64 b.size, .nilFunc] 104 L5.pa.length 24 0 (by simp [Value.oneCell']) (by omega) (by decide) (Nat.zero_le _); have HQ1 := Q.out.1; rw [World.size_setCell] at HQ1; have HQ2 := Lib.hid HQ1; clear HQ1; have H5 := Lib.hid (And.intro hpd5 (And.intro hst5 (And.intro e2 (And.intro e1 hv6)))); have Ho5 := Lib.hid hpd5.loose; rw [hv6] at Ho5; clear hpd5 hst5 e1 e2 e3 e4 hv6 hFa)
              | (at_builtin; refine wpList_append_own_at _ rfl _ _ 77 rfl 0 104 i0 _ 3 24 Try.underlying77 hi0 hz0 hz1 hz2 rfl (by decide) _ _ _ rfl (Ho5.out.alloc _) ⟨wa.heap.size, 0, none⟩ 1 1 [.pointer (some ⟨L3.fb k, 0, none⟩), .int .i64 b.size, .nilFunc] rfl rfl HQ2.out Q.out.2.1 Q.out.2.2.1 Q.out.2.2.2.1 Q.out.2.2.2.2 ?_; intro v6 wb hown6 hgrow6 _ hat6; have St6 := H5.out.1.loose_app (p := (.put k b.size, 0, 0)) (v := v6) (wa := wb) (by show wb.ownsRow _ _ _ _ _ (_ ++ [ptrV (L5.fb k), .int .i64 b.size, .nilFunc]); rw [show ([ptrV (L5.fb k), .int .i64 b.size, .nilFunc] : List Value) = [.pointer (some ⟨L3.fb k, 0, none⟩), .int .i64 b.size, .nilFunc] by rw [H5.out.2.2.1]; rfl]; exact hown6) (by rw [H5.out.2.2.2.2]; exact hgrow6) (by rw [H5.out.2.2.2.2]; exact hat6) trivial (by show L5.live k; rw [H5.out.2.2.2.1]; exact HT.out.2.2.1); obtain ⟨ao7, cap7, hv7, _⟩ := row_slice hown6; clear hown6 hat6 hgrow6 c2S fzS; obtain ⟨c2a, fzb, L6, _, _, _, _, _, hpd6, hst6, _⟩ := St6; rw [H5.out.2.2.2.2] at c2a; subst hv7; have H6 := Lib.hid (And.intro hpd6 hst6); clear hpd6 hst6))
            go_ret
            exact ⟨by rw [Hap.out]; rfl, L6, by rw [Hap.out]; show PD _ d L6 (putD s3 k b); rw [Hput.out]; exact H6.out.1, (H4.out.2.trans H5.out.2.1).trans H6.out.2⟩
    · have j1 : decide ((0 : Int) < b.size) = false := decide_eq_false (by omega)
      have j2 : (b.size : Int) = 0 := by omega
      have hE : D = if r = true then ((⟨#[]⟩, 34, { s with n := s.n + 1 }) : ByteArray × Int × DS) else (⟨#[]⟩, 0, appD { s with n := s.n + 1 } name b) := by
        rcases hrest with ⟨h, _, _⟩ | ⟨_, h⟩
        · exact absurd h hb0
        · exact HD.out.symm.trans h
      have HE := Lib.hid hE
      clear hrest hE
      go_wp2_with fail
      go_quiet (fail)
      have HX : Hid (PD (w1.drewN nq) d L { s with n := s.n + 1 } ∧ PStep w (w1.drewN nq) L L ∧ (w1.drewN nq).cell? ⟨w.heap.size, 0, none⟩ = some (.string name)) := Lib.hid ⟨H1.out.1.keep ((Frm.refl _ _).drewN _), H1.out.2.keep ((Frm.refl _ _).drewN _), x0⟩
      generalize w1.drewN nq = wx at *
      clear c0 c3 x0 H1
      -- region 6 on, at wx
      cases r with
      | true =>
        have hd : D = (⟨#[]⟩, 34, { s with n := s.n + 1 }) := HE.out
        subst hd
        go_wp2_with fail
        go_ret
        exact ⟨rfl, L, HX.out.1, HX.out.2.1⟩
      | false =>
        have hd : D = (⟨#[]⟩, 0, appD { s with n := s.n + 1 } name b) := HE.out
        have HD0 := Lib.hid hd
        clear hd HE HD Hpre
        have c0 := HX.out.1.c0
        have x0 := HX.out.2.2
        have hlk := HX.out.1.look (HI.out.of_same rfl rfl rfl rfl) name
        unfold dirV at hlk
        cases hk : ofI s.dir name with
        | some k =>
          rw [show ofI ({ s with n := s.n + 1 } : DS).dir name = some k from hk] at hlk
          unfold ptrV at hlk
          have Hk := Lib.hid hk
          have hap : appD { s with n := s.n + 1 } name b = putD { s with n := s.n + 1 } k b := by unfold appD; rw [show ofI ({ s with n := s.n + 1 } : DS).dir name = some k from hk]
          have Hap := Lib.hid (HD0.out.trans (by rw [hap]))
          clear hk hap HD0
          go_wp2_with fail
          go_quiet (fail)
          have HT : Hid (PD (wx.drewN nq) d L { s with n := s.n + 1 } ∧ Inv { s with n := s.n + 1 } ∧ L.live k ∧ PStep w (wx.drewN nq) L L ∧ (wx.drewN nq).cell? ⟨w.heap.size, 0, none⟩ = some (.string name) ∧ ofI ({ s with n := s.n + 1 } : DS).dir name = some k) := Lib.hid ⟨HX.out.1.keep ((Frm.refl _ _).drewN _), HI.out.of_same rfl rfl rfl rfl, HX.out.1.live_of (s := { s with n := s.n + 1 }) Hk.out, HX.out.2.1.keep ((Frm.refl _ _).drewN _), x0, Hk.out⟩
          generalize wx.drewN nq = w3 at *
          have hal3 : ({ s with n := s.n + 1 } : DS).acts.length ≤ 100000 := by show s.acts.length ≤ _; omega
          have hfs3 : ∀ j, (getF { s with n := s.n + 1 } j).1.size ≤ 100000000000 := Hfs.out
          generalize ({ s with n := s.n + 1 } : DS) = s3 at *
          clear hlk c0 x0
          have hp0 : putD s3 k b = s3 := by unfold putD; rw [if_pos (by omega)]
          rw [hp0] at Hap
          clear hp0
          go_wp2_with fail
          go_ret
          exact ⟨by rw [Hap.out]; rfl, L, by rw [Hap.out]; exact HT.out.1, HT.out.2.2.2.1⟩
        | none =>
          rw [show ofI ({ s with n := s.n + 1 } : DS).dir name = none from hk] at hlk
          have Hk := Lib.hid hk
          have hap : appD { s with n := s.n + 1 } name b = putD (newD { s with n := s.n + 1 } name) s.files.length b := by unfold appD; rw [show ofI ({ s with n := s.n + 1 } : DS).dir name = none from hk]
          have Hap := Lib.hid (HD0.out.trans (by rw [hap]))
          clear hk hap HD0
          go_wp2_with fail
          go_quiet (fail)
          have HT0 : Hid (PD (wx.drewN nq) d L { s with n := s.n + 1 } ∧ PStep w (wx.drewN nq) L L ∧ (wx.drewN nq).cell? ⟨w.heap.size, 0, none⟩ = some (.string name)) := Lib.hid ⟨HX.out.1.keep ((Frm.refl _ _).drewN _), HX.out.2.1.keep ((Frm.refl _ _).drewN _), x0⟩
          have hwsz : w.heap.size < (wx.drewN nq).heap.size := World.block_lt_of_cell? _ _ x0
          generalize wx.drewN nq = wy at *
          clear hlk c0 x0 HX
          have hnew := new_turn HT0.out.1 (HI.out.of_same rfl rfl rfl rfl) HT0.out.2.1 (name := name) Hk.out Hfr.out.1 (Nat.le_refl _) hwsz HT0.out.2.2 (by show s.acts.length ≤ _; omega)
          have Hnew := Lib.hid hnew
          clear hnew
          go_wp2_with fail
          refine Hnew.out.mono ?_
          rintro e w3 ⟨rfl, L3, q1, q2, q3, q4, q5, q6⟩
          have HT : Hid (PD w3 d L3 (newD { s with n := s.n + 1 } name) ∧ Inv (newD { s with n := s.n + 1 } name) ∧ L3.live s.files.length ∧ PStep w w3 L L3 ∧ w3.cell? ⟨w.heap.size, 0, none⟩ = some (.string name) ∧ ofI (newD { s with n := s.n + 1 } name).dir name = some s.files.length) := Lib.hid ⟨q1, q2, q3, q4, q5, q6⟩
          have hal3 : (newD { s with n := s.n + 1 } name).acts.length ≤ 100000 := by show (s.acts ++ [_]).length ≤ _; rw [List.length_append]; simp; omega
          have hfs3 : ∀ j, (getF (newD { s with n := s.n + 1 } name) j).1.size ≤ 100000000000 := fun j => by rw [getF_newD]; exact Hfs.out j
          clear q1 q2 q3 q4 q5 q6 HT0 Hnew
          generalize s.files.length = k at *
          generalize newD { s with n := s.n + 1 } name = s3 at *
          have hp0 : putD s3 k b = s3 := by unfold putD; rw [if_pos (by omega)]
          rw [hp0] at Hap
          clear hp0
          go_wp2_with fail
          go_ret
          exact ⟨by rw [Hap.out]; rfl, L3, by rw [Hap.out]; exact HT.out.1, HT.out.2.2.2.1⟩
end Go.Proofs.Ytngickhakedonaa
