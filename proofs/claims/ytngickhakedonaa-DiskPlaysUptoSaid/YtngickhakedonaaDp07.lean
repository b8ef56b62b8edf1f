/- A text of a claim's proof: see the last text of the claim. -/
import Derived.Test.YtngickhakedonaaDp06
import Derived.Shelf.SlIter.Nil
import Derived.Shelf.SortM.Plain
import Derived.Shelf.SortM.SortNone
import Derived.Ground.GgzProg
import Derived.Ground.SlgmProg
import Derived.Test.YtngickhakedonaaProg
set_option linter.all false
namespace Go.Proofs.Ytngickhakedonaa
open Go.RowKit Go.Tk Go.Dk

variable {w w' : World} {d : Nat} {L : PL} {s : DS} {B : Nat → Prop}

set_option maxRecDepth 100000 in
set_option maxHeartbeats 1000000 in
theorem bclone_src (a : Addr) (n cap : Nat) (x : ByteArray) (w : World) (hn : n = x.size) (hcells : ∀ j u, (byC x)[j]? = some u → w.cell? (a.add j) = some u) (hx : x.size ≤ 1000000000000) :
    Calls Try.prog 57 #[.slice (some a) n cap] w fun e w' => ∃ v', e = .returned v' ∧ BV w' v' x ∧ (∀ b, bown v' = some b → w.heap.size ≤ b) ∧ Frm (fun _ => False) w w' := by
  subst hn
  obtain ⟨i0, hi0, hz0, hz1, hz2⟩ := info_parts info5
  have hnil := fun w => Lib.run_eql_slice_nil (P := Try.prog) w 45 5 (some a) x.size cap 0 0 Try.underlying45
  have hrow : (w.alloc (.cells #[] 5)).ownsRow 0 5 1 (.slice (some ⟨w.heap.size, 0, none⟩) 0 0) 0 [] := ⟨rfl, .inr ⟨w.heap.size, 0, #[], rfl, Nat.zero_le _, heap_alloc_new w _, Nat.le_refl _, Nat.zero_le _, rfl, rfl⟩⟩
  have Hrow := Lib.hid hrow
  have hcells' : ∀ j u, (byC x)[j]? = some u → (w.alloc (.cells #[] 5)).cell? (a.add j) = some u := by
    intro j u hu
    have h1 := hcells j u hu
    have h2 : (a.add j).block < w.heap.size := World.block_lt_of_cell? _ _ h1
    exact (((Frm.refl (fun _ => False) w).alloc _).cell h2 (fun h => h)).trans h1
  have Hc := Lib.hid hcells'
  have hmax : 0 + x.size ≤ maxLen := by unfold maxLen; omega
  have hby : (0 + x.size) * 1 ≤ 140737488355328 := by omega
  have Hm := Lib.hid (And.intro hmax (And.intro hby (show (byC x).length = x.size * 1 by rw [byC_len, Nat.mul_one])))
  clear hcells hcells' hrow hmax hby
  go_enter Try.func57, Try.ntmps57
  go_wp2_with (first | (at_builtin; refine wpList_append_own_at _ rfl _ _ 45 rfl 0 5 i0 _ 1 1 Try.underlying45 hi0 hz0 hz1 hz2 rfl (by decide) _ _ _ rfl Hrow.out a x.size cap (byC x) rfl Hm.out.2.2 Hc.out (byC_one x) Hm.out.1 Hm.out.2.1 (Nat.zero_le _) ?_; intro v' wa hown hgrow _ hat))
  go_ret
  rw [List.nil_append] at hown
  have hown2 : wa.ownsRow 0 5 1 v' x.size (byC x) := by rw [Nat.zero_add] at hown; exact hown
  refine ⟨v', rfl, hown2, fun b hb => ?_, ((Frm.refl _ w).alloc _).trans' (Frm.of_grown (S := fun b => b = w.heap.size) hgrow (fun k hk _ => by cases hk; rfl)) (fun b hb e => absurd e (Nat.ne_of_lt hb))⟩
  have hb2 : v'.ownBlock = some b := hb
  rcases hat with h1 | h1
  · rw [h1] at hb2; cases hb2; exact Nat.le_refl _
  · rw [h1] at hb2; cases hb2; simp

theorem bv_nil (w : World) : BV w (.slice none 0 0) ⟨#[]⟩ := World.ownsRow_nil _ _ _ _

set_option maxRecDepth 100000 in
set_option maxHeartbeats 2000000 in
theorem read_any (name too b : ByteArray) (w : World) (h : PD w d L s) (hi : Inv s) (hn : s.n ≤ 1000000) (hname : name.size ≤ 2305843009213693952) (hfs : ∀ k, (getF s k).1.size ≤ 100000000000) :
    Calls Try.prog 29 #[.pointer (some ⟨d, 0, none⟩), .string name] w fun e w' => ∃ v, e = .returned (.tuple #[v, .int .i64 (doD s 1 name too b).2.1]) ∧ BV w' v (doD s 1 name too b).1 ∧ (∀ g, bown v = some g → w.heap.size ≤ g) ∧ PD w' d L (doD s 1 name too b).2.2 ∧ PStep w w' L L := by
  obtain ⟨D, hD⟩ : ∃ D, doD s 1 name too b = D := ⟨_, rfl⟩
  rw [hD]
  have HD := Lib.hid hD
  have HI := Lib.hid hi
  have H := Lib.hid h
  have Hpre := Lib.hid (pre1 s name too b 1 (.inl rfl))
  have Hfr := Lib.hid (h.new_free (Nat.le_refl w.heap.size))
  have Hfs := Lib.hid hfs
  clear h hi hD hfs
  go_enter Try.func29, Try.ntmps29
  go_wp2_with fail
  refine (starts_any true _ [name] _ (H.out.keep ((Frm.refl _ w).alloc _)) HI.out hn (rw_one w name 9) (fun b hb => by cases hb; exact Hfr.out) (by simp) (by simpa using hname) (fun _ => by simp)).mono ?_
  rintro e w1 ⟨rfl, hp1, hf1⟩
  have S1 : PStep w w1 L L := (PStep.alloc w L _).trans (PStep.of_frm hf1 (fun b e => by rw [e, hp1.r0]; simp) rfl)
  rcases Hpre.out with ⟨er, he0, he1, he2⟩ | ⟨k, hk, hs, hrest⟩
  · have hd : D = (⟨#[]⟩, er, startsS s) := HD.out.symm.trans he2
    rw [he1]
    have t1 : (er != 0) = true := by simpa using he0
    have t2 : (er == 0) = false := by simpa using he0
    have H1 := Lib.hid (And.intro hp1 S1)
    subst hd
    clear he0 he1 he2 hp1 S1 hf1
    go_wp2_with fail
    go_ret2
    exact ⟨_, rfl, bv_nil _, (fun g hg => by cases hg), H1.out.1, H1.out.2⟩
  · rw [hs] at hp1
    rcases hrest with ⟨_, h1, h2⟩ | ⟨h1, h2⟩
    · have hd : D = (⟨#[]⟩, 34, { s with n := s.n + 1 }) := HD.out.symm.trans h2
      rw [h1]
      have H1 := Lib.hid (And.intro hp1 S1)
      subst hd
      clear h1 h2 hp1 S1 hf1 hs hk
      go_wp2_with fail
      go_ret2
      exact ⟨_, rfl, bv_nil _, (fun g hg => by cases hg), H1.out.1, H1.out.2⟩
    · have hd : D = ((getF s k).1, 0, { s with n := s.n + 1 }) := (HD.out.symm.trans h2).trans (by unfold outD; rw [if_pos rfl, hk]; rfl)
      rw [h1]
      have c0 := hp1.c0
      have hlk := hp1.look0 (HI.out.of_same rfl rfl rfl rfl) name
      unfold dirV at hlk
      rw [show ofI ({ s with n := s.n + 1 } : DS).dir name = some k from hk] at hlk
      unfold ptrV at hlk
      have hfile := hp1.files k (hp1.live_of (s := { s with n := s.n + 1 }) hk)
      have f0 := hfile.f0
      have Hbv := Lib.hid hfile.bv
      have H1 := Lib.hid (And.intro hp1 S1)
      subst hd
      clear h1 h2 hp1 S1 hf1 hs hk hfile
      go_wp2_with fail
      refine (bclone_any _ _ _ Hbv.out (by have := Hfs.out k; show (getF s k).1.size ≤ _; omega)).mono ?_
      rintro e w2 ⟨v', rfl, hbv, hnew, hf2⟩
      have H2 := Lib.hid (And.intro hbv (And.intro hnew hf2))
      obtain ⟨ao, cap, hv, _⟩ := hbv.slice
      subst hv
      clear hbv hnew hf2
      go_wp2_with fail
      go_ret2
      exact ⟨_, rfl, H2.out.1, fun g hg => Nat.le_trans H1.out.2.frm.size (H2.out.2.1 g hg), H1.out.1.keep H2.out.2.2, H1.out.2.keep H2.out.2.2⟩
end Go.Proofs.Ytngickhakedonaa

namespace Go.Proofs.Ytngickhakedonaa
open Go.RowKit Go.Tk Go.Dk

variable {w w' : World} {d : Nat} {L : PL} {s : DS} {B : Nat → Prop}

theorem preR (s : DS) (name : ByteArray) (p c : Int) :
    (∃ e : Int, e ≠ 0 ∧ startsE s true [name] = (false, e) ∧ readAtD s name p c = (⟨#[]⟩, e, startsS s)) ∨
    (∃ k, ofI s.dir name = some k ∧ startsS s = { s with n := s.n + 1 } ∧ ∃ r : Bool, startsE s true [name] = (r, 0) ∧ readAtD s name p c = if beyond p c (getF s k).1.size then ((⟨#[]⟩, 2, { s with n := s.n + 1 }) : ByteArray × Int × DS) else if r = true then (⟨#[]⟩, 34, { s with n := s.n + 1 }) else ((getF s k).1.extract p.toNat (p + c).toNat, 0, { s with n := s.n + 1 })) := by
  have hall : [name].all okName = okName name := by simp
  have hd0 : ([name] : List ByteArray).getD 0 ⟨#[]⟩ = name := rfl
  by_cases hg : gone s = true
  · exact .inl ⟨35, by decide, if_pos hg, by unfold readAtD startsS; rw [if_pos hg, if_pos hg]⟩
  have hS : startsS s = { s with n := s.n + 1 } := if_neg hg
  rw [hS]
  cases ho : okName name with
  | false => exact .inl ⟨30, by decide, by unfold startsE; rw [if_neg hg, hall, if_pos ho], by unfold readAtD; rw [if_neg hg, if_pos ho]⟩
  | true =>
    have h1 : ¬ ([name].all okName = false) := by rw [hall, ho]; simp
    have h2 : ¬ (okName name = false) := by rw [ho]; simp
    cases hf : ofI s.dir name with
    | none => exact .inl ⟨32, by decide, by unfold startsE; rw [if_neg hg, if_neg h1, if_pos ⟨rfl, by rw [hd0]; exact hf⟩], by unfold readAtD; rw [if_neg hg, if_neg h2, hf]⟩
    | some k =>
      have h3 : ¬ (true = true ∧ ofI s.dir (([name] : List ByteArray).getD 0 ⟨#[]⟩) = none) := by rw [hd0, hf]; simp
      refine .inr ⟨k, rfl, rfl, decide ((s.n : Int) ∈ s.fails), by unfold startsE; rw [if_neg hg, if_neg h1, if_neg h3], ?_⟩
      unfold readAtD
      rw [if_neg hg, if_neg h2, hf]
      simp only [decide_eq_true_eq]

theorem byC_sub (x : ByteArray) (p q : Nat) (hp : p ≤ q) (hq : q ≤ x.size) : byC (x.extract p q) = ((byC x).drop p).take (q - p) := by
  unfold byC
  rw [← List.map_drop, ← List.map_take]
  congr 1
  rw [ByteArray.data_extract, Array.toList_extract]

set_option maxRecDepth 100000 in
set_option maxHeartbeats 2000000 in
theorem readAt_any (name : ByteArray) (p c : Int) (w : World) (h : PD w d L s) (hi : Inv s) (hn : s.n ≤ 1000000) (hname : name.size ≤ 2305843009213693952) (hfs : ∀ k, (getF s k).1.size ≤ 100000000000) (hp : -9223372036854775808 ≤ p) (hp' : p ≤ 9223372036854775807) (hc : -9223372036854775808 ≤ c) (hc' : c ≤ 9223372036854775807) :
    Calls Try.prog 33 #[.pointer (some ⟨d, 0, none⟩), .string name, .int .i64 p, .int .i64 c] w fun e w' => ∃ v, e = .returned (.tuple #[v, .int .i64 (readAtD s name p c).2.1]) ∧ BV w' v (readAtD s name p c).1 ∧ (∀ g, bown v = some g → w.heap.size ≤ g) ∧ PD w' d L (readAtD s name p c).2.2 ∧ PStep w w' L L := by
  obtain ⟨D, hD⟩ : ∃ D, readAtD s name p c = D := ⟨_, rfl⟩
  rw [hD]
  have HD := Lib.hid hD
  have HI := Lib.hid hi
  have H := Lib.hid h
  have Hpre := Lib.hid (preR s name p c)
  have Hfr := Lib.hid (h.new_free (Nat.le_refl w.heap.size))
  have Hfs := Lib.hid hfs
  clear h hi hD hfs
  go_enter Try.func33, Try.ntmps33
  go_wp2_with fail
  refine (starts_any true _ [name] _ (H.out.keep ((Frm.refl _ w).alloc _)) HI.out hn (rw_one w name 9) (fun b hb => by cases hb; exact Hfr.out) (by simp) (by simpa using hname) (fun _ => by simp)).mono ?_
  rintro e w1 ⟨rfl, hp1, hf1⟩
  have S1 : PStep w w1 L L := (PStep.alloc w L _).trans (PStep.of_frm hf1 (fun b e => by rw [e, hp1.r0]; simp) rfl)
  rcases Hpre.out with ⟨er, he0, he1, he2⟩ | ⟨k, hk, hs, r, he1, he2⟩
  · have hd : D = (⟨#[]⟩, er, startsS s) := HD.out.symm.trans he2
    rw [he1]
    have t1 : (er != 0) = true := by simpa using he0
    have t2 : (er == 0) = false := by simpa using he0
    have H1 := Lib.hid (And.intro hp1 S1)
    subst hd
    clear he0 he1 he2 hp1 S1 hf1
    go_wp2_with fail
    go_ret2
    exact ⟨_, rfl, bv_nil _, (fun g hg => by cases hg), H1.out.1, H1.out.2⟩
  · rw [hs] at hp1
    have hd := HD.out.symm.trans he2
    rw [he1]
    have c0 := hp1.c0
    have hlk := hp1.look0 (HI.out.of_same rfl rfl rfl rfl) name
    unfold dirV at hlk
    rw [show ofI ({ s with n := s.n + 1 } : DS).dir name = some k from hk] at hlk
    unfold ptrV at hlk
    have hfile := hp1.files k (hp1.live_of (s := { s with n := s.n + 1 }) hk)
    obtain ⟨ao, cap, f0, hvb, hle⟩ := hfile.bytes
    have Hbv := Lib.hid (And.intro hfile.bv hvb)
    have H1 := Lib.hid (And.intro hp1 S1)
    have hsz := Hfs.out k
    rw [show getF ({ s with n := s.n + 1 } : DS) k = getF s k from rfl] at f0 hle hvb Hbv
    generalize hX : (getF s k).1 = X at *
    have Hd := Lib.hid hd
    have HX := Lib.hid hX
    clear he1 he2 hp1 S1 hf1 hs hk hfile hd hX hvb
    by_cases q1 : p < 0
    · have t1 : p < 0 := q1
      have hd2 := Hd.out.trans (if_pos (.inl q1))
      subst hd2
      go_wp2_with fail
      go_ret2
      exact ⟨_, rfl, bv_nil _, (fun g hg => by cases hg), H1.out.1, H1.out.2⟩
    have t1 : decide (p < 0) = false := decide_eq_false q1
    by_cases q2 : c < 0
    · have t2 : c < 0 := q2
      have hd2 := Hd.out.trans (if_pos (.inr (.inl q2)))
      subst hd2
      go_wp2_with fail
      go_ret2
      exact ⟨_, rfl, bv_nil _, (fun g hg => by cases hg), H1.out.1, H1.out.2⟩
    have t2 : decide (c < 0) = false := decide_eq_false q2
    by_cases q3 : (X.size : Int) < p
    · have t3 : (X.size : Int) < p := q3
      have hd2 := Hd.out.trans (if_pos (.inr (.inr (.inl q3))))
      subst hd2
      go_wp2_with fail
      go_ret2
      exact ⟨_, rfl, bv_nil _, (fun g hg => by cases hg), H1.out.1, H1.out.2⟩
    have t3 : decide ((X.size : Int) < p) = false := decide_eq_false q3
    have r1 : -9223372036854775808 ≤ (X.size : Int) - p := by omega
    have r2 : (X.size : Int) - p ≤ 9223372036854775807 := by omega
    by_cases q4 : (X.size : Int) - p < c
    · have t4 : (X.size : Int) - p < c := q4
      have hd2 := Hd.out.trans (if_pos (.inr (.inr (.inr q4))))
      subst hd2
      go_wp2_with fail
      go_ret2
      exact ⟨_, rfl, bv_nil _, (fun g hg => by cases hg), H1.out.1, H1.out.2⟩
    have t4 : decide ((X.size : Int) - p < c) = false := decide_eq_false q4
    have hnb : ¬ beyond p c X.size := by unfold beyond; omega
    have hd3 := Hd.out.trans (if_neg hnb)
    have Hd3 := Lib.hid hd3
    clear hd3 hnb Hd
    obtain ⟨pn, rfl⟩ := Int.eq_ofNat_of_zero_le (show 0 ≤ p by omega)
    obtain ⟨cn, rfl⟩ := Int.eq_ofNat_of_zero_le (show 0 ≤ c by omega)
    have u3 : pn + cn ≤ X.size := by omega
    have u4 : (pn : Int) + cn ≤ cap := by omega
    have u5 : (0 : Int) ≤ pn := by omega
    have u6 : (pn : Int) ≤ pn + cn := by omega
    clear q1 q2 q3 q4
    cases r with
    | true =>
      have hd2 := Hd3.out.trans (if_pos rfl)
      subst hd2
      go_wp2_with fail
      go_ret2
      exact ⟨_, rfl, bv_nil _, (fun g hg => by cases hg), H1.out.1, H1.out.2⟩
    | false =>
      have hd2 := Hd3.out.trans (if_neg (by simp))
      have e1 : ((pn : Int)).toNat = pn := by simp
      have e2 : ((pn : Int) + (cn : Int)).toNat = pn + cn := by omega
      rw [e1, e2] at hd2
      have hxs : (X.extract pn (pn + cn)).size = cn := by rw [ByteArray.size_extract]; omega
      have Hxs := Lib.hid (And.intro hxs hd2)
      clear e1 e2 hd2 hxs Hd3 HD
      have fin : ∀ (v' : Value) (w2 : World), BV w2 v' (X.extract pn (pn + cn)) → (∀ b, bown v' = some b → w1.heap.size ≤ b) → Frm (fun _ => False) w1 w2 → BV w2 v' D.1 ∧ (∀ g, bown v' = some g → w.heap.size ≤ g) ∧ PD w2 d L D.2.2 ∧ PStep w w2 L L := by
        intro v' w2 g1 g2 g3
        rw [Hxs.out.2]
        exact ⟨g1, fun g hg => Nat.le_trans H1.out.2.frm.size (g2 g hg), H1.out.1.keep g3, H1.out.2.keep g3⟩
      have Fin := Lib.hid fin
      clear fin
      have hsrc : ∀ a, ao = some a → a.off = 0 ∧ a.spot = none := by
        rintro a rfl
        rcases Hbv.out.1.2 with ⟨e, _⟩ | ⟨g, _, _, e, _⟩
        · rw [Hbv.out.2] at e; injection e with e; cases e
        · rw [Hbv.out.2] at e; injection e with e; cases e; exact ⟨rfl, rfl⟩
      have Hsrc := Lib.hid hsrc
      clear hsrc
      cases ao with
      | none =>
        have hz : X.size = 0 ∧ cap = 0 := by
          rcases Hbv.out.1.2 with ⟨e, h0⟩ | ⟨g, _, _, e, _⟩
          · rw [Hbv.out.2] at e; injection e with _ _ e3; exact ⟨h0, e3⟩
          · rw [Hbv.out.2] at e; injection e with e; cases e
        obtain rfl : pn = 0 := by omega
        obtain rfl : cn = 0 := by omega
        obtain rfl : cap = 0 := hz.2
        have hxe : X.extract 0 (0 + 0) = ⟨#[]⟩ := by
          have := Hxs.out.1
          exact ByteArray.ext (Array.eq_empty_of_size_eq_zero this)
        have Hxe := Lib.hid hxe
        clear hz hxe
        go_wp2_with fail
        refine (bclone_any _ ⟨#[]⟩ w1 (bv_nil w1) (by decide)).mono ?_
        rintro e w2 ⟨v', rfl, hbv, hnew, hf2⟩
        have hF := Fin.out v' w2 (by rw [Hxe.out]; exact hbv) hnew hf2
        have HF := Lib.hid hF
        obtain ⟨ao4, cap4, hv, _⟩ := hbv.slice
        subst hv
        clear hbv hnew hf2 hF
        go_wp2_with fail
        go_ret2
        exact ⟨_, by rw [Hxs.out.2]; rfl, HF.out⟩
      | some a =>
        have hab : ∀ j u, (byC (X.extract pn (pn + cn)))[j]? = some u → w1.cell? ((a.add pn).add j) = some u := by
          intro j u hu
          rw [byC_sub X pn (pn + cn) (by omega) u3] at hu
          have hj : j < cn := by
            have := (List.getElem?_eq_some_iff.1 hu).1
            rw [List.length_take] at this; omega
          rw [List.getElem?_take_of_lt (by omega), List.getElem?_drop] at hu
          have := bv_cells Hbv.out.1 Hbv.out.2 (pn + j) u hu
          obtain ⟨h1, h2⟩ := Hsrc.out a rfl
          obtain ⟨g, o, sp⟩ := a
          simp only at h1 h2
          subst h1 h2
          rw [Addr.add_lit, Nat.zero_add] at this
          rw [Addr.add_lit, Addr.add_lit, Nat.zero_add]
          exact this
        have Hab := Lib.hid hab
        clear hab
        by_cases hcp : cap = pn
        · obtain rfl : cn = 0 := by omega
          subst hcp
          go_wp2_with fail
          refine (bclone_src a 0 _ (X.extract cap (cap + 0)) w1 (by rw [Hxs.out.1]) (fun j u hu => by have := byC_len (X.extract cap (cap + 0)); rw [Hxs.out.1] at this; rw [List.eq_nil_of_length_eq_zero this] at hu; cases hu) (by rw [Hxs.out.1]; omega)).mono ?_
          rintro e w2 ⟨v', rfl, hbv, hnew, hf2⟩
          have HF := Lib.hid (Fin.out v' w2 hbv hnew hf2)
          obtain ⟨ao4, cap4, hv, _⟩ := hbv.slice
          rw [Hxs.out.1] at hv
          subst hv
          clear hbv hnew hf2
          go_wp2_with fail
          go_ret2
          exact ⟨_, by rw [Hxs.out.2]; rfl, HF.out⟩
        · go_wp2_with fail
          refine (bclone_src (a.add pn) cn _ (X.extract pn (pn + cn)) w1 (by rw [Hxs.out.1]) Hab.out (by rw [Hxs.out.1]; omega)).mono ?_
          rintro e w2 ⟨v', rfl, hbv, hnew, hf2⟩
          have HF := Lib.hid (Fin.out v' w2 hbv hnew hf2)
          obtain ⟨ao4, cap4, hv, _⟩ := hbv.slice
          rw [Hxs.out.1] at hv
          subst hv
          clear hbv hnew hf2
          go_wp2_with fail
          go_ret2
          exact ⟨_, by rw [Hxs.out.2]; rfl, HF.out⟩
end Go.Proofs.Ytngickhakedonaa

namespace Go.Proofs.Ytngickhakedonaa
open Go.RowKit Go.Tk Go.Dk

variable {w w' : World} {d : Nat} {L : PL} {s : DS} {B : Nat → Prop}

theorem byC_get (x : ByteArray) (i : Nat) (h : i < x.size) : (byC x)[i]? = some (.int .u8 (x[i].toNat : Int)) := by
  unfold byC
  rw [List.getElem?_map]
  have : x.data.toList[i]? = some x[i] := by
    rw [Array.getElem?_toList]
    exact Array.getElem?_eq_getElem h
  rw [this]; rfl
theorem byC_xor (x : ByteArray) (i v : Nat) (hv : v < 256) (h : i < x.size) : byC (xorB x i v) = (byC x).set i (.int .u8 ((x[i].toNat ^^^ v : Nat) : Int)) := by
  apply List.ext_getElem?
  intro j
  rw [List.getElem?_set, byC_len]
  rcases Nat.lt_or_ge j x.size with hj | hj
  · have hj' : j < (xorB x i v).size := by rw [xorB_size]; exact hj
    rw [byC_get _ _ hj', byC_get _ _ hj, xorB_at x i v j hv hj hj']
    by_cases e : i = j
    · subst e; simp [h]
    · simp [e]
  · rw [List.getElem?_eq_none (by rw [byC_len, xorB_size]; exact hj), List.getElem?_eq_none (by rw [byC_len]; exact hj)]
    by_cases e : i = j
    · omega
    · simp [e]

theorem PD.file_byte (h : PD w d L s) {k : Nat} (hk : L.live k) {g cap : Nat} (hv : L.vb k = .slice (some ⟨g, 0, none⟩) (getF s k).1.size cap) (i v : Nat) (hv2 : v < 256) (hi : i < (getF s k).1.size) :
    ∃ L', L'.live = L.live ∧ L'.fb = L.fb ∧ PD (w.setCell ⟨g, i, none⟩ (.int .u8 (((getF s k).1[i].toNat ^^^ v : Nat) : Int))) d L' { s with files := s.files.set k (xorB (getF s k).1 i v, (getF s k).2) } ∧ PStep w (w.setCell ⟨g, i, none⟩ (.int .u8 (((getF s k).1[i].toNat ^^^ v : Nat) : Int))) L L' := by
  have hf := h.files k hk
  have hown : bown (L.vb k) = some g := by rw [hv]; rfl
  have hF : Frm (fun b => b = L.fb k ∨ bown (L.vb k) = some b) w (w.setCell ⟨g, i, none⟩ (.int .u8 (((getF s k).1[i].toNat ^^^ v : Nat) : Int))) := (Frm.refl _ w).setCell (p := ⟨g, i, none⟩) (fun _ => .inr hown) _
  have hne : g ≠ L.fb k := fun e => by have := hf.br g hown; rw [e, hf.fr] at this; cases this
  obtain ⟨L', e1, e2, e3, _, _, _, hpd, hnew⟩ := h.file_step hk hF (v := L.vb k) (f := (xorB (getF s k).1 i v, (getF s k).2)) ((set_blk _ _ _ _ _ _ hne).trans hf.f0) ((set_blk _ _ _ _ _ _ hne).trans hf.f1) (hf.fz.set _ _)
    (by
      have hb := hf.bv
      unfold BV at hb ⊢
      rw [xorB_size, byC_xor _ i v hv2 hi]
      rw [hv] at hb ⊢
      exact row_set hb i _) (fun g hg => .inl hg)
  refine ⟨L', e2, e3, hpd, hF.mono (fun b _ hb => ?_), hnew⟩
  rcases hb with rfl | hb
  · rw [hf.fr]; simp
  · rw [hf.br b hb]; simp

set_option maxRecDepth 100000 in
set_option maxHeartbeats 1000000 in
theorem turnb_any (name : ByteArray) (p : Int) (v : Nat) (hv : v < 256) (w : World) (h : PD w d L s) (hi : Inv s) (hfs : ∀ k, (getF s k).1.size ≤ 100000000000) (hp : -9223372036854775808 ≤ p) (hp' : p ≤ 9223372036854775807) :
    Calls Try.prog 37 #[.pointer (some ⟨d, 0, none⟩), .string name, .int .i64 p, .int .u8 v] w fun e w' => e = .returned (.int .i64 (turnD s name p v).1) ∧ ∃ L', PD w' d L' (turnD s name p v).2 ∧ PStep w w' L L' := by
  obtain ⟨D, hD⟩ : ∃ D, turnD s name p v = D := ⟨_, rfl⟩
  rw [hD]
  have HD := Lib.hid hD
  have HI := Lib.hid hi
  have H := Lib.hid h
  have Hfs := Lib.hid hfs
  have c0 := h.c0
  have hlk := h.look0 hi name
  unfold dirV at hlk
  clear h hi hD hfs
  by_cases q1 : p < 0
  · have t1 : p < 0 := q1
    have hd : D = (2, s) := HD.out.symm.trans (by unfold turnD; cases ofI s.dir name <;> first | rfl | exact if_pos (.inl q1))
    subst hd
    clear c0 hlk
    go_enter Try.func37, Try.ntmps37
    go_wp2_with fail
    go_ret
    exact ⟨rfl, L, H.out, PStep.refl _ _⟩
  have t1 : decide (p < 0) = false := decide_eq_false q1
  cases hk : ofI s.dir name with
  | none =>
    have hd : D = (2, s) := HD.out.symm.trans (by unfold turnD; rw [hk])
    have hsz : sizeD s name = -1 := by simp [sizeD, hk]
    subst hd
    have t2 : (-1 : Int) ≤ p := by omega
    clear c0 hlk hk
    go_enter Try.func37, Try.ntmps37
    go_wp2_with fail
    refine (size_any name w H.out HI.out).mono ?_
    rintro e w' ⟨rfl, rfl⟩
    rw [hsz]
    clear hsz
    go_wp2_with fail
    go_ret
    exact ⟨rfl, L, H.out, PStep.refl _ _⟩
  | some k =>
    rw [hk] at hlk
    unfold ptrV at hlk
    have hsz : sizeD s name = (getF s k).1.size := by simp [sizeD, hk]
    have hd0 : D = (if p < 0 ∨ ((getF s k).1.size : Int) ≤ p then (2, s) else (0, { s with files := s.files.set k (xorB (getF s k).1 p.toNat v, (getF s k).2) })) := HD.out.symm.trans (by unfold turnD; rw [hk])
    have Hd0 := Lib.hid hd0
    have hlv := H.out.live_of hk
    have hfile := H.out.files k hlv
    obtain ⟨ao, cap, f0, hvb, hle⟩ := hfile.bytes
    have Hsz := Lib.hid hsz
    by_cases q2 : ((getF s k).1.size : Int) ≤ p
    · have t2 : ((getF s k).1.size : Int) ≤ p := q2
      have hd : D = (2, s) := Hd0.out.trans (if_pos (.inr q2))
      subst hd
      clear c0 hlk hk hsz hd0 hfile f0 hvb
      go_enter Try.func37, Try.ntmps37
      go_wp2_with fail
      refine (size_any name w H.out HI.out).mono ?_
      rintro e w' ⟨rfl, rfl⟩
      rw [Hsz.out]
      go_wp2_with fail
      go_ret
      exact ⟨rfl, L, H.out, PStep.refl _ _⟩
    · obtain ⟨q, rfl⟩ := Int.eq_ofNat_of_zero_le (show 0 ≤ p by omega)
      have hq : q < (getF s k).1.size := by omega
      have t2 : decide (((getF s k).1.size : Int) ≤ q) = false := decide_eq_false q2
      have hd : D = (0, { s with files := s.files.set k (xorB (getF s k).1 q v, (getF s k).2) }) := Hd0.out.trans (if_neg (by omega))
      obtain ⟨g, cap0, hvb2, _⟩ := row_slice_at hfile.bv (by omega)
      have hao : ao = some ⟨g, 0, none⟩ := by rw [hvb] at hvb2; injection hvb2
      subst hao
      have hcl := bv_cells hfile.bv hvb q _ (byC_get _ q hq)
      rw [Addr.add_lit, Nat.zero_add] at hcl
      have fzg := (row_fz (by have := hfile.bv; unfold BV at this; rw [hvb] at this; exact this) rfl).frozen
      have hnew := H.out.file_byte hlv hvb q v hv hq
      have Hnew := Lib.hid hnew
      have hxor := u8_xor_nat (getF s k).1[q].toNat v (UInt8.toNat_lt _) hv
      have i1 : (0 : Int) ≤ q := by omega
      have i2 : (q : Int) < (getF s k).1.size := by omega
      have Hvb := Lib.hid hvb
      subst hd
      generalize hX : (getF s k).1 = X at *
      clear hk hsz hd0 hfile hvb hvb2 hnew q1 q2 hX
      go_enter Try.func37, Try.ntmps37
      go_wp2_with fail
      refine (size_any name w H.out HI.out).mono ?_
      rintro e w' ⟨rfl, rfl⟩
      rw [Hsz.out]
      go_wp2_with fail
      go_ret
      obtain ⟨L', _, _, hpd, hst⟩ := Hnew.out
      exact ⟨rfl, L', hpd, hst⟩
end Go.Proofs.Ytngickhakedonaa

namespace Go.Proofs.Ytngickhakedonaa
open Go.RowKit Go.Tk Go.Dk

variable {w w' : World} {d : Nat} {L : PL} {s : DS} {B : Nat → Prop}

def updF (n : Int) (c : Nat) (l : List (Int × Nat)) : List (Int × Nat) := if l.any (fun p => decide (p.1 = n)) then l.map (fun p => if p.1 = n then (n, c) else p) else l ++ [(n, c)]
theorem upd_flE (l : List (Int × Nat)) (n : Int) (c : Nat) : upd n (.int .i64 (c : Int)) (l.map flE) = (updF n c l).map flE := by
  unfold upd updF
  have e : ((l.map flE).any fun p => decide (p.1 = n)) = l.any fun p => decide (p.1 = n) := by rw [List.any_map]; rfl
  rw [e]
  split
  · rw [List.map_map, List.map_map]
    refine List.map_congr_left fun x _ => ?_
    show (if x.1 = n then _ else _) = flE (if x.1 = n then _ else _)
    by_cases h : x.1 = n
    · rw [if_pos h, if_pos h]; rfl
    · rw [if_neg h, if_neg h]
  · rw [List.map_append]; rfl
theorem mem_updF (n : Int) (c : Nat) (l : List (Int × Nat)) (m : Int) (e : Nat) : (m, e) ∈ updF n c l ↔ (m = n ∧ e = c) ∨ (m ≠ n ∧ (m, e) ∈ l) := by
  unfold updF
  split
  · rename_i h
    rw [List.mem_map]
    constructor
    · rintro ⟨p, hp, he⟩
      by_cases q : p.1 = n
      · rw [if_pos q] at he; injection he with h1 h2; exact .inl ⟨h1.symm, h2.symm⟩
      · rw [if_neg q] at he; rw [he] at hp q; exact .inr ⟨q, hp⟩
    · rintro (⟨rfl, rfl⟩ | ⟨h1, h2⟩)
      · obtain ⟨p, hp, hq⟩ := List.any_eq_true.1 h
        exact ⟨p, hp, if_pos (by simpa using hq)⟩
      · exact ⟨(m, e), h2, if_neg h1⟩
  · rename_i h
    have hno : ∀ p ∈ l, p.1 ≠ n := fun p hp q => h (List.any_eq_true.2 ⟨p, hp, by simpa using q⟩)
    rw [List.mem_append]
    simp only [List.mem_singleton, Prod.mk.injEq]
    constructor
    · rintro (h1 | h1)
      · exact .inr ⟨hno _ h1, h1⟩
      · exact .inl h1
    · rintro (h1 | h1)
      · exact .inr h1
      · exact .inl h1.2

theorem PD.fails_step (h : PD w d L s) (hf : Frm (· = L.bf) w w') {n : Int} {c : Nat} (hm : GMap i64Ky w' L.bf ((updF n (c + 1) L.fl).map flE)) (hc : c ≤ s.fails.length) : PD w' d { L with fl := updF n (c + 1) L.fl } { s with fails := s.fails ++ [n] } := by
  have hS : ∀ b r, L.role b = r → r ≠ .fails → ¬ b = L.bf := fun b r hb hr e => hr (by rw [← hb, e, h.rf])
  have hlt := h.rb d (by rw [h.r0]; simp)
  have cc : ∀ o, w'.cell? ⟨d, o, none⟩ = w.cell? ⟨d, o, none⟩ := fun o => hf.cell (p := ⟨d, o, none⟩) hlt (hS d _ h.r0 (by simp))
  exact { h with
    c0 := (cc 0).trans h.c0, c1 := (cc 1).trans h.c1, c2 := (cc 2).trans h.c2, c3 := (cc 3).trans h.c3, c4 := (cc 4).trans h.c4, c5 := (cc 5).trans h.c5, c6 := (cc 6).trans h.c6, c7 := (cc 7).trans h.c7
    fz := h.fz.frm hf (hS d _ h.r0 (by simp))
    dirm := h.dirm.frm hf (hS _ _ h.rd (by simp))
    surem := h.surem.frm hf (hS _ _ h.rs (by simp))
    failsm := hm
    fp := fun m => by
      show m ∈ s.fails ++ [n] ↔ ∃ c', (m, c') ∈ updF n (c + 1) L.fl
      constructor
      · intro hm
        by_cases e : m = n
        · exact ⟨c + 1, (mem_updF _ _ _ _ _).2 (.inl ⟨e, rfl⟩)⟩
        · have : m ∈ s.fails := by
            rcases List.mem_append.1 hm with h1 | h1
            · exact h1
            · simp at h1; exact absurd h1 e
          obtain ⟨c', hc'⟩ := (h.fp m).1 this
          exact ⟨c', (mem_updF _ _ _ _ _).2 (.inr ⟨e, hc'⟩)⟩
      · rintro ⟨c', hc'⟩
        rcases (mem_updF _ _ _ _ _).1 hc' with ⟨e, _⟩ | ⟨_, h1⟩
        · simp [e]
        · exact List.mem_append_left _ ((h.fp m).2 ⟨c', h1⟩)
    fc := fun x hx => by
      show 1 ≤ x.2 ∧ x.2 ≤ (s.fails ++ [n]).length
      rw [List.length_append]
      rcases (mem_updF _ _ _ x.1 x.2).1 hx with ⟨_, e⟩ | ⟨_, h1⟩
      · rw [e]; exact ⟨by omega, by simp; omega⟩
      · have := h.fc x h1; exact ⟨this.1, by simp; omega⟩
    loose := row_frm h.loose hf (fun b hb => hS b _ (h.rl b hb) (by simp))
    caps := fun p hp => (h.caps p hp).frm hf (fun b hb => hS b _ hb (by simp))
    files := fun k hk =>
      have q := (h.files k hk).frm hf (fun b hb => hS b _ hb (by simp)) (fun b hb => hS b _ hb (by simp))
      ⟨q.f0, q.f1, q.fz, q.fr, q.bv, q.br⟩
    rb := fun b hb => Nat.lt_of_lt_of_le (h.rb b hb) hf.size }

set_option maxRecDepth 100000 in
set_option maxHeartbeats 1000000 in
theorem failAt_any (v : Value) (l : List Int) (w : World) (h : PD w d L s) (hv : Rw inC 1 w v l) (hvf : ∀ b, v.ownBlock = some b → L.role b = .free) (hl : l.length ≤ 1000) (hfl : s.fails.length ≤ 100000) (hlb : ∀ x ∈ l, -9223372036854775808 ≤ x ∧ x ≤ 9223372036854775807) :
    Calls Try.prog 40 #[.pointer (some ⟨d, 0, none⟩), v] w fun e w' => e = .returned (.tuple #[]) ∧ ∃ L', PD w' d L' { s with fails := s.fails ++ l } ∧ PStep w w' L L' := by
  obtain ⟨ao, cap, rfl, hle, _, hblk, hc⟩ := hv
  have H := Lib.hid h
  have Hvf := Lib.hid (And.intro hvf (And.intro hblk hlb))
  have hrf := h.rf
  have hbflt := h.rb L.bf (by rw [h.rf]; simp)
  have Hbf := Lib.hid (And.intro hrf hbflt)
  clear h hvf hblk hrf hbflt hlb
  go_enter Try.func40, Try.ntmps40
  go_wp2_with fail
  go_loopw [5, 8] (fun _ i wr => ∃ k : Nat, k ≤ l.length ∧ i = .int .i64 k ∧ Hid (∃ L', PD wr d L' { s with fails := s.fails ++ l.take k } ∧ L'.bf = L.bf ∧ L'.role = L.role ∧ Frm (· = L.bf) w wr)) (fun _ i _ => l.length - (intOf i).toNat)
  case atStart => exact ⟨0, Nat.zero_le _, rfl, Lib.hid ⟨L, by simpa using H.out, rfl, rfl, Frm.refl _ _⟩⟩
  case round =>
    obtain ⟨k, hk, rfl, hR⟩ := hrel
    by_cases hlt : k < l.length
    · obtain ⟨b, rfl, c1⟩ := hc k hlt
      obtain ⟨L1, hp1, hbf1, hro1, hf1⟩ := hR.out
      have hne : ¬ b = L.bf := fun e => by have := Hvf.out.1 b rfl; rw [e, Hbf.out.1] at this; cases this
      have r1 := (hf1.cell (p := ⟨b, k * 1, none⟩) (World.block_lt_of_cell? _ _ (c1 0 _ rfl)) hne).trans (c1 0 _ rfl)
      rw [Nat.mul_one] at r1
      have Hc := Lib.hid hc
      clear hc c1
      have i1 : (0 : Int) ≤ k := by omega
      have i2 : (k : Int) < l.length := by omega
      have htk : l.take (k + 1) = l.take k ++ [l[k]] := List.take_succ_eq_append_getElem hlt
      obtain ⟨x, hx⟩ : ∃ x, x = l[k] := ⟨_, rfl⟩
      rw [← hx] at r1 htk
      have c7 := hp1.c7
      have fz := hp1.fz.frozen
      obtain ⟨c, hlk0, _, hcc⟩ := hp1.flook x
      have hlk : (Instr.lookup 76 (.map (some L1.bf)) (.int .i64 x) false).run Try.prog wr = .ok (.int .i64 c) wr := hlk0 0
      have hcb : c ≤ 200000 := by
        have : (s.fails ++ l.take k).length ≤ 200000 := by rw [List.length_append, List.length_take]; omega
        exact Nat.le_trans hcc this
      have H1 := Lib.hid (And.intro hp1 (And.intro hbf1 (And.intro hro1 (And.intro hf1 hcc))))
      have Hk := Lib.hid htk
      have Hx := Lib.hid hx
      have hG := hp1.failsm
      have HG := Lib.hid hG
      have j2 : (c : Int) ≤ 200000 := by omega
      have j3 : (0 : Int) ≤ c := by omega
      clear hp1 hbf1 hro1 hf1 hcc htk hx hlk0 hG hR
      go_wp2_with (first | (refine wpList_update_g HG.out Try.underlying76 Try.underlying3 x (.int .i64 ((c : Int) + 1)) rfl _ _ _ rfl rfl rfl rfl ?_; intro w2 hg2 hf2; have HG2 := Lib.hid (And.intro hg2 hf2); clear hg2 hf2))
      have hst := H1.out.1.fails_step (n := x) (c := c) HG2.out.2 (by rw [← upd_flE]; exact HG2.out.1) H1.out.2.2.2.2
      refine ⟨⟨k + 1, by omega, by go_num, Lib.hid ⟨{ L1 with fl := updF x (c + 1) L1.fl }, by rw [Hk.out, ← List.append_assoc]; exact hst, H1.out.2.1, H1.out.2.2.1, H1.out.2.2.2.1.trans (by rw [← H1.out.2.1]; exact HG2.out.2)⟩⟩, by simp [intOf]; omega⟩
    · have hlt' : decide ((k : Int) < l.length) = false := by simp; omega
      have e : l.take k = l := List.take_of_length_le (by omega)
      rw [e] at hR
      clear e
      go_wp2_with fail
      go_end0
      obtain ⟨L1, hp1, hbf1, hro1, hf1⟩ := hR.out
      exact ⟨rfl, L1, hp1, PStep.of_frm hf1 (fun b e => by rw [e, Hbf.out.1]; simp) hro1⟩
end Go.Proofs.Ytngickhakedonaa

namespace Go.Proofs.Ytngickhakedonaa
open Go.RowKit Go.Tk Go.Dk

variable {w w' : World} {d : Nat} {L : PL} {s : DS} {B : Nat → Prop}

open Classical in
/-- a disk that was just made -/
noncomputable def newL (n : Nat) : PL := { role := fun b => if b = n then .dir else if b = n + 1 then .sure else if b = n + 2 then .fails else if b = n + 3 then .head else .free, live := fun _ => False, fb := fun _ => 0, vb := fun _ => .slice none 0 0, bd := n, bs := n + 1, bf := n + 2, vl := .slice none 0 0, dl := [], sl := [], fl := [], pa := [] }
theorem newL_role (n b : Nat) (h : (newL n).role b ≠ .free) : n ≤ b ∧ b < n + 4 := by
  unfold newL at h
  simp only at h
  split at h
  · omega
  split at h
  · omega
  split at h
  · omega
  split at h
  · omega
  · exact absurd rfl h

theorem newL_r0 (n : Nat) : (newL n).role n = .dir := if_pos rfl
theorem newL_r1 (n : Nat) : (newL n).role (n + 1) = .sure := by
  show (if n + 1 = n then _ else if n + 1 = n + 1 then _ else _) = _
  rw [if_neg (by omega), if_pos rfl]
theorem newL_r2 (n : Nat) : (newL n).role (n + 2) = .fails := by
  show (if n + 2 = n then _ else if n + 2 = n + 1 then _ else if n + 2 = n + 2 then _ else _) = _
  rw [if_neg (by omega), if_neg (by omega), if_pos rfl]
theorem newL_r3 (n : Nat) : (newL n).role (n + 3) = .head := by
  show (if n + 3 = n then _ else if n + 3 = n + 1 then _ else if n + 3 = n + 2 then _ else if n + 3 = n + 3 then _ else _) = _
  rw [if_neg (by omega), if_neg (by omega), if_neg (by omega), if_pos rfl]
theorem new_pd (room : Int) (w w4 : World) (h4 : w4 = ((((w.alloc (.map #[] 0)).alloc (.map #[] 0)).alloc (.map #[] 0)).alloc (.cells #[.map (some w.heap.size), .map (some (w.heap.size + 1)), .slice none 0 0, .int .i64 room, .int .i64 0, .int .i64 (-1), .bool false, .map (some (w.heap.size + 2))] 79))) : PD w4 (w.heap.size + 3) (newL w.heap.size) (newDS room) := by
  have hF3 : Frm (fun _ => False) (w.alloc (.map #[] 0)) w4 := by rw [h4]; exact (((Frm.refl _ _).alloc _).alloc _).alloc _
  have hF2 : Frm (fun _ => False) ((w.alloc (.map #[] 0)).alloc (.map #[] 0)) w4 := by rw [h4]; exact ((Frm.refl _ _).alloc _).alloc _
  have hF1 : Frm (fun _ => False) (((w.alloc (.map #[] 0)).alloc (.map #[] 0)).alloc (.map #[] 0)) w4 := by rw [h4]; exact (Frm.refl _ _).alloc _
  have m1 : GMap strKy w4 w.heap.size [] := (GMap.made w).frm hF3 (fun h => h)
  have m2 : GMap strKy w4 (w.heap.size + 1) [] := by have := (GMap.made (K := strKy) (w.alloc (.map #[] 0))).frm hF2 (fun h => h); rw [World.size_alloc] at this; exact this
  have m3 : GMap i64Ky w4 (w.heap.size + 2) [] := by have := (GMap.made (K := i64Ky) ((w.alloc (.map #[] 0)).alloc (.map #[] 0))).frm hF1 (fun h => h); rw [World.size_alloc, World.size_alloc] at this; exact this
  have hcell : ∀ i, w4.cell? ⟨w.heap.size + 3, i, none⟩ = (#[Value.map (some w.heap.size), .map (some (w.heap.size + 1)), .slice none 0 0, .int .i64 room, .int .i64 0, .int .i64 (-1), .bool false, .map (some (w.heap.size + 2))] : Array Value)[i]? := by
    intro i
    have := al_new (((w.alloc (.map #[] 0)).alloc (.map #[] 0)).alloc (.map #[] 0)) #[Value.map (some w.heap.size), .map (some (w.heap.size + 1)), .slice none 0 0, .int .i64 room, .int .i64 0, .int .i64 (-1), .bool false, .map (some (w.heap.size + 2))] 79 i
    rw [World.size_alloc, World.size_alloc, World.size_alloc] at this
    rw [h4]; exact this
  have hfz : Fz w4 (w.heap.size + 3) := by
    have := Fz.new (((w.alloc (.map #[] 0)).alloc (.map #[] 0)).alloc (.map #[] 0)) #[Value.map (some w.heap.size), .map (some (w.heap.size + 1)), .slice none 0 0, .int .i64 room, .int .i64 0, .int .i64 (-1), .bool false, .map (some (w.heap.size + 2))] 79
    rw [World.size_alloc, World.size_alloc, World.size_alloc] at this
    rw [h4]; exact this
  have hs : w4.heap.size = w.heap.size + 4 := by rw [h4]; simp
  exact {
    c0 := hcell 0, c1 := hcell 1, c2 := hcell 2, c3 := hcell 3, c4 := hcell 4, c5 := hcell 5, c6 := hcell 6, c7 := hcell 7
    fz := hfz, dirm := m1, surem := m2, failsm := m3
    dp := List.Perm.refl _, sp := List.Perm.refl _
    fp := fun n => ⟨(fun h => by cases h), (fun ⟨c, h⟩ => by cases h)⟩
    fc := fun x h => by cases h
    ap := rfl
    loose := World.ownsRow_nil _ _ _ _
    caps := fun x h => by cases h
    files := fun k h => h.elim
    ld := fun x h => by cases h
    ls := fun x h => by cases h
    la := fun x h => by cases h
    lv := fun k h => h.elim
    r0 := newL_r3 _, rd := newL_r0 _, rs := newL_r1 _, rf := newL_r2 _
    rl := fun b h => by cases h
    rb := fun b hb => by have := newL_role _ _ hb; omega }

set_option maxRecDepth 100000 in
set_option maxHeartbeats 1000000 in
theorem new_any (room : Int) (w : World) (h0 : 0 ≤ room) :
    Calls Try.prog 14 #[.int .i64 room] w fun e w' => e = .returned (.tuple #[.pointer (some ⟨w.heap.size + 3, 0, none⟩), .int .i64 0]) ∧ PD w' (w.heap.size + 3) (newL w.heap.size) (newDS room) ∧ Frm (fun _ => False) w w' ∧ w'.heap.size = w.heap.size + 4 := by
  have hmm := @run_makeMap Try.prog
  have t1 : decide (room < 0) = false := decide_eq_false (by omega)
  go_enter Try.func14, Try.ntmps14
  go_wp2_with fail
  go_ret2
  exact ⟨rfl, new_pd room w _ rfl, ((((Frm.refl _ _).alloc _).alloc _).alloc _).alloc _, by simp⟩

theorem new_no (room : Int) (w : World) (h0 : room < 0) :
    Calls Try.prog 14 #[.int .i64 room] w fun e w' => e = .returned (.tuple #[.pointer none, .int .i64 2]) ∧ w = w' := by
  go_enter Try.func14, Try.ntmps14
  go_wp2_with fail
  go_ret2
  exact ⟨rfl, rfl⟩
end Go.Proofs.Ytngickhakedonaa

namespace Go.Proofs
open Go.Shelf
def Try.keys59_ren : Go.Shelf.Ren := ⟨fun | 7 => 59 | 10 => 76 | n => n, fun | 23 => 75 | 26 => 9 | 3 => 98 | 28 => 113 | 0 => 0 | 27 => 112 | 33 => 118 | 4 => 4 | n => n, fun | n => n⟩
theorem Try.keys59 : Go.Proofs.SlLaysZ.n7 Try.prog Try.keys59_ren := {
  mixed := by kernel_rfl
  f7 := ⟨Try.f59.name, by decide, Try.func59.trans (congrArg some (by kernel_rfl))⟩
  f10 := ⟨Try.f76.name, by decide, Try.func76.trans (congrArg some (by kernel_rfl))⟩
  t0 := Try.underlying0
  a0 := Try.isAgg0
  z0 := Try.sizeOf0
  v0 := Try.zeroValue0
  t4 := Try.underlying4
  a4 := Try.isAgg4
  z4 := Try.sizeOf4
  v4 := Try.zeroValue4
  t23 := Try.underlying75
  a23 := Try.isAgg75
  z23 := Try.sizeOf75
  v23 := Try.zeroValue75
  t26 := Try.underlying9
  a26 := Try.isAgg9
  z26 := Try.sizeOf9
  v26 := Try.zeroValue9
  t27 := Try.underlying112
  a27 := Try.isAgg112
  z27 := Try.sizeOf112
  v27 := Try.zeroValue112
  t28 := Try.underlying113
  a28 := Try.isAgg113
  z28 := Try.sizeOf113
  v28 := Try.zeroValue113
  t33 := Try.underlying118
  a33 := Try.isAgg118
  z33 := Try.sizeOf118
  v33 := Try.zeroValue118 }
def Try.sorted58_ren : Go.Shelf.Ren := ⟨fun | 6 => 58 | 8 => 74 | 9 => 75 | 11 => 83 | 13 => 85 | 12 => 84 | 23 => 96 | 24 => 97 | 14 => 87 | 15 => 88 | 16 => 89 | 17 => 90 | 18 => 91 | 19 => 92 | 20 => 93 | 21 => 94 | 22 => 95 | 25 => 98 | 26 => 99 | 27 => 100 | 28 => 101 | 29 => 102 | 30 => 103 | 31 => 104 | n => n, fun | 26 => 9 | 28 => 113 | 24 => 27 | 0 => 0 | 3 => 3 | 37 => 139 | 48 => 150 | 50 => 152 | 4 => 4 | 40 => 143 | 39 => 142 | 45 => 116 | 5 => 5 | 9 => 9 | 51 => 153 | 55 => 157 | 57 => 159 | 58 => 160 | 33 => 118 | n => n, fun | n => n⟩
theorem Try.sorted58 : Go.Proofs.SlLaysZ.n6 Try.prog Try.sorted58_ren := {
  mixed := by kernel_rfl
  f6 := ⟨Try.f58.name, by decide, Try.func58.trans (congrArg some (by kernel_rfl))⟩
  f8 := ⟨Try.f74.name, by decide, Try.func74.trans (congrArg some (by kernel_rfl))⟩
  f11 := ⟨Try.f83.name, by decide, Try.func83.trans (congrArg some (by kernel_rfl))⟩
  t0 := Try.underlying0
  a0 := Try.isAgg0
  z0 := Try.sizeOf0
  v0 := Try.zeroValue0
  t24 := Try.underlying27
  a24 := Try.isAgg27
  z24 := Try.sizeOf27
  v24 := Try.zeroValue27
  t26 := Try.underlying9
  a26 := Try.isAgg9
  z26 := Try.sizeOf9
  v26 := Try.zeroValue9
  t28 := Try.underlying113
  a28 := Try.isAgg113
  z28 := Try.sizeOf113
  v28 := Try.zeroValue113
  i26 := by kernel_rfl }
def Try.sort75_ren : Go.Shelf.Ren := ⟨fun | 6 => 75 | 8 => 85 | 9 => 84 | 19 => 96 | 20 => 97 | 21 => 87 | 22 => 88 | 23 => 89 | 24 => 90 | 25 => 91 | 26 => 92 | 27 => 93 | 28 => 94 | 29 => 95 | 36 => 98 | 31 => 99 | 32 => 100 | 37 => 101 | 38 => 102 | 39 => 103 | 41 => 104 | n => n, fun | 27 => 27 | 29 => 9 | 3 => 3 | 32 => 139 | 26 => 27 | 0 => 0 | 44 => 150 | 46 => 152 | 4 => 4 | 36 => 143 | 35 => 142 | 41 => 116 | 5 => 5 | 9 => 9 | 53 => 153 | 57 => 157 | 63 => 159 | 64 => 160 | n => n, fun | n => n⟩
theorem Try.sort75 : Go.Proofs.SlLaysM.n6 Try.prog Try.sort75_ren := {
  mixed := by kernel_rfl
  f6 := ⟨Try.f75.name, by decide, Try.func75.trans (congrArg some (by kernel_rfl))⟩
  f8 := Try.func85.trans (congrArg some (by kernel_rfl))
  f9 := ⟨Try.f84.name, by decide, Try.func84.trans (congrArg some (by kernel_rfl))⟩
  f19 := Try.func96.trans (congrArg some (by kernel_rfl))
  f20 := Try.func97.trans (congrArg some (by kernel_rfl))
  f21 := ⟨Try.f87.name, by decide, Try.func87.trans (congrArg some (by kernel_rfl))⟩
  f22 := ⟨Try.f88.name, by decide, Try.func88.trans (congrArg some (by kernel_rfl))⟩
  f23 := ⟨Try.f89.name, by decide, Try.func89.trans (congrArg some (by kernel_rfl))⟩
  f24 := ⟨Try.f90.name, by decide, Try.func90.trans (congrArg some (by kernel_rfl))⟩
  f25 := ⟨Try.f91.name, by decide, Try.func91.trans (congrArg some (by kernel_rfl))⟩
  f26 := ⟨Try.f92.name, by decide, Try.func92.trans (congrArg some (by kernel_rfl))⟩
  f27 := ⟨Try.f93.name, by decide, Try.func93.trans (congrArg some (by kernel_rfl))⟩
  f28 := ⟨Try.f94.name, by decide, Try.func94.trans (congrArg some (by kernel_rfl))⟩
  f29 := ⟨Try.f95.name, by decide, Try.func95.trans (congrArg some (by kernel_rfl))⟩
  f31 := Try.func99.trans (congrArg some (by kernel_rfl))
  f32 := Try.func100.trans (congrArg some (by kernel_rfl))
  f36 := ⟨Try.f98.name, by decide, Try.func98.trans (congrArg some (by kernel_rfl))⟩
  f37 := ⟨Try.f101.name, by decide, Try.func101.trans (congrArg some (by kernel_rfl))⟩
  f38 := ⟨Try.f102.name, by decide, Try.func102.trans (congrArg some (by kernel_rfl))⟩
  f39 := ⟨Try.f103.name, by decide, Try.func103.trans (congrArg some (by kernel_rfl))⟩
  f41 := ⟨Try.f104.name, by decide, Try.func104.trans (congrArg some (by kernel_rfl))⟩
  t0 := Try.underlying0
  a0 := Try.isAgg0
  z0 := Try.sizeOf0
  v0 := Try.zeroValue0
  t3 := Try.underlying3
  a3 := Try.isAgg3
  z3 := Try.sizeOf3
  v3 := Try.zeroValue3
  t4 := Try.underlying4
  a4 := Try.isAgg4
  z4 := Try.sizeOf4
  v4 := Try.zeroValue4
  t5 := Try.underlying5
  a5 := Try.isAgg5
  z5 := Try.sizeOf5
  v5 := Try.zeroValue5
  t9 := Try.underlying9
  a9 := Try.isAgg9
  z9 := Try.sizeOf9
  v9 := Try.zeroValue9
  t26 := Try.underlying27
  a26 := Try.isAgg27
  z26 := Try.sizeOf27
  v26 := Try.zeroValue27
  t27 := Try.underlying27
  a27 := Try.isAgg27
  z27 := Try.sizeOf27
  v27 := Try.zeroValue27
  t29 := Try.underlying9
  a29 := Try.isAgg9
  z29 := Try.sizeOf9
  v29 := Try.zeroValue9
  t32 := Try.underlying139
  a32 := Try.isAgg139
  z32 := Try.sizeOf139
  v32 := Try.zeroValue139
  t35 := Try.underlying142
  a35 := Try.isAgg142
  z35 := Try.sizeOf142
  v35 := Try.zeroValue142
  t36 := Try.underlying143
  a36 := Try.isAgg143
  z36 := Try.sizeOf143
  v36 := Try.zeroValue143
  t41 := Try.underlying116
  a41 := Try.isAgg116
  z41 := Try.sizeOf116
  v41 := Try.zeroValue116
  t44 := Try.underlying150
  a44 := Try.isAgg150
  z44 := Try.sizeOf150
  v44 := Try.zeroValue150
  t46 := Try.underlying152
  a46 := Try.isAgg152
  z46 := Try.sizeOf152
  v46 := Try.zeroValue152
  t53 := Try.underlying153
  a53 := Try.isAgg153
  z53 := Try.sizeOf153
  v53 := Try.zeroValue153
  t57 := Try.underlying157
  a57 := Try.isAgg157
  z57 := Try.sizeOf157
  v57 := Try.zeroValue157
  t63 := Try.underlying159
  a63 := Try.isAgg159
  z63 := Try.sizeOf159
  v63 := Try.zeroValue159
  t64 := Try.underlying160
  a64 := Try.isAgg160
  z64 := Try.sizeOf160
  v64 := Try.zeroValue160 }
end Go.Proofs

namespace Go.Proofs
open Go.RowKit Go.Maps Go.Sort Go.Shelf

theorem Try.sorts58 (m : Nat) : AnyZ.SortsIn Try.prog Try.sorted58_ren Fence.wide m :=
  ⟨fun blk off cap ss W hH hblk hsz => callsIn_wide.2 (AnyM.slices_Sort_string Try.sort75 blk off cap ss W hH hblk hsz),
   fun p cap W => callsIn_wide.2 (AnyM.slices_Sort_string_none Try.sort75 p cap W)⟩

theorem Try.maps_Keys_59 (mb : Option Nat) (W : World) : CallsIn Fence.wide 5 Try.prog 59 #[.map mb] W fun e w' => e = .returned (.func (.func 76) #[] #[.pointer (some ⟨W.heap.size, 0, none⟩)]) ∧ w' = W.alloc (.cells #[.map mb] 75) :=
  AnyZ.keys_in Try.keys59 Fence.wide 5 trivial rfl mb W

set_option maxHeartbeats 1000000 in
theorem Try.slices_Sorted_keys_58_59 {H : Type} (b nn : Nat) (D0 : DataW H) (R : Value → Option (DataW H × List MemPlace)) (w : World) (hown : w.ownsMap Try.prog 9 R b nn D0) (hmax : Maps.size D0 ≤ maxLen) (hbytes : Maps.size D0 * 16 ≤ 140737488355328) :
    CallsIn Fence.wide 5 Try.prog 58 #[.func (.func 76) #[] #[.pointer (some ⟨w.heap.size, 0, none⟩)]] (w.alloc (.cells #[.map (some b)] 75)) fun e w' => ∃ (v : Value) (ss : List (List UInt8)), e = .returned v ∧ ss.Perm (strKeys D0) ∧
      w'.ownsRow (w.alloc (.cells #[.map (some b)] 75)).heap.size 9 1 v ss.length ((ss.mergeSort (fun x y => decide (x ≤ y))).map encStr) ∧ (v = .slice none 0 0 ↔ ss = []) ∧ Below (w.alloc (.cells #[.map (some b)] 75)).heap.size (w.alloc (.cells #[.map (some b)] 75)) w' := by
  have hbl := hown.lt
  have hseq : SeqGives Fence.wide 2 Try.prog 76 #[.pointer (some ⟨w.heap.size, 0, none⟩)] encStr (fun ss => ss.Perm (strKeys D0)) (Maps.size D0) (w.alloc (.cells #[.map (some b)] 75)) :=
    AnyZ.keys_gives (ρ := Try.keys59_ren) { Try.keys59 with } Fence.wide _ trivial rfl (by omega) w.heap.size b nn D0 _ (by simp) (by simp) (by
      obtain ⟨es, clock, hb, Ft, hs, hD⟩ := hown
      exact ⟨es, clock, (Below.heap_alloc _ _ b hbl).trans hb, Ft, hs, hD⟩)
  exact AnyZ.sorted_in Try.sorted58 Fence.wide 5 trivial trivial trivial trivial rfl (by omega) (Try.sorts58 _) (enters_of Try.func75 (by kernel_rfl) rfl) 76 #[.pointer (some ⟨w.heap.size, 0, none⟩)] trivial (enters_of Try.func76 (by kernel_rfl) rfl) _ _ hmax hbytes _ hseq

end Go.Proofs

namespace Go.Proofs.Ytngickhakedonaa
open Go.RowKit Go.Tk Go.Dk

variable {w w' : World} {d : Nat} {L : PL} {s : DS} {B : Nat → Prop}

def oneR (_ : Value) : Option (DataW Unit × List MemPlace) := some (.lit (.bool true), [])
set_option maxRecDepth 20000 in
/-- a directory's map reads -/
theorem gmap_owns {b : Nat} {l : List (ByteArray × Value)} (h : GMap strKy w b l) (hl : l.length ≤ maxLen) (hs : ∀ p ∈ l, p.1.size ≤ maxLen) :
    ∃ D0 : DataW Unit, w.ownsMap Try.prog 9 oneR b l.length D0 ∧ Maps.size D0 = l.length ∧ (strKeys D0).Perm (l.map fun p => p.1.data.toList) := by
  obtain ⟨es, clock, hb, hst, he⟩ := h
  have hlen : es.size = l.length := by have := congrArg List.length he; simpa using this
  have hkey : ∀ x ∈ es.toList, ∃ p ∈ l, x.key = .string p.1 := by
    intro x hx
    have : (x.key, x.val) ∈ l.map (fun p => (strKy.f p.1, p.2)) := by rw [← he]; exact List.mem_map.2 ⟨x, hx, rfl⟩
    obtain ⟨p, hp, hpe⟩ := List.mem_map.1 this
    exact ⟨p, hp, (congrArg (·.1) hpe).symm⟩
  have hrd : ∀ x ∈ es.toList, ∀ p : ByteArray × Value, x.key = .string p.1 → p.1.size ≤ maxLen → WideElems.rd Try.prog 9 oneR x = some (.string p.1.data.toList, .lit (.bool true)) := by
    intro x _ p hk hp
    unfold WideElems.rd
    rw [hk]
    have : keyOf Try.prog 9 (.string p.1) = some (.string p.1.data.toList) := Go.WideMaps.keyOf_string_mk Try.underlying9 hp
    rw [this]; rfl
  refine ⟨.map ((es.toList.map (WideElems.rg Try.prog 9 oneR)).foldr DataW.insert []), ⟨es, clock, hb, ⟨by omega, hst, fun x hx => ?_⟩, by omega, rfl⟩, ?_, ?_⟩
  · obtain ⟨p, hp, hk⟩ := hkey x hx
    exact ⟨_, hrd x hx p hk (hs p hp)⟩
  · show (List.foldr DataW.insert [] _).length = _
    rw [(WideShapes.sorted_perm _).length_eq, List.length_map]
    simpa using hlen
  · show ((List.foldr DataW.insert [] _).map fun p => strOf p.1).Perm _
    refine ((WideShapes.sorted_perm _).map _).trans ?_
    rw [List.map_map]
    have e : es.toList.map ((fun p : Lit × DataW Unit => strOf p.1) ∘ WideElems.rg Try.prog 9 oneR) = l.map fun p => p.1.data.toList := by
      have e2 : l.map (fun p => p.1.data.toList) = (l.map fun p => (strKy.f p.1, p.2)).map (fun q => match q.1 with | .string s => s.data.toList | _ => []) := by
        rw [List.map_map]; rfl
      rw [e2, ← he, List.map_map]
      refine List.map_congr_left fun x hx => ?_
      obtain ⟨p, hp, hk⟩ := hkey x hx
      show strOf (WideElems.rg Try.prog 9 oneR x).1 = match x.key with | .string s => s.data.toList | _ => []
      unfold WideElems.rg
      rw [hrd x hx p hk (hs p hp), hk]
      rfl
    rw [e]

def nameC (x : Nm) : List Value := [.string x.1]
theorem sort_names {ss : List (List UInt8)} {l : List Nm} (h : ss.Perm (l.map fun x => x.1.data.toList)) (hs : NSorted l) : ss.mergeSort leB = l.map fun x => x.1.data.toList := by
  rw [mergeSort_of_perm h]
  have tr : ∀ a b c : List UInt8, leB a b = true → leB b c = true → leB a c = true := fun a b c h1 h2 => by simp only [leB, decide_eq_true_eq] at *; exact List.le_trans h1 h2
  have tot : ∀ a b : List UInt8, (leB a b || leB b a) = true := fun a b => by simp only [leB, Bool.or_eq_true, decide_eq_true_eq]; exact List.le_total a b
  refine List.Perm.eq_of_pairwise (le := fun a b => leB a b = true) (fun a b _ _ h1 h2 => ?_) (List.pairwise_mergeSort tr tot _) (List.pairwise_map.2 (hs.imp fun {a b} hab => ?_)) (List.mergeSort_perm _ leB)
  · simp only [leB, decide_eq_true_eq] at h1 h2
    exact List.le_antisymm h1 h2
  · rw [gtB_iff, bytesLess_eq] at hab
    have h1 : a.1.toList < b.1.toList := by simpa using hab
    rw [ByteArray.toList_eq, ByteArray.toList_eq] at h1
    exact decide_eq_true (List.le_of_lt h1)

set_option maxRecDepth 100000 in
set_option maxHeartbeats 1000000 in
theorem names_any (w : World) (h : PD w d L s) (hi : Inv s) (hl : s.dir.length ≤ 100000) (hnm : ∀ x ∈ s.dir, x.1.size ≤ 1000000000) :
    Calls Try.prog 32 #[.pointer (some ⟨d, 0, none⟩)] w fun e w' => ∃ v, e = .returned v ∧ w'.ownsRow w.heap.size 9 1 v s.dir.length (s.dir.flatMap nameC) ∧ Frm (fun _ => False) w w' := by
  have hlen : (L.dl.map (nmE L.fb)).length = s.dir.length := by rw [List.length_map]; exact h.dp.length_eq
  obtain ⟨D0, hown, hsz, hks⟩ := gmap_owns h.dirm (by rw [hlen]; unfold maxLen; omega) (by
    intro p hp
    obtain ⟨x, hx, rfl⟩ := List.mem_map.1 hp
    have := hnm x (h.dp.mem_iff.1 hx)
    show x.1.size ≤ maxLen
    unfold maxLen; omega)
  have hks2 : (strKeys D0).Perm (s.dir.map fun x => x.1.data.toList) := by
    refine hks.trans ?_
    rw [List.map_map]
    exact h.dp.map _
  have c0 := h.c0
  have HO := Lib.hid (And.intro hown (And.intro hsz (And.intro hks2 hlen)))
  have HS := Lib.hid hi.dok.srt
  have H := Lib.hid h
  clear h hi hown hsz hks hks2 hlen hnm
  go_enter Try.func32, Try.ntmps32
  go_wp2_with fail
  refine (callsIn_wide.1 (Try.maps_Keys_59 (some L.bd) w)).mono ?_
  rintro e w1 ⟨rfl, hw1⟩
  subst hw1
  go_wp2_with fail
  refine (callsIn_wide.1 (Try.slices_Sorted_keys_58_59 L.bd _ D0 oneR w HO.out.1 (by rw [HO.out.2.1, HO.out.2.2.2]; unfold maxLen; omega) (by rw [HO.out.2.1, HO.out.2.2.2]; omega))).mono ?_
  rintro e w2 ⟨v, ss, rfl, hS, hrow, hnil, hb⟩
  have hsort := sort_names (hS.trans HO.out.2.2.1) HS.out
  have hrow2 : w2.ownsRow w.heap.size 9 1 v s.dir.length (s.dir.flatMap nameC) := by
    have e1 : ss.length = s.dir.length := by rw [(hS.trans HO.out.2.2.1).length_eq, List.length_map]
    have e2 : (ss.mergeSort leB).map encStr = s.dir.flatMap nameC := by
      rw [hsort, List.map_map]
      induction s.dir with
      | nil => rfl
      | cons x l ih => rw [List.map_cons, List.flatMap_cons, ih]; rfl
    rw [e1] at hrow
    have := row_rebase hrow (base' := w.heap.size) (fun b hb => by have := (hrow.lt b hb).1; simp at this; omega)
    rw [← e2]; exact this
  have HR := Lib.hid (And.intro hrow2 hb)
  obtain ⟨ao, cap, hv, _⟩ := row_slice hrow2
  subst hv
  clear hS hrow hnil hb hsort hrow2
  go_wp2_with fail
  go_ret
  exact ⟨_, rfl, HR.out.1, ((Frm.refl _ w).alloc _).trans (Frm.of_below HR.out.2)⟩
end Go.Proofs.Ytngickhakedonaa

namespace Go.Proofs.Ytngickhakedonaa
open Go.RowKit Go.Tk Go.Dk

variable {w w' : World} {d : Nat} {L : PL} {s : DS} {B : Nat → Prop}

theorem assoc_upd {α : Type} [DecidableEq α] (k k' : α) (v : Value) (l : List (α × Value)) : assoc k' (upd k v l) = if k' = k then some v else assoc k' l := by
  unfold upd
  by_cases hk : k' = k
  · subst hk
    rw [if_pos rfl]
    split
    · rename_i h
      unfold assoc
      induction l with
      | nil => simp at h
      | cons x l ih =>
        rw [List.map_cons, List.find?_cons]
        by_cases e : x.1 = k'
        · simp [e]
        · simp only [e, if_false, decide_false]
          exact ih (by simpa [e] using h)
    · rename_i h
      unfold assoc
      have hno : l.find? (fun p => decide (p.1 = k')) = none := by
        rw [List.find?_eq_none]
        intro p hp q
        exact h (List.any_eq_true.2 ⟨p, hp, q⟩)
      rw [List.find?_append, hno]
      simp
  · rw [if_neg hk]
    split
    · unfold assoc
      congr 1
      induction l with
      | nil => rfl
      | cons x l ih =>
        rw [List.map_cons, List.find?_cons, List.find?_cons]
        by_cases e : x.1 = k
        · have e2 : ¬ x.1 = k' := fun q => hk (q.symm.trans e)
          have e3 : ¬ k = k' := fun q => hk q.symm
          simp only [e, if_true, e3, decide_false]
          rename_i h
          cases hl : l.any (fun p => decide (p.1 = k)) with
          | true => exact ih hl
          | false =>
            have : l.map (fun p => if p.1 = k then (k, v) else p) = l := by
              conv => rhs; rw [← List.map_id l]
              refine List.map_congr_left fun y hy => if_neg fun q => ?_
              have := List.any_eq_false.1 hl y hy
              simp [q] at this
            rw [this]
        · rename_i h
          simp only [e, if_false]
          by_cases e2 : x.1 = k'
          · simp [e2]
          · simp only [e2, decide_false]
            exact ih (by simpa [e] using h)
    · unfold assoc
      rw [List.find?_append]
      have e3 : ¬ k = k' := fun q => hk q.symm
      cases l.find? (fun p => decide (p.1 = k')) with
      | none => simp [e3]
      | some y => simp

/-- how many bytes of files have become sure, in the crash's map -/
def PMapF (L : PL) (w : World) (M : Nat) (gr : Nat → Nat) : Prop := ∃ l, PMap w M l ∧ (∀ p ∈ l, ∃ f, L.live f ∧ p.1 = L.fb f) ∧ ∀ f, L.live f → (assoc (L.fb f) l).getD (.int .i64 0) = .int .i64 (gr f : Int)
theorem PMapF.frm {S : Nat → Prop} {M : Nat} {gr : Nat → Nat} (h : PMapF L w M gr) (hf : Frm S w w') (hn : ¬ S M) : PMapF L w' M gr := by
  obtain ⟨l, h1, h2, h3⟩ := h
  exact ⟨l, h1.frm hf hn, h2, h3⟩
theorem PMapF.look {M : Nat} {gr : Nat → Nat} (h : PMapF L w M gr) (hp : PD w d L s) {k : Nat} (hk : L.live k) : (Instr.lookup 107 (.map (some M)) (.pointer (some ⟨L.fb k, 0, none⟩)) false).run Try.prog w = .ok (.int .i64 (gr k : Int)) w := by
  obtain ⟨l, h1, h2, h3⟩ := h
  obtain ⟨i0, hi, hz0, hz1, hz2⟩ := info_parts info100
  have := h1.run_lookup (P := Try.prog) (t := 107) (e := 3) Try.underlying107 Try.underlying98 hi (by rw [hz1]; decide) (s := L.fb k) (hp.files k hk).fz (fun p hp' => by obtain ⟨f, hf, e⟩ := h2 p hp'; rw [e]; exact (hp.files f hf).fz) (zero3 w)
  rw [h3 k hk] at this
  exact this
theorem wpList_update_f {M : Nat} {gr : Nat → Nat} (h : PMapF L w M gr) (hp : PD w d L s) {k : Nat} (hk : L.live k) (n : Nat) {ops : Array Oper} {rest : List Oper} {o : Oper} {a : Act} {Q : Exit → Act → World → Prop}
    (hg : o.guard = none) (m x y : Operand) (hop : o.op = Op.mapUpdate 107 m x y) (hm : a.eval m = .map (some M)) (hx : a.eval x = .pointer (some ⟨L.fb k, 0, none⟩)) (hy : a.eval y = .int .i64 ((gr k : Int) + n))
    (hK : ∀ w', PMapF L w' M (fun f => if f = k then gr k + n else gr f) → Frm (· = M) w w' → wpList Try.prog ops Q rest (a.put o.dst undef) w') : wpList Try.prog ops Q (o :: rest) a w := by
  obtain ⟨l, h1, h2, h3⟩ := h
  obtain ⟨i0, hi, hz0, hz1, hz2⟩ := info_parts info100
  obtain ⟨w', hrun, r1, r2⟩ := h1.run_update (P := Try.prog) (t := 107) (e := 3) Try.underlying107 Try.underlying98 hi (by rw [hz1]; decide) (s := L.fb k) (hp.files k hk).fz (fun p hp' => by obtain ⟨f, hf, e⟩ := h2 p hp'; rw [e]; exact (hp.files f hf).fz) (.int .i64 ((gr k : Int) + n))
  refine wpList_plain hg fun K' hK' => ?_
  unfold Oper.wp
  unfold ptrV at hrun
  simp [execOp, hop, hm, hx, hy, hrun, Result.andThen]
  refine hK' _ _ (hK w' ⟨_, r1, fun p hp' => ?_, fun f hf => ?_⟩ r2)
  · unfold upd at hp'
    split at hp'
    · obtain ⟨q, hq, e⟩ := List.mem_map.1 hp'
      by_cases c : q.1 = L.fb k
      · rw [if_pos c] at e; exact ⟨k, hk, by rw [← e]⟩
      · rw [if_neg c] at e; rw [← e]; exact h2 q hq
    · rcases List.mem_append.1 hp' with hq | hq
      · exact h2 p hq
      · simp at hq; exact ⟨k, hk, by rw [hq]⟩
  · show _ = Value.int .i64 ((if f = k then gr k + n else gr f : Nat) : Int)
    rw [assoc_upd]
    by_cases c : f = k
    · subst c; rw [if_pos rfl, if_pos rfl]; simp
    · rw [if_neg (fun e => c (hp.fb_inj hf hk e)), if_neg c]; exact h3 f hf

set_option maxRecDepth 100000 in
set_option maxHeartbeats 1000000 in
theorem grow_any {M T : Nat} {gr : Nat → Nat} (w : World) (h : PMapF L w M gr) (hp : PD w d L s) (hT : w.cell? ⟨T, 0, none⟩ = some (.map (some M))) {k : Nat} (hk : L.live k) (a1 a2 : Value) (h1 : a1.oneCell' = true) (h2 : a2.oneCell' = true) (n : Nat) (hb : gr k + n ≤ 1000000000000) :
    Calls Try.prog 56 #[.agg #[.pointer (some ⟨L.fb k, 0, none⟩), a1, a2], .int .i64 n, .pointer (some ⟨T, 0, none⟩)] w fun e w' => e = .returned (.tuple #[]) ∧ PMapF L w' M (fun f => if f = k then gr k + n else gr f) ∧ Frm (· = M) w w' := by
  have hTl := World.block_lt_of_cell? _ _ hT
  have hA := (Frm.refl (fun _ => False) w).alloc (.cells #[.pointer (some ⟨L.fb k, 0, none⟩), a1, a2] 104)
  have hm1 := h.frm hA (fun h => h)
  have hp1 := hp.keep hA
  have hlk := hm1.look hp1 hk
  have H := Lib.hid (And.intro hm1 hp1)
  have i1 : (gr k : Int) + n ≤ 1000000000000 := by omega
  have i2 : (0 : Int) ≤ gr k := by omega
  have i3 : (0 : Int) ≤ n := by omega
  clear h hp hA hm1 hp1
  go_enter Try.func56, Try.ntmps56
  go_wp2_with (refine wpList_update_f H.out.1 H.out.2 hk n rfl _ _ _ rfl rfl rfl rfl ?_; intro w2 hg hf)
  go_end0
  exact ⟨rfl, hg, ((Frm.refl (fun b => b = M) w).alloc _).trans hf⟩
theorem run_c56 (args : Array Value) (w : World) : (callFunc 56 args).run Try.prog w = .ok (Next.enter 56 args) w := by kernel_rfl
end Go.Proofs.Ytngickhakedonaa

namespace Go.Proofs.Ytngickhakedonaa
open Go.RowKit Go.Tk Go.Dk

variable {w w' : World} {d : Nat} {L : PL} {s : DS} {B : Nat → Prop}

/-! ### the crash's first loop: acts, one behind the other -/
def crR (s : DS) (keep : Int) (k : Nat) : List Nm := replay s.sure (s.acts.take (min k keep.toNat))
def crG (s : DS) (keep torn : Int) (k f : Nat) : Nat := puts (s.acts.take (min k keep.toNat)) f + if keep.toNat < k then tornN s keep torn f else 0
theorem crR_zero (s : DS) (keep : Int) : crR s keep 0 = s.sure := by unfold crR; rw [Nat.zero_min]; rfl
theorem crG_zero (s : DS) (keep torn : Int) : crG s keep torn 0 = fun _ => 0 := by
  funext f
  unfold crG
  rw [Nat.zero_min, if_neg (by omega)]; rfl
theorem take_min_succ {s : DS} {keep : Int} {k : Nat} (hk : k < s.acts.length) (h : k < keep.toNat) : s.acts.take (min (k + 1) keep.toNat) = s.acts.take (min k keep.toNat) ++ [s.acts[k]] := by
  rw [Nat.min_eq_left (by omega), Nat.min_eq_left (by omega), List.take_succ_eq_append_getElem hk]
theorem crR_lt {s : DS} {keep : Int} {k : Nat} (hk : k < s.acts.length) (h : k < keep.toNat) : crR s keep (k + 1) = doneD (crR s keep k) s.acts[k] := by
  unfold crR; rw [take_min_succ hk h, replay_snoc]
theorem crR_ge {s : DS} {keep : Int} {k : Nat} (h : keep.toNat ≤ k) : crR s keep (k + 1) = crR s keep k := by
  unfold crR; rw [Nat.min_eq_right (by omega), Nat.min_eq_right (by omega)]
theorem crG_lt {s : DS} {keep torn : Int} {k : Nat} (hk : k < s.acts.length) (h : k < keep.toNat) (f : Nat) : crG s keep torn (k + 1) f = crG s keep torn k f + putN f s.acts[k] := by
  unfold crG; rw [take_min_succ hk h, puts_snoc, if_neg (by omega), if_neg (by omega)]; omega
theorem crG_eq {s : DS} {keep torn : Int} {k : Nat} (h : k = keep.toNat) (f : Nat) : crG s keep torn (k + 1) f = crG s keep torn k f + tornN s keep torn f := by
  unfold crG; rw [Nat.min_eq_right (by omega), Nat.min_eq_right (by omega), if_pos (by omega), if_neg (by omega)]; omega
theorem crG_gt {s : DS} {keep torn : Int} {k : Nat} (h : keep.toNat < k) (f : Nat) : crG s keep torn (k + 1) f = crG s keep torn k f := by
  unfold crG; rw [Nat.min_eq_right (by omega), Nat.min_eq_right (by omega), if_pos (by omega), if_pos h]
theorem crG_end {s : DS} {keep torn : Int} (f : Nat) : (getF s f).2 + crG s keep torn s.acts.length f = sureC s keep torn f := by
  unfold crG sureC
  by_cases h : keep.toNat < s.acts.length
  · rw [Nat.min_eq_right (by omega), if_pos h]; omega
  · rw [Nat.min_eq_left (by omega), if_neg h, List.take_length, List.take_of_length_le (by omega)]
    have : tornN s keep torn f = 0 := by unfold tornN; rw [List.getElem?_eq_none (by omega)]
    omega
theorem crR_end (s : DS) (keep : Int) : crR s keep s.acts.length = replay s.sure (s.acts.take keep.toNat) := by
  unfold crR
  by_cases h : keep.toNat ≤ s.acts.length
  · rw [Nat.min_eq_right h]
  · rw [Nat.min_eq_left (by omega), List.take_length, List.take_of_length_le (by omega)]
theorem puts_take_le (az : List DAct) (n f : Nat) : puts (az.take n) f ≤ puts az f := by have := puts_split az n f; omega
theorem crG_le {s : DS} (hi : Inv s) {keep torn : Int} {k f : Nat} (hf : f < s.files.length) : crG s keep torn k f ≤ (getF s f).1.size := by
  have h1 := hi.sums f hf
  have h2 := hi.sureC_le keep torn hf
  unfold sureC at h2
  unfold crG
  by_cases h : keep.toNat < k
  · rw [Nat.min_eq_right (by omega), if_pos h]; omega
  · rw [if_neg h]
    have := puts_take_le s.acts (min k keep.toNat) f
    omega
theorem putN_dir (f : Nat) {a : DAct} (h : isPut a = false) : putN f a = 0 := by cases a <;> first | rfl | (simp [isPut] at h)

structure CrI (L : PL) (s : DS) (keep torn : Int) (w : World) (k : Nat) (wr : World) : Prop where
  frm : Frm (fun _ => False) w wr
  sz : w.heap.size + 2 < wr.heap.size
  dir : ∃ dl : List Nm, GMap strKy wr (w.heap.size + 2) (dl.map (nmE L.fb)) ∧ dl.Perm (crR s keep k)
  pm : PMapF L wr w.heap.size (crG s keep torn k)
  t : wr.cell? ⟨w.heap.size + 1, 0, none⟩ = some (.map (some w.heap.size))
theorem CrI.keep {keep torn : Int} {k : Nat} {wr w2 : World} (h : CrI L s keep torn w k wr) (hf : Frm (fun _ => False) wr w2) : CrI L s keep torn w k w2 := by
  obtain ⟨dl, h1, h2⟩ := h.dir
  have := h.sz
  exact ⟨h.frm.trans hf, Nat.lt_of_lt_of_le h.sz hf.size, ⟨dl, h1.frm hf (fun h => h), h2⟩, h.pm.frm hf (fun h => h), (hf.cell (p := ⟨w.heap.size + 1, 0, none⟩) (by show w.heap.size + 1 < _; omega) (fun h => h)).trans h.t⟩
theorem CrI.same {keep torn : Int} {k k' : Nat} {wr : World} (h : CrI L s keep torn w k wr) (e1 : crR s keep k' = crR s keep k) (e2 : ∀ f, crG s keep torn k' f = crG s keep torn k f) : CrI L s keep torn w k' wr := by
  have e3 : crG s keep torn k' = crG s keep torn k := funext e2
  exact ⟨h.frm, h.sz, by rw [e1]; exact h.dir, by rw [e3]; exact h.pm, h.t⟩
theorem CrI.dirs {keep torn : Int} {k : Nat} {wr w2 : World} (h : CrI L s keep torn w k wr) {dl : List Nm} {l2 : List Nm} (hm : GMap strKy w2 (w.heap.size + 2) (dl.map (nmE L.fb))) (hp : dl.Perm l2) (hf : Frm (· = w.heap.size + 2) wr w2) (e1 : crR s keep (k + 1) = l2) (e2 : ∀ f, crG s keep torn (k + 1) f = crG s keep torn k f) : CrI L s keep torn w (k + 1) w2 := by
  have e3 : crG s keep torn (k + 1) = crG s keep torn k := funext e2
  have := h.sz
  exact ⟨h.frm.trans' hf (fun b hb e => by omega), Nat.lt_of_lt_of_le h.sz hf.size, ⟨dl, hm, by rw [e1]; exact hp⟩, by rw [e3]; exact h.pm.frm hf (by omega), (hf.cell (p := ⟨w.heap.size + 1, 0, none⟩) (by show w.heap.size + 1 < _; omega) (by show ¬ w.heap.size + 1 = _; omega)).trans h.t⟩
theorem CrI.grows {keep torn : Int} {k : Nat} {wr w2 : World} (h : CrI L s keep torn w k wr) {g2 : Nat → Nat} (hm : PMapF L w2 w.heap.size g2) (hf : Frm (· = w.heap.size) wr w2) (e1 : crR s keep (k + 1) = crR s keep k) (e2 : crG s keep torn (k + 1) = g2) : CrI L s keep torn w (k + 1) w2 := by
  obtain ⟨dl, h1, h2⟩ := h.dir
  have := h.sz
  exact ⟨h.frm.trans' hf (fun b hb e => by omega), Nat.lt_of_lt_of_le h.sz hf.size, ⟨dl, h1.frm hf (by omega), by rw [e1]; exact h2⟩, by rw [e2]; exact hm, (hf.cell (p := ⟨w.heap.size + 1, 0, none⟩) (by show w.heap.size + 1 < _; omega) (by show ¬ w.heap.size + 1 = _; omega)).trans h.t⟩
end Go.Proofs.Ytngickhakedonaa
