/- A text of a claim's proof: see the last text of the claim. -/
import Derived.Test.YtngickhakedonaaDp00
import Derived.Test.YtngickhakedonaaDp02
import Derived.Sort.Walk0
import Derived.Test.YtngickhakedonaaRows
import Derived.Laws.IdiomStrings
import Derived.Lib.SlBytesRow
import Derived.Laws.BitsAllLaws
set_option linter.all false
namespace Go.Proofs.Ytngickhakedonaa
open Go.RowKit Go.Tk Go.Dk

variable {r : Nat} {s : DS} {B : Nat → Prop}

set_option maxRecDepth 100000 in
set_option maxHeartbeats 2000000 in
theorem rdo_3 (name too b : ByteArray) (w : World) (h : RX w r B s) (hw : Wf s) (hn : name.size ≤ 2305843009213693952) (ht : too.size ≤ 2305843009213693952) :
    Calls Try.prog 43 #[.pointer (some ⟨r, 0, none⟩), .int .i64 3, .string name, .string too, .string b] w fun e w' => e = .returned (.tuple #[.string (doD s 3 name too b).1, .int .i64 (doD s 3 name too b).2.1]) ∧ RX w' r (up w w' B) (doD s 3 name too b).2.2 ∧ Frm B w w' := by
  obtain ⟨D, hD⟩ : ∃ D, doD s 3 name too b = D := ⟨_, rfl⟩
  rw [hD]
  have HD := Lib.hid hD
  clear hD
  have HW := Lib.hid hw
  clear hw
  go_enter Try.func43, Try.ntmps43
  go_wp2_with fail
  refine (rstarts_x w h HW.out.n).mono ?_
  rintro e w1 ⟨rfl, h1, hf1⟩
  by_cases hg : gone s = true
  · have hd : doD s 3 name too b = (⟨#[]⟩, 35, { s with off := true }) := by unfold doD; rw [if_pos hg]
    obtain rfl := HD.out.symm.trans hd
    rw [hg]
    rw [if_pos hg] at h1
    clear hd hg
    go_wp2_with fail
    go_ret2
    exact ⟨rfl, h1.mono (fun _ h => .inl h), hf1⟩
  · rw [if_neg hg] at h1
    have hg' : gone s = false := Bool.eq_false_iff.2 hg
    have Hg := Lib.hid hg
    rw [if_neg hg, hg']
    clear hg hg'
    go_wp2_with fail
    refine (isName_any name w1 hn).mono ?_
    rintro e w2 ⟨rfl, hf2⟩
    go_wp2_with fail
    refine (isName_any too w2 ht).mono ?_
    rintro e w3 ⟨rfl, hf3⟩
    have h3 := RX.keep h1 (hf2.trans hf3)
    have F3 : Frm B w w3 := hf1.trans (keepF (hf2.trans hf3))
    clear h1 hf2 hf3 hf1
    obtain ⟨vf, vd, vs, va, _, _, _, c1, hdir, _, _, _, _, _, _, fz, hrlt, hBr⟩ := RX.head h3
    have Hdir := Lib.hid hdir
    obtain ⟨ao, cap, hv, _⟩ := hdir
    subst hv
    generalize okName name = q1
    generalize okName too = q2
    go_wp2_with fail
    refine (of_any _ s.dir name w3 Hdir.out (by have := HW.out.dl; omega)).mono ?_
    rintro e w4 ⟨rfl, hf4⟩
    have h4 := RX.keep h3 hf4
    have F4 : Frm B w w4 := F3.trans (keepF hf4)
    clear h3 hf4 F3 c1 fz Hdir
    generalize hk : ofZ s.dir name = k
    have hd0 : ∀ c : Prop, [Decidable c] → (if c then (1 : Nat) else 0) = if c then 1 else 0 := fun _ _ => rfl
    clear hd0
    have step : ∀ X : ByteArray × Int × DS, doD s 3 name too b = X → X = (if (s.n : Int) ∈ s.fails then (⟨#[]⟩, 34, failD { s with n := s.n + 1 } 3 ((ofI s.dir name).getD 0)) else (⟨#[]⟩, 0, doesD { s with n := s.n + 1 } 3 name too b)) := by
      intro X hX
      rw [← hX]
      unfold doD
      rw [if_neg Hg.out, if_neg (by simp), if_neg (by simp), if_neg (by simp)]
      rfl
    have Step := Lib.hid step
    clear step hk
    by_cases hk0 : k < 0
    · have i1 : k < 0 := hk0
      go_wp2_with fail
      go_quiet (fail)
      replace h4 := RX.keep h4 ((Frm.refl (fun _ => False) w4).drewN nq)
      replace F4 := F4.drewN nq
      go_wp2_with fail
      refine (rfailing_x s.n _ h4 (by have := HW.out.nl; show s.fails.length ≤ _; omega)).mono ?_
      rintro e w5 ⟨rfl, hf5⟩
      have h5 := RX.keep h4 hf5
      have F5 : Frm B w w5 := F4.trans (keepF hf5)
      clear h4 hf5 F4
      by_cases hfl : (s.n : Int) ∈ s.fails
      · have hd : D = (⟨#[]⟩, 34, { s with n := s.n + 1, dir := s.sure, acts := s.acts.filter (lsA (-1)) }) := (Step.out D HD.out).trans (by rw [if_pos hfl]; rfl)
        subst hd
        rw [decide_eq_true (p := (s.n : Int) ∈ ({ s with n := s.n + 1 } : DS).fails) hfl]
        clear hfl
        go_wp2_with fail
        refine (rfail_dir (B := up w w5 B) k w5 (h5.mono (fun _ h => .inl h)) (by have := HW.out.al; show s.acts.length ≤ _; omega)).mono ?_
        rintro e w6 ⟨rfl, hx, hf⟩
        have hN := Lib.hid (RX.next F5 hf hx)
        clear hx hf
        go_wp2_with fail
        go_ret2
        exact ⟨rfl, hN.out.1, hN.out.2⟩
      · have hd : D = (⟨#[]⟩, 0, { s with n := s.n + 1, sure := s.dir, acts := s.acts.filter (lsA (-1)) }) := (Step.out D HD.out).trans (by rw [if_neg hfl]; rfl)
        subst hd
        rw [decide_eq_false (p := (s.n : Int) ∈ ({ s with n := s.n + 1 } : DS).fails) hfl]
        clear hfl
        go_wp2_with fail
        refine (rdoes_dir (B := up w w5 B) k name too b w5 (h5.mono (fun _ h => .inl h)) (by have := HW.out.al; show s.acts.length ≤ _; omega)).mono ?_
        rintro e w6 ⟨rfl, hx, hf⟩
        have hN := Lib.hid (RX.next F5 hf hx)
        clear hx hf
        go_wp2_with fail
        go_ret2
        exact ⟨rfl, hN.out.1, hN.out.2⟩
    · have i1 : decide (k < 0) = false := decide_eq_false hk0
      have i2 : 0 ≤ k := by omega
      go_wp2_with fail
      go_quiet (fail)
      replace h4 := RX.keep h4 ((Frm.refl (fun _ => False) w4).drewN nq)
      replace F4 := F4.drewN nq
      go_wp2_with fail
      refine (rfailing_x s.n _ h4 (by have := HW.out.nl; show s.fails.length ≤ _; omega)).mono ?_
      rintro e w5 ⟨rfl, hf5⟩
      have h5 := RX.keep h4 hf5
      have F5 : Frm B w w5 := F4.trans (keepF hf5)
      clear h4 hf5 F4
      by_cases hfl : (s.n : Int) ∈ s.fails
      · have hd : D = (⟨#[]⟩, 34, { s with n := s.n + 1, dir := s.sure, acts := s.acts.filter (lsA (-1)) }) := (Step.out D HD.out).trans (by rw [if_pos hfl]; rfl)
        subst hd
        rw [decide_eq_true (p := (s.n : Int) ∈ ({ s with n := s.n + 1 } : DS).fails) hfl]
        clear hfl
        go_wp2_with fail
        refine (rfail_dir (B := up w w5 B) k w5 (h5.mono (fun _ h => .inl h)) (by have := HW.out.al; show s.acts.length ≤ _; omega)).mono ?_
        rintro e w6 ⟨rfl, hx, hf⟩
        have hN := Lib.hid (RX.next F5 hf hx)
        clear hx hf
        go_wp2_with fail
        go_ret2
        exact ⟨rfl, hN.out.1, hN.out.2⟩
      · have hd : D = (⟨#[]⟩, 0, { s with n := s.n + 1, sure := s.dir, acts := s.acts.filter (lsA (-1)) }) := (Step.out D HD.out).trans (by rw [if_neg hfl]; rfl)
        subst hd
        rw [decide_eq_false (p := (s.n : Int) ∈ ({ s with n := s.n + 1 } : DS).fails) hfl]
        clear hfl
        go_wp2_with fail
        refine (rdoes_dir (B := up w w5 B) k name too b w5 (h5.mono (fun _ h => .inl h)) (by have := HW.out.al; show s.acts.length ≤ _; omega)).mono ?_
        rintro e w6 ⟨rfl, hx, hf⟩
        have hN := Lib.hid (RX.next F5 hf hx)
        clear hx hf
        go_wp2_with fail
        go_ret2
        exact ⟨rfl, hN.out.1, hN.out.2⟩

end Go.Proofs.Ytngickhakedonaa

namespace Go.Proofs.Ytngickhakedonaa
open Go.RowKit Go.Tk Go.Dk

variable {r : Nat} {s : DS} {B : Nat → Prop}

set_option maxRecDepth 100000 in
set_option maxHeartbeats 2000000 in
theorem rdo_0 (name too b : ByteArray) (w : World) (h : RX w r B s) (hw : Wf s) (hn : name.size ≤ 2305843009213693952) (ht : too.size ≤ 2305843009213693952) (hb : b.size ≤ 100000000000) (hsz : ∀ k, (getF s k).1.size + b.size ≤ 1000000000000) :
    Calls Try.prog 43 #[.pointer (some ⟨r, 0, none⟩), .int .i64 0, .string name, .string too, .string b] w fun e w' => e = .returned (.tuple #[.string (doD s 0 name too b).1, .int .i64 (doD s 0 name too b).2.1]) ∧ RX w' r (up w w' B) (doD s 0 name too b).2.2 ∧ Frm B w w' := by
  obtain ⟨D, hD⟩ : ∃ D, doD s 0 name too b = D := ⟨_, rfl⟩
  rw [hD]
  have HD := Lib.hid hD
  clear hD
  have HW := Lib.hid hw
  clear hw
  go_enter Try.func43, Try.ntmps43
  go_wp2_with fail
  refine (rstarts_x w h HW.out.n).mono ?_
  rintro e w1 ⟨rfl, h1, hf1⟩
  by_cases hg : gone s = true
  · have hd : doD s 0 name too b = (⟨#[]⟩, 35, { s with off := true }) := by unfold doD; rw [if_pos hg]
    obtain rfl := HD.out.symm.trans hd
    rw [hg]
    rw [if_pos hg] at h1
    clear hd hg
    go_wp2_with fail
    go_ret2
    exact ⟨rfl, h1.mono (fun _ h => .inl h), hf1⟩
  · rw [if_neg hg] at h1
    have hg' : gone s = false := Bool.eq_false_iff.2 hg
    have Hg := Lib.hid hg
    rw [if_neg hg, hg']
    clear hg hg'
    go_wp2_with fail
    refine (isName_any name w1 hn).mono ?_
    rintro e w2 ⟨rfl, hf2⟩
    go_wp2_with fail
    refine (isName_any too w2 ht).mono ?_
    rintro e w3 ⟨rfl, hf3⟩
    have h3 := RX.keep h1 (hf2.trans hf3)
    have F3 : Frm B w w3 := hf1.trans (keepF (hf2.trans hf3))
    clear h1 hf2 hf3 hf1
    cases ho : okName name with
    | false =>
      have hd : doD s 0 name too b = (⟨#[]⟩, 30, { s with n := s.n + 1 }) := by unfold doD; rw [if_neg Hg.out, if_pos (.inl ⟨by decide, ho⟩)]
      obtain rfl := HD.out.symm.trans hd
      clear hd ho
      go_wp2_with fail
      go_ret2
      exact ⟨rfl, h3.mono (fun _ h => .inl h), F3⟩
    | true =>
      obtain ⟨vf, vd, vs, va, _, _, _, c1, hdir, _, _, _, _, _, _, fz, hrlt, hBr⟩ := RX.head h3
      have Hdir := Lib.hid hdir
      obtain ⟨ao, cap, hv, _⟩ := hdir
      subst hv
      have Ho := Lib.hid ho
      clear ho
      go_wp2_with fail
      refine (of_any _ s.dir name w3 Hdir.out (by have := HW.out.dl; omega)).mono ?_
      rintro e w4 ⟨rfl, hf4⟩
      have h4 := RX.keep h3 hf4
      have F4 : Frm B w w4 := F3.trans (keepF hf4)
      clear h3 hf4 F3 c1 fz Hdir
      have step : ∀ X : ByteArray × Int × DS, doD s 0 name too b = X → X = (if 0 < b.size ∧ s.room < used s + b.size then (⟨#[]⟩, 33, { s with n := s.n + 1 }) else if (s.n : Int) ∈ s.fails then (⟨#[]⟩, 34, { s with n := s.n + 1 }) else (⟨#[]⟩, 0, doesD { s with n := s.n + 1 } 0 name too b)) := by
        intro X hX
        rw [← hX]
        unfold doD
        rw [if_neg Hg.out, if_neg (by simp [Ho.out]), if_neg (by simp)]
        simp [failD, outD]
      have Step := Lib.hid step
      have hu : used ({ s with n := s.n + 1 } : DS) = used s := rfl
      obtain ⟨U, hU⟩ : ∃ U, U = used s := ⟨_, rfl⟩
      have hUb : U ≤ 100000000000 := by rw [hU]; exact HW.out.us
      have hq : ∀ n, Calls Try.prog 66 #[.pointer (some ⟨r, 0, none⟩)] (w4.drewN n) fun e w'' => e = .returned (.int .i64 U) ∧ ∃ m, w'' = w4.drewN m := by
        intro n
        rw [hU, ← hu]
        exact Calls.quiet_of (rused_x _ (RX.keep h4 ((Frm.refl (fun _ => False) w4).drewN n)) (by have := HW.out.dl; show s.dir.length ≤ _; omega) (by have := HW.out.fl; show s.files.length ≤ _; omega) HW.out.inn (by rw [hu]; have := HW.out.us; omega))
      obtain ⟨vf4, _, _, _, c0, _, _, _, _, _, _, _, _, c4, _, fz4, _⟩ := RX.head h4
      have c4' : w4.cell? ⟨r, 4, none⟩ = some (.int .i64 s.room) := c4
      have Hu := Lib.hid (And.intro hu hU)
      have Hq := Lib.hid hq
      clear hq hu hU step c0 fz4 c4
      obtain ⟨kz, hkz⟩ : ∃ kz, kz = ofZ s.dir name := ⟨_, rfl⟩
      rw [← hkz]
      have Hkz := Lib.hid hkz
      clear hkz
      by_cases hneg : kz < 0
      · have i1 : kz < 0 := hneg
        have hkz1 : kz = -1 ∧ ofI s.dir name = none := by
          have := Hkz.out
          unfold ofZ at this
          cases hk : ofI s.dir name with
          | none => rw [hk] at this; exact ⟨this, rfl⟩
          | some k => rw [hk] at this; simp at this; omega
        have HK := Lib.hid hkz1
        clear hkz1 hneg
        by_cases hb0 : 0 < b.size
        · have j1 : (0 : Int) < b.size := by omega
          by_cases hroom : s.room < (U : Int) + b.size
          · have hd : D = (⟨#[]⟩, 33, { s with n := s.n + 1 }) := (Step.out D HD.out).trans (by rw [← Hu.out.2, if_pos ⟨hb0, hroom⟩])
            subst hd
            have j2 : s.room < (U : Int) + (b.size : Int) := hroom
            clear hroom
            go_wp2_with fail
            go_quiet ((go_at_call 66; exact Hq.out _))
            go_wp2_with fail
            go_ret2
            exact ⟨rfl, (RX.keep h4 ((Frm.refl (fun _ => False) w4).drewN _)).mono (fun _ h => .inl h), F4.drewN _⟩
          · have j2 : decide (s.room < (U : Int) + (b.size : Int)) = false := decide_eq_false hroom
            have hfull : ¬ (0 < b.size ∧ s.room < (used s : Int) + b.size) := by rw [← Hu.out.2]; exact fun h => hroom h.2
            have Hfull := Lib.hid hfull
            clear hroom hfull
            go_wp2_with fail
            go_quiet ((go_at_call 66; exact Hq.out _))
            replace h4 := RX.keep h4 ((Frm.refl (fun _ => False) w4).drewN nq)
            replace F4 := F4.drewN nq
            go_wp2_with fail
            refine (rfailing_x s.n _ h4 (by have := HW.out.nl; show s.fails.length ≤ _; omega)).mono ?_
            rintro e w5 ⟨rfl, hf5⟩
            have h5 := RX.keep h4 hf5
            have F5 : Frm B w w5 := F4.trans (keepF hf5)
            clear h4 hf5 F4 c4'
            by_cases hfl : (s.n : Int) ∈ s.fails
            · have hd : D = (⟨#[]⟩, 34, { s with n := s.n + 1 }) := (Step.out D HD.out).trans (by rw [if_neg Hfull.out, if_pos hfl])
              subst hd
              rw [decide_eq_true (p := (s.n : Int) ∈ ({ s with n := s.n + 1 } : DS).fails) hfl]
              clear hfl
              go_wp2_with fail
              refine (rfail_no 0 kz w5 (by decide) (by decide)).mono ?_
              rintro e w6 ⟨rfl, rfl⟩
              go_wp2_with fail
              go_ret2
              exact ⟨rfl, h5.mono (fun _ h => .inl h), F5⟩
            · have hk1 := HK.out.1
              subst hk1
              have hd : D = (⟨#[]⟩, 0, putD (newD ({ s with n := s.n + 1 } : DS) name) s.files.length b) := (Step.out D HD.out).trans (by rw [if_neg Hfull.out, if_neg hfl]; show (_, _, (match ofI s.dir name with | some k => _ | none => _)) = _; rw [HK.out.2])
              subst hd
              rw [decide_eq_false (p := (s.n : Int) ∈ ({ s with n := s.n + 1 } : DS).fails) hfl]
              clear hfl
              go_wp2_with fail
              refine (rdoes_new (B := up w w5 B) name too b w5 (h5.mono (fun _ h => .inl h)) HW.out.fl HW.out.al HW.out.dl hb).mono ?_
              rintro e w6 ⟨rfl, hx, hf⟩
              have hN := Lib.hid (RX.next F5 hf hx)
              clear hx hf
              go_wp2_with fail
              go_ret2
              exact ⟨rfl, hN.out.1, hN.out.2⟩
        · have j1 : decide ((0 : Int) < b.size) = false := decide_eq_false (by omega)
          have hfull : ¬ (0 < b.size ∧ s.room < (used s : Int) + b.size) := fun h => hb0 h.1
          have Hfull := Lib.hid hfull
          have j3 : (b.size : Int) = 0 := by omega
          clear hb0 hfull
          go_wp2_with fail
          go_quiet (fail)
          replace h4 := RX.keep h4 ((Frm.refl (fun _ => False) w4).drewN nq)
          replace F4 := F4.drewN nq
          go_wp2_with fail
          refine (rfailing_x s.n _ h4 (by have := HW.out.nl; show s.fails.length ≤ _; omega)).mono ?_
          rintro e w5 ⟨rfl, hf5⟩
          have h5 := RX.keep h4 hf5
          have F5 : Frm B w w5 := F4.trans (keepF hf5)
          clear h4 hf5 F4 c4'
          by_cases hfl : (s.n : Int) ∈ s.fails
          · have hd : D = (⟨#[]⟩, 34, { s with n := s.n + 1 }) := (Step.out D HD.out).trans (by rw [if_neg Hfull.out, if_pos hfl])
            subst hd
            rw [decide_eq_true (p := (s.n : Int) ∈ ({ s with n := s.n + 1 } : DS).fails) hfl]
            clear hfl
            go_wp2_with fail
            refine (rfail_no 0 kz w5 (by decide) (by decide)).mono ?_
            rintro e w6 ⟨rfl, rfl⟩
            go_wp2_with fail
            go_ret2
            exact ⟨rfl, h5.mono (fun _ h => .inl h), F5⟩
          · have hk1 := HK.out.1
            subst hk1
            have hd : D = (⟨#[]⟩, 0, putD (newD ({ s with n := s.n + 1 } : DS) name) s.files.length b) := (Step.out D HD.out).trans (by rw [if_neg Hfull.out, if_neg hfl]; show (_, _, (match ofI s.dir name with | some k => _ | none => _)) = _; rw [HK.out.2])
            subst hd
            rw [decide_eq_false (p := (s.n : Int) ∈ ({ s with n := s.n + 1 } : DS).fails) hfl]
            clear hfl
            go_wp2_with fail
            refine (rdoes_new (B := up w w5 B) name too b w5 (h5.mono (fun _ h => .inl h)) HW.out.fl HW.out.al HW.out.dl hb).mono ?_
            rintro e w6 ⟨rfl, hx, hf⟩
            have hN := Lib.hid (RX.next F5 hf hx)
            clear hx hf
            go_wp2_with fail
            go_ret2
            exact ⟨rfl, hN.out.1, hN.out.2⟩
      · have i1 : decide (kz < 0) = false := decide_eq_false hneg
        have i2 : 0 ≤ kz := by omega
        have hkz1 : ∃ k : Nat, kz = k ∧ ofI s.dir name = some k := by
          have := Hkz.out
          unfold ofZ at this
          cases hk : ofI s.dir name with
          | none => rw [hk] at this; simp at this; omega
          | some k => rw [hk] at this; simp at this; exact ⟨k, this, rfl⟩
        have HK := Lib.hid hkz1
        clear hkz1 hneg
        by_cases hb0 : 0 < b.size
        · have j1 : (0 : Int) < b.size := by omega
          by_cases hroom : s.room < (U : Int) + b.size
          · have hd : D = (⟨#[]⟩, 33, { s with n := s.n + 1 }) := (Step.out D HD.out).trans (by rw [← Hu.out.2, if_pos ⟨hb0, hroom⟩])
            subst hd
            have j2 : s.room < (U : Int) + (b.size : Int) := hroom
            clear hroom
            go_wp2_with fail
            go_quiet ((go_at_call 66; exact Hq.out _))
            go_wp2_with fail
            go_ret2
            exact ⟨rfl, (RX.keep h4 ((Frm.refl (fun _ => False) w4).drewN _)).mono (fun _ h => .inl h), F4.drewN _⟩
          · have j2 : decide (s.room < (U : Int) + (b.size : Int)) = false := decide_eq_false hroom
            have hfull : ¬ (0 < b.size ∧ s.room < (used s : Int) + b.size) := by rw [← Hu.out.2]; exact fun h => hroom h.2
            have Hfull := Lib.hid hfull
            clear hroom hfull
            go_wp2_with fail
            go_quiet ((go_at_call 66; exact Hq.out _))
            replace h4 := RX.keep h4 ((Frm.refl (fun _ => False) w4).drewN nq)
            replace F4 := F4.drewN nq
            go_wp2_with fail
            refine (rfailing_x s.n _ h4 (by have := HW.out.nl; show s.fails.length ≤ _; omega)).mono ?_
            rintro e w5 ⟨rfl, hf5⟩
            have h5 := RX.keep h4 hf5
            have F5 : Frm B w w5 := F4.trans (keepF hf5)
            clear h4 hf5 F4 c4'
            by_cases hfl : (s.n : Int) ∈ s.fails
            · have hd : D = (⟨#[]⟩, 34, { s with n := s.n + 1 }) := (Step.out D HD.out).trans (by rw [if_neg Hfull.out, if_pos hfl])
              subst hd
              rw [decide_eq_true (p := (s.n : Int) ∈ ({ s with n := s.n + 1 } : DS).fails) hfl]
              clear hfl
              go_wp2_with fail
              refine (rfail_no 0 kz w5 (by decide) (by decide)).mono ?_
              rintro e w6 ⟨rfl, rfl⟩
              go_wp2_with fail
              go_ret2
              exact ⟨rfl, h5.mono (fun _ h => .inl h), F5⟩
            · obtain ⟨k, hk1, hk2⟩ := HK.out
              subst hk1
              have hkl : k < s.files.length := ofI_lt hk2 HW.out.inn
              have hd : D = (⟨#[]⟩, 0, putD ({ s with n := s.n + 1 } : DS) k b) := (Step.out D HD.out).trans (by rw [if_neg Hfull.out, if_neg hfl]; show (_, _, (match ofI s.dir name with | some k => _ | none => _)) = _; rw [hk2])
              subst hd
              rw [decide_eq_false (p := (s.n : Int) ∈ ({ s with n := s.n + 1 } : DS).fails) hfl]
              clear hfl hk2
              go_wp2_with fail
              refine (rdoes_put (B := up w w5 B) k name too b w5 (h5.mono (fun _ h => .inl h)) hkl (by have := HW.out.fl; show s.files.length ≤ _; omega) (by have := HW.out.al; show s.acts.length ≤ _; omega) (by have := HW.out.dl; show s.dir.length ≤ _; omega) (hsz k)).mono ?_
              rintro e w6 ⟨rfl, hx, hf⟩
              have hN := Lib.hid (RX.next F5 hf hx)
              clear hx hf
              go_wp2_with fail
              go_ret2
              exact ⟨rfl, hN.out.1, hN.out.2⟩
        · have j1 : decide ((0 : Int) < b.size) = false := decide_eq_false (by omega)
          have hfull : ¬ (0 < b.size ∧ s.room < (used s : Int) + b.size) := fun h => hb0 h.1
          have Hfull := Lib.hid hfull
          have j3 : (b.size : Int) = 0 := by omega
          clear hb0 hfull
          go_wp2_with fail
          go_quiet (fail)
          replace h4 := RX.keep h4 ((Frm.refl (fun _ => False) w4).drewN nq)
          replace F4 := F4.drewN nq
          go_wp2_with fail
          refine (rfailing_x s.n _ h4 (by have := HW.out.nl; show s.fails.length ≤ _; omega)).mono ?_
          rintro e w5 ⟨rfl, hf5⟩
          have h5 := RX.keep h4 hf5
          have F5 : Frm B w w5 := F4.trans (keepF hf5)
          clear h4 hf5 F4 c4'
          by_cases hfl : (s.n : Int) ∈ s.fails
          · have hd : D = (⟨#[]⟩, 34, { s with n := s.n + 1 }) := (Step.out D HD.out).trans (by rw [if_neg Hfull.out, if_pos hfl])
            subst hd
            rw [decide_eq_true (p := (s.n : Int) ∈ ({ s with n := s.n + 1 } : DS).fails) hfl]
            clear hfl
            go_wp2_with fail
            refine (rfail_no 0 kz w5 (by decide) (by decide)).mono ?_
            rintro e w6 ⟨rfl, rfl⟩
            go_wp2_with fail
            go_ret2
            exact ⟨rfl, h5.mono (fun _ h => .inl h), F5⟩
          · obtain ⟨k, hk1, hk2⟩ := HK.out
            subst hk1
            have hkl : k < s.files.length := ofI_lt hk2 HW.out.inn
            have hd : D = (⟨#[]⟩, 0, putD ({ s with n := s.n + 1 } : DS) k b) := (Step.out D HD.out).trans (by rw [if_neg Hfull.out, if_neg hfl]; show (_, _, (match ofI s.dir name with | some k => _ | none => _)) = _; rw [hk2])
            subst hd
            rw [decide_eq_false (p := (s.n : Int) ∈ ({ s with n := s.n + 1 } : DS).fails) hfl]
            clear hfl hk2
            go_wp2_with fail
            refine (rdoes_put (B := up w w5 B) k name too b w5 (h5.mono (fun _ h => .inl h)) hkl (by have := HW.out.fl; show s.files.length ≤ _; omega) (by have := HW.out.al; show s.acts.length ≤ _; omega) (by have := HW.out.dl; show s.dir.length ≤ _; omega) (hsz k)).mono ?_
            rintro e w6 ⟨rfl, hx, hf⟩
            have hN := Lib.hid (RX.next F5 hf hx)
            clear hx hf
            go_wp2_with fail
            go_ret2
            exact ⟨rfl, hN.out.1, hN.out.2⟩

end Go.Proofs.Ytngickhakedonaa

namespace Go.Proofs.Ytngickhakedonaa
open Go.RowKit Go.Tk Go.Dk

variable {r : Nat} {s : DS} {B : Nat → Prop}

/-- its size by name; -1: none -/
def sizeD (s : DS) (name : ByteArray) : Int := match ofI s.dir name with | some k => (getF s k).1.size | none => -1

theorem ofI_Z {l : List Nm} {s : ByteArray} {k : Nat} (h : ofI l s = some k) : ofZ l s = (k : Nat) := by simp [ofZ, h]
theorem ofI_N {l : List Nm} {s : ByteArray} (h : ofI l s = none) : ofZ l s = -1 := by simp [ofZ, h]

set_option maxRecDepth 100000 in
set_option maxHeartbeats 1000000 in
theorem rsize_any (name : ByteArray) (w : World) (h : RX w r B s) (hw : Wf s) :
    Calls Try.prog 48 #[.pointer (some ⟨r, 0, none⟩), .string name] w fun e w' => e = .returned (.int .i64 (sizeD s name)) ∧ Frm (fun _ => False) w w' := by
  obtain ⟨vf, vd, vs, va, _, _, _, c1, hdir, _, _, _, _, _, _, fz, hrlt, hBr⟩ := RX.head h
  have Hdir := Lib.hid hdir
  have HW := Lib.hid hw
  clear hdir hw
  go_enter Try.func48, Try.ntmps48
  go_wp2_with fail
  refine (of_any _ s.dir name w Hdir.out (by have := HW.out.dl; omega)).mono ?_
  rintro e w4 ⟨rfl, hf4⟩
  have h4 := RX.keep h hf4
  clear c1 fz h
  cases hk : ofI s.dir name with
  | none =>
    rw [ofI_N hk]
    have hd : sizeD s name = -1 := by simp [sizeD, hk]
    have Hd := Lib.hid hd
    clear hk hd
    go_wp2_with fail
    go_ret
    exact ⟨by rw [Hd.out]; rfl, hf4⟩
  | some k =>
    have hkl : k < s.files.length := ofI_lt hk HW.out.inn
    rw [ofI_Z hk]
    have hd : sizeD s name = (getF s k).1.size := by simp [sizeD, hk]
    obtain ⟨g, cap, c0, hle, f0, f1, _⟩ := RX.put h4 hkl
    have i1 : (0 : Int) ≤ k := by omega
    have i2 : (k : Int) < s.files.length := by omega
    have i3 : decide ((k : Int) < 0) = false := by simp
    have Hd := Lib.hid hd
    clear hk hd h4
    go_wp2_with fail
    go_ret
    exact ⟨by rw [Hd.out]; rfl, hf4⟩

theorem rcut_any (op : Int) (w : World) (h : RX w r B s) :
    Calls Try.prog 44 #[.pointer (some ⟨r, 0, none⟩), .int .i64 op] w fun e w' => e = .returned (.tuple #[]) ∧ RX w' r B { s with off := false, cut := op } ∧ Frm B w w' := by
  obtain ⟨vf, vd, vs, va, vn, h, h0, h1, h2, h3, h4, h5⟩ := h
  have c6 := h.c6
  have c7 := h.c7
  have fz := h.fz.frozen
  have H := Lib.hid (RD.set_cut (RD.set_off h false) op)
  clear h
  go_enter Try.func44, Try.ntmps44
  go_wp2_with fail
  go_end0
  exact ⟨rfl, ⟨_, _, _, _, _, H.out, h0, h1, h2, h3, h4, h5⟩, ((Frm.refl B w).setCell (p := ⟨r, 6, none⟩) (fun _ => h0) _).setCell (p := ⟨r, 7, none⟩) (fun _ => h0) _⟩

def newDS (room : Int) : DS := { files := [], dir := [], sure := [], acts := [], room := room, n := 0, off := false, cut := -1, fails := [] }

theorem rnew_any (room : Int) (w : World) :
    Calls Try.prog 16 #[.int .i64 room] w fun e w' => e = .returned (.pointer (some ⟨w.heap.size, 0, none⟩)) ∧ RX w' w.heap.size (fun b => b = w.heap.size) (newDS room) ∧ Frm (fun _ => False) w w' ∧ w'.heap.size = w.heap.size + 1 := by
  go_enter Try.func16, Try.ntmps16
  go_wp2_with fail
  go_ret
  refine ⟨rfl, ⟨.slice none 0 0, .slice none 0 0, .slice none 0 0, .slice none 0 0, .slice none 0 0, ⟨by simp, by simp, by simp, by simp, by simp [newDS], by simp [newDS], by simp [newDS], by simp [newDS], by simp, Fz.new _ _ _, World.ownsRow_nil _ _ _ _, Rw.nil _ _ _, Rw.nil _ _ _, Rw.nil _ _ _, Rw.nil _ _ _, by simp [Value.ownBlock], ?_, ?_, ?_, ?_⟩, rfl, ?_, ?_, ?_, ?_, ?_⟩, (Frm.refl _ _).alloc _, by simp⟩ <;> (intro b hb; cases hb)
end Go.Proofs.Ytngickhakedonaa

namespace Go.Proofs.Ytngickhakedonaa
open Go.RowKit Go.Tk Go.Dk

variable {r : Nat} {s : DS} {B : Nat → Prop}

/-- is a stretch not within? -/
def beyond (p c : Int) (n : Nat) : Prop := p < 0 ∨ c < 0 ∨ (n : Int) < p ∨ (n : Int) - p < c
instance (p c : Int) (n : Nat) : Decidable (beyond p c n) := by unfold beyond; infer_instance

def readAtD (s : DS) (name : ByteArray) (p c : Int) : ByteArray × Int × DS :=
  if gone s = true then (⟨#[]⟩, 35, { s with off := true })
  else if okName name = false then (⟨#[]⟩, 30, { s with n := s.n + 1 })
  else match ofI s.dir name with
    | none => (⟨#[]⟩, 32, { s with n := s.n + 1 })
    | some k =>
      if beyond p c (getF s k).1.size then (⟨#[]⟩, 2, { s with n := s.n + 1 })
      else if (s.n : Int) ∈ s.fails then (⟨#[]⟩, 34, { s with n := s.n + 1 })
      else ((getF s k).1.extract p.toNat (p + c).toNat, 0, { s with n := s.n + 1 })

set_option maxRecDepth 100000 in
set_option maxHeartbeats 2000000 in
theorem rreadAt_any (name : ByteArray) (p c : Int) (w : World) (h : RX w r B s) (hw : Wf s) (hn : name.size ≤ 2305843009213693952) (hp : -9223372036854775808 ≤ p) (hp' : p ≤ 9223372036854775807) (hc : -9223372036854775808 ≤ c) (hc' : c ≤ 9223372036854775807) :
    Calls Try.prog 47 #[.pointer (some ⟨r, 0, none⟩), .string name, .int .i64 p, .int .i64 c] w fun e w' => e = .returned (.tuple #[.string (readAtD s name p c).1, .int .i64 (readAtD s name p c).2.1]) ∧ RX w' r B (readAtD s name p c).2.2 ∧ Frm B w w' := by
  obtain ⟨D, hD⟩ : ∃ D, readAtD s name p c = D := ⟨_, rfl⟩
  rw [hD]
  have HD := Lib.hid hD
  clear hD
  have HW := Lib.hid hw
  clear hw
  go_enter Try.func47, Try.ntmps47
  go_wp2_with fail
  refine (rstarts_x w h HW.out.n).mono ?_
  rintro e w1 ⟨rfl, h1, hf1⟩
  by_cases hg : gone s = true
  · have hd : readAtD s name p c = (⟨#[]⟩, 35, { s with off := true }) := by unfold readAtD; rw [if_pos hg]
    obtain rfl := HD.out.symm.trans hd
    rw [hg]
    rw [if_pos hg] at h1
    clear hd hg
    go_wp2_with fail
    go_ret2
    exact ⟨rfl, h1, hf1⟩
  · rw [if_neg hg] at h1
    have hg' : gone s = false := Bool.eq_false_iff.2 hg
    have Hg := Lib.hid hg
    rw [if_neg hg, hg']
    clear hg hg'
    go_wp2_with fail
    refine (isName_any name w1 hn).mono ?_
    rintro e w2 ⟨rfl, hf2⟩
    have h3 := RX.keep h1 hf2
    have F3 : Frm B w w2 := hf1.trans (keepF hf2)
    clear h1 hf2 hf1
    cases ho : okName name with
    | false =>
      have hd : readAtD s name p c = (⟨#[]⟩, 30, { s with n := s.n + 1 }) := by unfold readAtD; rw [if_neg Hg.out, if_pos ho]
      obtain rfl := HD.out.symm.trans hd
      clear hd ho
      go_wp2_with fail
      go_ret2
      exact ⟨rfl, h3, F3⟩
    | true =>
      obtain ⟨vf, vd, vs, va, _, _, _, c1, hdir, _, _, _, _, _, _, fz, hrlt, hBr⟩ := RX.head h3
      have Hdir := Lib.hid hdir
      obtain ⟨ao, cap, hv, _⟩ := hdir
      subst hv
      have Ho := Lib.hid ho
      clear ho
      go_wp2_with fail
      refine (of_any _ s.dir name w2 Hdir.out (by have := HW.out.dl; omega)).mono ?_
      rintro e w4 ⟨rfl, hf4⟩
      have h4 := RX.keep h3 hf4
      have F4 : Frm B w w4 := F3.trans (keepF hf4)
      clear h3 hf4 F3 c1 fz Hdir
      cases hk : ofI s.dir name with
      | none =>
        have hd : readAtD s name p c = (⟨#[]⟩, 32, { s with n := s.n + 1 }) := by unfold readAtD; rw [if_neg Hg.out, if_neg (by simp [Ho.out]), hk]
        obtain rfl := HD.out.symm.trans hd
        rw [ofI_N hk]
        clear hd hk
        go_wp2_with fail
        go_ret2
        exact ⟨rfl, h4, F4⟩
      | some k =>
        have hkl : k < s.files.length := ofI_lt hk HW.out.inn
        rw [ofI_Z hk]
        have hd : readAtD s name p c = (if beyond p c (getF s k).1.size then (⟨#[]⟩, 2, { s with n := s.n + 1 }) else if (s.n : Int) ∈ s.fails then (⟨#[]⟩, 34, { s with n := s.n + 1 }) else ((getF s k).1.extract p.toNat (p + c).toNat, 0, { s with n := s.n + 1 })) := by unfold readAtD; rw [if_neg Hg.out, if_neg (by simp [Ho.out]), hk]
        have Hd := Lib.hid hd
        have hsz : (getF s k).1.size ≤ 100000000000 := (HW.out.each k).2
        obtain ⟨g, cap0, c0, hle, f0, f1, _⟩ := RX.put (s := { s with n := s.n + 1 }) h4 hkl
        have i1 : decide ((k : Int) < 0) = false := by simp
        have i2 : (0 : Int) ≤ k := by omega
        have i3 : (k : Int) < s.files.length := by omega
        have e1 : (getF ({ s with n := s.n + 1 } : DS) k).1 = (getF s k).1 := rfl
        rw [e1] at f0
        generalize hX : (getF s k).1 = X at *
        have H4 := Lib.hid (And.intro h4 F4)
        have HX := Lib.hid hX
        clear hd hk e1 h4 F4 f1 hX
        by_cases q1 : p < 0
        · have t1 : p < 0 := q1
          have hd2 : D = (⟨#[]⟩, 2, { s with n := s.n + 1 }) := (HD.out.symm.trans Hd.out).trans (if_pos (.inl q1))
          subst hd2
          go_wp2_with fail
          go_ret2
          exact ⟨rfl, H4.out.1, H4.out.2⟩
        have t1 : decide (p < 0) = false := decide_eq_false q1
        by_cases q2 : c < 0
        · have t2 : c < 0 := q2
          have hd2 : D = (⟨#[]⟩, 2, { s with n := s.n + 1 }) := (HD.out.symm.trans Hd.out).trans (if_pos (.inr (.inl q2)))
          subst hd2
          go_wp2_with fail
          go_ret2
          exact ⟨rfl, H4.out.1, H4.out.2⟩
        have t2 : decide (c < 0) = false := decide_eq_false q2
        by_cases q3 : (X.size : Int) < p
        · have t3 : (X.size : Int) < p := q3
          have hd2 : D = (⟨#[]⟩, 2, { s with n := s.n + 1 }) := (HD.out.symm.trans Hd.out).trans (if_pos (.inr (.inr (.inl q3))))
          subst hd2
          go_wp2_with fail
          go_ret2
          exact ⟨rfl, H4.out.1, H4.out.2⟩
        have t3 : decide ((X.size : Int) < p) = false := decide_eq_false q3
        have r1 : -9223372036854775808 ≤ (X.size : Int) - p := by omega
        have r2 : (X.size : Int) - p ≤ 9223372036854775807 := by omega
        by_cases q4 : (X.size : Int) - p < c
        · have t4 : (X.size : Int) - p < c := q4
          have hd2 : D = (⟨#[]⟩, 2, { s with n := s.n + 1 }) := (HD.out.symm.trans Hd.out).trans (if_pos (.inr (.inr (.inr q4))))
          subst hd2
          go_wp2_with fail
          go_ret2
          exact ⟨rfl, H4.out.1, H4.out.2⟩
        have t4 : decide ((X.size : Int) - p < c) = false := decide_eq_false q4
        have hnb : ¬ beyond p c X.size := by unfold beyond; omega
        have Hnb := Lib.hid hnb
        have u1 : 0 ≤ p := by omega
        have u2 : 0 ≤ c := by omega
        have u3 : p + c ≤ (X.size : Int) := by omega
        have u4 : p ≤ p + c := by omega
        have u5 : p + c ≤ 9223372036854775807 := by omega
        clear q1 q2 q3 q4 hnb
        go_wp2_with fail
        refine (rfailing_x s.n w4 H4.out.1 (by have := HW.out.nl; show s.fails.length ≤ _; omega)).mono ?_
        rintro e w5 ⟨rfl, hf5⟩
        have h5 := RX.keep H4.out.1 hf5
        have F5 : Frm B w w5 := H4.out.2.trans (keepF hf5)
        clear hf5 c0 f0
        by_cases hfl : (s.n : Int) ∈ s.fails
        · have hd2 : D = (⟨#[]⟩, 34, { s with n := s.n + 1 }) := (HD.out.symm.trans Hd.out).trans (by rw [if_neg Hnb.out, if_pos hfl])
          subst hd2
          rw [decide_eq_true (p := (s.n : Int) ∈ ({ s with n := s.n + 1 } : DS).fails) hfl]
          clear hfl
          go_wp2_with fail
          go_ret2
          exact ⟨rfl, h5, F5⟩
        · have hd2 : D = (X.extract p.toNat (p + c).toNat, 0, { s with n := s.n + 1 }) := (HD.out.symm.trans Hd.out).trans (by rw [if_neg Hnb.out, if_neg hfl])
          subst hd2
          rw [decide_eq_false (p := (s.n : Int) ∈ ({ s with n := s.n + 1 } : DS).fails) hfl]
          clear hfl
          go_wp2_with fail
          go_ret2
          exact ⟨rfl, h5, F5⟩
end Go.Proofs.Ytngickhakedonaa

namespace Go.Proofs.Ytngickhakedonaa
open Go.RowKit Go.Tk Go.Dk

/-! ### the order of names -/
theorem bl_irrefl : ∀ x : List UInt8, Op.bytesLess x x = false
  | [] => rfl
  | a :: x => by simp [Op.bytesLess, bl_irrefl x]
theorem bl_trans : ∀ x y z : List UInt8, Op.bytesLess x y = true → Op.bytesLess y z = true → Op.bytesLess x z = true
  | _, [], _, h, _ => by simp [Op.bytesLess] at h
  | _, _ :: _, [], _, h => by simp [Op.bytesLess] at h
  | [], _ :: _, _ :: _, _, _ => rfl
  | a :: x, b :: y, c :: z, h, k => by
    simp only [Op.bytesLess, Bool.or_eq_true, decide_eq_true_eq, Bool.and_eq_true, beq_iff_eq, UInt8.lt_iff_toNat_lt] at h k ⊢
    rcases h with h | ⟨rfl, h⟩ <;> rcases k with k | ⟨rfl, k⟩
    · exact .inl (by omega)
    · exact .inl h
    · exact .inl k
    · exact .inr ⟨rfl, bl_trans x y z h k⟩
theorem bl_tri : ∀ x y : List UInt8, Op.bytesLess x y = false → x ≠ y → Op.bytesLess y x = true
  | [], [], _, h => absurd rfl h
  | [], _ :: _, h, _ => by simp [Op.bytesLess] at h
  | _ :: _, [], _, _ => rfl
  | a :: x, b :: y, h, k => by
    simp only [Op.bytesLess, Bool.or_eq_false_iff, decide_eq_false_iff_not, Bool.and_eq_false_iff, beq_eq_false_iff_ne, UInt8.lt_iff_toNat_lt, Bool.or_eq_true, decide_eq_true_eq, Bool.and_eq_true, beq_iff_eq] at h ⊢
    by_cases e : a = b
    · subst e
      refine .inr ⟨rfl, bl_tri x y (h.2.resolve_left (fun h => h rfl)) (fun e => k (by rw [e]))⟩
    · have : a.toNat ≠ b.toNat := fun e2 => e (UInt8.toNat_inj.1 e2)
      exact .inl (by omega)

theorem toList_inj {a b : ByteArray} (h : a.toList = b.toList) : a = b := by
  by_cases e : a = b
  · exact e
  · have := (Lib.bytes_beq_false_iff a b).2 e
    rw [h] at this
    simp at this
theorem gtB_iff {a b : ByteArray} : gtB a b = true ↔ Op.bytesLess b.toList a.toList = true := by
  unfold gtB
  constructor
  · intro h
    simp at h
    exact bl_tri _ _ h.1 (by simpa using h.2)
  · intro h
    cases h1 : Op.bytesLess a.toList b.toList with
    | true => have := bl_trans _ _ _ h1 h; rw [bl_irrefl] at this; cases this
    | false =>
      cases h2 : a.toList == b.toList with
      | true => rw [beq_iff_eq.1 h2, bl_irrefl] at h; cases h
      | false => rfl
theorem gtB_irrefl (a : ByteArray) : gtB a a = false := by
  cases h : gtB a a with
  | false => rfl
  | true => rw [gtB_iff, bl_irrefl] at h; cases h
theorem gtB_trans {a b c : ByteArray} (h : gtB a b = true) (k : gtB b c = true) : gtB a c = true := by
  rw [gtB_iff] at *; exact bl_trans _ _ _ k h
theorem gtB_tri {a b : ByteArray} (h : gtB a b = false) (k : a ≠ b) : gtB b a = true := by
  rw [gtB_iff]
  cases h1 : Op.bytesLess a.toList b.toList with
  | true => rfl
  | false =>
    have : gtB a b = true := by
      rw [gtB_iff]
      exact bl_tri _ _ h1 (fun e => k (toList_inj e))
    rw [h] at this; cases this

/-! ### directories -/
abbrev NSorted (l : List Nm) : Prop := l.Pairwise fun a b => gtB b.1 a.1 = true
structure OkDir (l : List Nm) : Prop where
  srt : NSorted l
  vals : (l.map (·.2)).Nodup
theorem NSorted.names {l : List Nm} (h : NSorted l) : (l.map (·.1)).Nodup := by
  rw [List.Nodup, List.pairwise_map]
  exact h.imp fun {a b} hab e => by rw [e, gtB_irrefl] at hab; cases hab

theorem ofI_some {l : List Nm} {s : ByteArray} {k : Nat} (hn : (l.map (·.1)).Nodup) : ofI l s = some k ↔ (s, k) ∈ l := by
  induction l with
  | nil => simp [ofI]
  | cons x l ih =>
    simp only [List.map_cons, List.nodup_cons] at hn
    unfold ofI at *
    rw [List.find?_cons]
    by_cases e : x.1 = s
    · simp only [e, decide_true, Option.map_some, Option.some.injEq, List.mem_cons]
      constructor
      · intro h; left; rw [← e, ← h]
      · rintro (h | h)
        · rw [← h]
        · exfalso; exact hn.1 (by rw [e]; exact List.mem_map.2 ⟨_, h, rfl⟩)
    · simp only [e, decide_false, List.mem_cons]
      rw [ih hn.2]
      constructor
      · exact fun h => .inr h
      · rintro (h | h)
        · exact absurd (by rw [← h]) e
        · exact h
theorem ofI_none {l : List Nm} {s : ByteArray} : ofI l s = none ↔ ∀ x ∈ l, x.1 ≠ s := by
  unfold ofI
  simp
theorem ofI_perm {l l' : List Nm} (s : ByteArray) (h : l.Perm l') (hn : (l.map (·.1)).Nodup) : ofI l s = ofI l' s := by
  have hn' : (l'.map (·.1)).Nodup := (h.map _).nodup_iff.1 hn
  cases h1 : ofI l' s with
  | some k => rw [ofI_some hn'] at h1; rw [ofI_some hn]; exact h.mem_iff.2 h1
  | none => rw [ofI_none] at h1 ⊢; exact fun x hx => h1 x (h.mem_iff.1 hx)

theorem wi_perm (l : List Nm) (s : ByteArray) (k : Nat) : (wi l s k).Perm ((s, k) :: l) := by
  unfold wi
  refine List.perm_middle.trans (List.Perm.cons _ ?_)
  rw [List.takeWhile_append_dropWhile]
theorem wo_none {l : List Nm} {s : ByteArray} : ∀ x ∈ wo l s, x.1 ≠ s := by
  intro x hx
  unfold wo at hx
  simpa using (List.mem_filter.1 hx).2
theorem wo_sub (l : List Nm) (s : ByteArray) : (wo l s).Sublist l := List.filter_sublist
theorem OkDir.sub {l l' : List Nm} (h : OkDir l) (hs : l'.Sublist l) : OkDir l' := ⟨h.srt.sublist hs, h.vals.sublist (hs.map _)⟩

theorem wi_sorted {l : List Nm} {s : ByteArray} {k : Nat} (h : NSorted l) (hn : ∀ x ∈ l, x.1 ≠ s) : NSorted (wi l s k) := by
  unfold wi
  induction l with
  | nil => simp [NSorted]
  | cons x l ih =>
    have h2 := List.pairwise_cons.1 h
    rw [List.takeWhile_cons, List.dropWhile_cons]
    cases hx : gtB x.1 s with
    | true =>
      simp only [Bool.not_true, Bool.false_eq_true, if_false, List.nil_append]
      refine List.pairwise_cons.2 ⟨?_, h⟩
      intro y hy
      rcases List.mem_cons.1 hy with rfl | hy
      · exact hx
      · exact gtB_trans (h2.1 y hy) hx
    | false =>
      simp only [Bool.not_false, if_true, List.cons_append]
      refine List.pairwise_cons.2 ⟨?_, ih h2.2 (fun y hy => hn y (List.mem_cons_of_mem _ hy))⟩
      intro y hy
      rcases List.mem_append.1 hy with hy | hy
      · exact h2.1 y (List.takeWhile_subset _ hy)
      · rcases List.mem_cons.1 hy with rfl | hy
        · exact gtB_tri hx (hn x (by simp))
        · exact h2.1 y (List.dropWhile_subset _ hy)
theorem wi_ok {l : List Nm} {s : ByteArray} {k : Nat} (h : OkDir l) (hn : ∀ x ∈ l, x.1 ≠ s) (hk : ∀ x ∈ l, x.2 ≠ k) : OkDir (wi l s k) := by
  refine ⟨wi_sorted h.srt hn, ?_⟩
  rw [((wi_perm l s k).map (·.2)).nodup_iff]
  simp only [List.map_cons, List.nodup_cons]
  refine ⟨fun hm => ?_, h.vals⟩
  obtain ⟨x, hx, e⟩ := List.mem_map.1 hm
  exact hk x hx e

/-- may an act be done? -/
def OkAct (l : List Nm) : DAct → Prop
  | .mk n k => (∀ x ∈ l, x.1 ≠ n) ∧ ∀ x ∈ l, x.2 ≠ k
  | .mv a b => (ofI l a).isSome = true ∧ a ≠ b
  | .rm _ => True
  | .put _ _ => True
theorem mem_of_ofI {l : List Nm} {s : ByteArray} {k : Nat} (h : ofI l s = some k) : (s, k) ∈ l := by
  unfold ofI at h
  cases hf : l.find? (fun x => decide (x.1 = s)) with
  | none => rw [hf] at h; cases h
  | some x =>
    rw [hf] at h
    simp at h
    have h1 := List.mem_of_find?_eq_some hf
    have h2 := List.find?_some hf
    simp at h2
    rw [← h, ← h2]; exact h1
theorem val_inj {l : List Nm} (hv : (l.map (·.2)).Nodup) {x y : Nm} (hx : x ∈ l) (hy : y ∈ l) (e : x.2 = y.2) : x = y := by
  induction l with
  | nil => cases hx
  | cons z l ih =>
    simp only [List.map_cons, List.nodup_cons] at hv
    rcases List.mem_cons.1 hx with hx1 | hx1 <;> rcases List.mem_cons.1 hy with hy1 | hy1
    · rw [hx1, hy1]
    · exfalso; apply hv.1; rw [← hx1, e]; exact List.mem_map.2 ⟨y, hy1, rfl⟩
    · exfalso; apply hv.1; rw [← hy1, ← e]; exact List.mem_map.2 ⟨x, hx1, rfl⟩
    · exact ih hv.2 hx1 hy1
theorem done_ok {l : List Nm} {a : DAct} (h : OkDir l) (ha : OkAct l a) : OkDir (doneD l a) := by
  cases a with
  | mk n k => exact wi_ok h ha.1 ha.2
  | mv a b =>
    obtain ⟨k, hk⟩ := Option.isSome_iff_exists.1 ha.1
    have hm := mem_of_ofI hk
    show OkDir (wi _ b ((ofI l a).getD 0))
    rw [hk]
    refine wi_ok (h.sub ((wo_sub _ _).trans (wo_sub _ _))) wo_none (fun x hx e => ?_)
    have h1 := (wo_sub _ _).subset hx
    have h2 := (wo_sub _ _).subset h1
    have h3 := val_inj h.vals h2 hm e
    exact wo_none x h1 (by rw [h3])
  | rm n => exact h.sub (wo_sub _ _)
  | put k n => exact h

def replay (l : List Nm) (az : List DAct) : List Nm := az.foldl doneD l
def Acts : List Nm → List DAct → Prop
  | _, [] => True
  | l, a :: az => OkAct l a ∧ Acts (doneD l a) az
theorem acts_snoc (a : DAct) : ∀ (az : List DAct) (l : List Nm), Acts l (az ++ [a]) ↔ Acts l az ∧ OkAct (replay l az) a
  | [], l => by simp [Acts, replay]
  | b :: az, l => by
    show OkAct l b ∧ Acts _ (az ++ [a]) ↔ (OkAct l b ∧ Acts _ az) ∧ OkAct (replay (doneD l b) az) a
    rw [acts_snoc a az, and_assoc]
theorem acts_ok : ∀ (az : List DAct) (l : List Nm), OkDir l → Acts l az → OkDir (replay l az)
  | [], _, h, _ => h
  | _ :: az, _, h, k => acts_ok az _ (done_ok h k.1) k.2
theorem acts_take (n : Nat) : ∀ (az : List DAct) (l : List Nm), Acts l az → Acts l (az.take n) := by
  intro az
  induction az generalizing n with
  | nil => intro l h; simpa using h
  | cons a az ih =>
    intro l h
    cases n with
    | zero => exact trivial
    | succ n => exact ⟨h.1, ih n _ h.2⟩
theorem acts_get : ∀ (az : List DAct) (l : List Nm) (i : Nat) (hi : i < az.length), Acts l az → OkAct (replay l (az.take i)) az[i]
  | [], _, _, hi, _ => by simp at hi
  | a :: az, l, 0, _, h => h.1
  | a :: az, l, i + 1, hi, h => acts_get az (doneD l a) i (by simpa using hi) h.2
theorem replay_snoc (l : List Nm) (az : List DAct) (a : DAct) : replay l (az ++ [a]) = doneD (replay l az) a := by simp [replay]

def isPut : DAct → Bool | .put _ _ => true | _ => false
theorem lsA_dir (k : Nat) {a : DAct} (h : isPut a = false) : lsA k a = true := by
  cases a <;> first | (simp [isPut] at h; done) | (unfold lsA; simp)
theorem lsA_neg (a : DAct) : lsA (-1) a = isPut a := by
  cases a <;> simp [lsA, isPut]
theorem lsA_put (k j n : Nat) : lsA k (.put j n) = !decide (j = k) := by
  unfold lsA
  by_cases e : j = k
  · subst e; simp
  · have : (j : Int) ≠ k := by omega
    simp [e, this]
/-- puts do not count -/
theorem acts_puts {p : DAct → Bool} (hp : ∀ a, isPut a = false → p a = true) : ∀ (az : List DAct) (l : List Nm), (Acts l (az.filter p) ↔ Acts l az) ∧ replay l (az.filter p) = replay l az := by
  intro az
  induction az with
  | nil => intro l; exact ⟨Iff.rfl, rfl⟩
  | cons a az ih =>
    intro l
    rw [List.filter_cons]
    by_cases h : p a = true
    · rw [if_pos h]
      have := ih (doneD l a)
      exact ⟨and_congr_right fun _ => this.1, this.2⟩
    · rw [if_neg h]
      have hput : isPut a = true := by
        cases hq : isPut a with
        | true => rfl
        | false => exact absurd (hp a hq) h
      cases a with
      | put k n => 
        have := ih l
        refine ⟨?_, this.2⟩
        show _ ↔ True ∧ _
        rw [true_and]; exact this.1
      | _ => simp [isPut] at hput
theorem acts_onlyputs : ∀ (az : List DAct) (l : List Nm), (∀ a ∈ az, isPut a = true) → Acts l az ∧ replay l az = l := by
  intro az
  induction az with
  | nil => intro l _; exact ⟨trivial, rfl⟩
  | cons a az ih =>
    intro l h
    have h1 := h a (by simp)
    cases a with
    | put k n => exact ⟨⟨trivial, (ih l (fun a ha => h a (List.mem_cons_of_mem _ ha))).1⟩, (ih l (fun a ha => h a (List.mem_cons_of_mem _ ha))).2⟩
    | _ => simp [isPut] at h1

/-- how many bytes of a file are loose -/
def putN (k : Nat) : DAct → Nat | .put j n => if j = k then n else 0 | _ => 0
def puts (az : List DAct) (k : Nat) : Nat := (az.map (putN k)).sum
theorem puts_snoc (az : List DAct) (a : DAct) (k : Nat) : puts (az ++ [a]) k = puts az k + putN k a := by simp [puts]
theorem puts_filter_same (az : List DAct) (k : Nat) : puts (az.filter (lsA k)) k = 0 := by
  induction az with
  | nil => rfl
  | cons a az ih =>
    rw [List.filter_cons]
    cases a with
    | put j n =>
      rw [lsA_put]
      by_cases e : j = k
      · simp [e, ih]
      · have : puts (DAct.put j n :: az.filter (lsA k)) k = putN k (.put j n) + puts (az.filter (lsA k)) k := rfl
        simp [e, this, putN, ih]
    | _ =>
      rw [if_pos (lsA_dir k rfl)]
      show 0 + puts (az.filter (lsA k)) k = 0
      rw [ih]
theorem puts_filter_other (az : List DAct) {k j : Nat} (h : j ≠ k) : puts (az.filter (lsA k)) j = puts az j := by
  induction az with
  | nil => rfl
  | cons a az ih =>
    rw [List.filter_cons]
    by_cases hp : lsA k a = true
    · rw [if_pos hp]
      show putN j a + puts (az.filter (lsA k)) j = putN j a + puts az j
      rw [ih]
    · rw [if_neg hp]
      show _ = putN j a + puts az j
      cases a with
      | put i n =>
        rw [lsA_put] at hp
        have hi : i = k := by simpa using hp
        subst hi
        simp [putN, Ne.symm h, ih]
      | _ => exact absurd (lsA_dir k rfl) hp
theorem puts_filter_dir (az : List DAct) (k : Nat) : puts (az.filter (lsA (-1))) k = puts az k := by
  induction az with
  | nil => rfl
  | cons a az ih =>
    rw [List.filter_cons, lsA_neg]
    cases a with
    | put i n => show putN k _ + puts (az.filter (lsA (-1))) k = putN k _ + puts az k; rw [ih]
    | _ => show puts (az.filter (lsA (-1))) k = 0 + puts az k; rw [ih, Nat.zero_add]

def actLt (n : Nat) : DAct → Prop | .mk _ k => k < n | .put k _ => k < n | _ => True
/-- what holds of a disk -/
structure Inv (s : DS) : Prop where
  ok : OkDir s.sure
  acts : Acts s.sure s.acts
  fin : replay s.sure s.acts = s.dir
  slt : ∀ x ∈ s.sure, x.2 < s.files.length
  alt : ∀ a ∈ s.acts, actLt s.files.length a
  sums : ∀ k, k < s.files.length → (getF s k).2 + puts s.acts k = (getF s k).1.size

theorem doneD_lt {n : Nat} {l : List Nm} {a : DAct} (h : ∀ x ∈ l, x.2 < n) (ha : actLt n a) (hok : OkAct l a) : ∀ x ∈ doneD l a, x.2 < n := by
  cases a with
  | mk m k =>
    intro x hx
    rcases List.mem_cons.1 ((wi_perm _ _ _).mem_iff.1 hx) with rfl | hx
    · exact ha
    · exact h x hx
  | mv a b =>
    intro x hx
    obtain ⟨k, hk⟩ := Option.isSome_iff_exists.1 hok.1
    rcases List.mem_cons.1 ((wi_perm _ _ _).mem_iff.1 hx) with rfl | hx
    · show (ofI l a).getD 0 < n
      rw [hk]; exact h (a, k) (mem_of_ofI hk)
    · exact h x ((wo_sub _ _).subset ((wo_sub _ _).subset hx))
  | rm n => intro x hx; exact h x ((wo_sub _ _).subset hx)
  | put k n => exact h
theorem replay_lt {n : Nat} : ∀ (az : List DAct) (l : List Nm), (∀ x ∈ l, x.2 < n) → (∀ a ∈ az, actLt n a) → Acts l az → ∀ x ∈ replay l az, x.2 < n
  | [], _, h, _, _ => h
  | a :: az, l, h, ha, k => replay_lt az _ (doneD_lt h (ha a (by simp)) k.1) (fun b hb => ha b (List.mem_cons_of_mem _ hb)) k.2
theorem Inv.dok {s : DS} (h : Inv s) : OkDir s.dir := by rw [← h.fin]; exact acts_ok _ _ h.ok h.acts
theorem Inv.dlt {s : DS} (h : Inv s) : ∀ x ∈ s.dir, x.2 < s.files.length := by rw [← h.fin]; exact replay_lt _ _ h.slt h.alt h.acts

theorem Inv.of_same {s t : DS} (h : Inv s) (e1 : t.files = s.files) (e2 : t.dir = s.dir) (e3 : t.sure = s.sure) (e4 : t.acts = s.acts) : Inv t := by
  obtain ⟨h1, h2, h3, h4, h5, h6⟩ := h
  refine ⟨by rw [e3]; exact h1, by rw [e3, e4]; exact h2, by rw [e3, e4, e2]; exact h3, by rw [e3, e1]; exact h4, by rw [e4, e1]; exact h5, ?_⟩
  unfold getF at *
  rw [e1, e4]; exact h6
end Go.Proofs.Ytngickhakedonaa

namespace Go.Proofs.Ytngickhakedonaa
open Go.RowKit Go.Tk

/-- a text's bytes in a row of their own -/
theorem conv_bytes (X : ByteArray) (w : World) : ∃ w5 cap, (convert 9 45 (.string X)).run Try.prog w = .ok (.slice (some ⟨w.heap.size, 0, none⟩) X.size cap) w5 ∧ X.size ≤ cap ∧ Frm (fun _ => False) w w5 ∧ Lib.Bytes w5 w.heap.size 0 X ∧ (∀ j, j < X.size → w5.frozen? ⟨w.heap.size, j, none⟩ = false) ∧ w5.heap.size = w.heap.size + 1 := by
  have hc := grownCap_ge w X.size 0 5
  refine ⟨_, _, run_bytes_of_string (P := Try.prog) w 9 45 5 X Try.underlying9 Try.underlying45 Try.underlying5, hc, (Frm.refl _ w).drew.alloc _, fun i hi => ?_, fun j hj => ?_, by simp⟩
  · have h1 := World.cell?_alloc_mark w.drew (bytesRow X (grownCap w X.size 0 5)) 5 ((bytesRow X (grownCap w X.size 0 5)).size, (bytesRow X (grownCap w X.size 0 5)).size + 1) (0 + i)
    have h2 := bytesRow_at X (grownCap w X.size 0 5) (0 + i) (by rw [Nat.zero_add]; exact hi)
    rw [h2] at h1
    simp only [Nat.zero_add] at h1 ⊢
    exact h1
  · have h1 := World.frozen?_alloc_mark w.drew (bytesRow X (grownCap w X.size 0 5)) 5 (bytesRow X (grownCap w X.size 0 5)).size ((bytesRow X (grownCap w X.size 0 5)).size + 1) j
    have h2 : j < (bytesRow X (grownCap w X.size 0 5)).size := by
      have := bytesRow_at X (grownCap w X.size 0 5) j hj
      exact (Array.getElem?_eq_some_iff.1 this).1
    rw [decide_eq_false (by omega)] at h1
    exact h1
end Go.Proofs.Ytngickhakedonaa

namespace Go.Proofs.Ytngickhakedonaa
open Go.RowKit Go.Tk Go.Dk

variable {r : Nat} {s : DS} {B : Nat → Prop}

/-- bits of a byte turned -/
def xorB (s : ByteArray) (i : Nat) (v : Nat) : ByteArray := ⟨s.data.modify i fun x => UInt8.ofNat (x.toNat ^^^ v)⟩
theorem xorB_size (s : ByteArray) (i v : Nat) : (xorB s i v).size = s.size := by
  show (s.data.modify i _).size = s.data.size
  simp
theorem xorB_at (s : ByteArray) (i v j : Nat) (hv : v < 256) (hj : j < s.size) (h : j < (xorB s i v).size) : ((xorB s i v)[j].toNat) = if i = j then s[j].toNat ^^^ v else s[j].toNat := by
  have g : ∀ h' : j < (s.data.modify i fun x => UInt8.ofNat (x.toNat ^^^ v)).size, ((s.data.modify i fun x => UInt8.ofNat (x.toNat ^^^ v))[j]'h').toNat = if i = j then (s.data[j]'hj).toNat ^^^ v else (s.data[j]'hj).toNat := by
    intro h'
    rw [Array.getElem_modify]
    split
    · rename_i e
      subst e
      have : (s.data[i]'hj).toNat ^^^ v < 256 := Nat.xor_lt_two_pow (n := 8) (UInt8.toNat_lt _) hv
      show (s.data[i].toNat ^^^ v) % 2 ^ 8 = _
      exact Nat.mod_eq_of_lt this
    · rfl
  exact g h

def turnD (s : DS) (name : ByteArray) (p : Int) (v : Nat) : Int × DS :=
  match ofI s.dir name with
  | none => (2, s)
  | some k => if p < 0 ∨ ((getF s k).1.size : Int) ≤ p then (2, s) else (0, { s with files := s.files.set k (xorB (getF s k).1 p.toNat v, (getF s k).2) })

set_option maxRecDepth 100000 in
set_option maxHeartbeats 1000000 in
theorem rturn_any (name : ByteArray) (p : Int) (v : Nat) (hv : v < 256) (w : World) (h : RX w r B s) (hw : Wf s) (hp : -9223372036854775808 ≤ p) (hp' : p ≤ 9223372036854775807) :
    Calls Try.prog 45 #[.pointer (some ⟨r, 0, none⟩), .string name, .int .i64 p, .int .u8 v] w fun e w' => e = .returned (.int .i64 (turnD s name p v).1) ∧ RX w' r B (turnD s name p v).2 ∧ Frm B w w' := by
  obtain ⟨D, hD⟩ : ∃ D, turnD s name p v = D := ⟨_, rfl⟩
  rw [hD]
  have HD := Lib.hid hD
  clear hD
  have HW := Lib.hid hw
  clear hw
  obtain ⟨vf, vd, vs, va, _, _, _, c1, hdir, _, _, _, _, _, _, fz, hrlt, hBr⟩ := RX.head h
  have Hdir := Lib.hid hdir
  clear hdir
  go_enter Try.func45, Try.ntmps45
  go_wp2_with fail
  refine (of_any _ s.dir name w Hdir.out (by have := HW.out.dl; omega)).mono ?_
  rintro e w4 ⟨rfl, hf4⟩
  have h4 := RX.keep h hf4
  have F4 : Frm B w w4 := keepF hf4
  clear h hf4 c1 fz Hdir
  cases hk : ofI s.dir name with
  | none =>
    have hd : D = (2, s) := HD.out.symm.trans (by unfold turnD; rw [hk])
    subst hd
    rw [ofI_N hk]
    clear hk
    go_wp2_with fail
    go_ret
    exact ⟨rfl, h4, F4⟩
  | some k =>
    have hkl : k < s.files.length := ofI_lt hk HW.out.inn
    rw [ofI_Z hk]
    have hd : D = (if p < 0 ∨ ((getF s k).1.size : Int) ≤ p then (2, s) else (0, { s with files := s.files.set k (xorB (getF s k).1 p.toNat v, (getF s k).2) })) := HD.out.symm.trans (by unfold turnD; rw [hk])
    have Hd := Lib.hid hd
    obtain ⟨g, cap0, c0, hle, f0, f1, fzg, fzr, hrlt4, hne, hset, _⟩ := RX.put h4 hkl
    have i1 : decide ((k : Int) < 0) = false := by simp
    have i2 : (0 : Int) ≤ k := by omega
    have i3 : (k : Int) < s.files.length := by omega
    have Hset := Lib.hid hset
    have H4 := Lib.hid (And.intro h4 F4)
    generalize hX : (getF s k).1 = X at *
    generalize hS : (getF s k).2 = Sx at *
    have HS := Lib.hid hS
    clear hd hk h4 F4 f1 hX hS hset
    by_cases q1 : p < 0
    · have t1 : p < 0 := q1
      have hd2 := Hd.out.trans (if_pos (.inl q1))
      subst hd2
      go_wp2_with fail
      go_ret
      exact ⟨rfl, H4.out.1, H4.out.2⟩
    have t1 : decide (p < 0) = false := decide_eq_false q1
    by_cases q2 : (X.size : Int) ≤ p
    · have t2 : (X.size : Int) ≤ p := q2
      have hd2 := Hd.out.trans (if_pos (.inr q2))
      subst hd2
      go_wp2_with fail
      go_ret
      exact ⟨rfl, H4.out.1, H4.out.2⟩
    have t2 : decide ((X.size : Int) ≤ p) = false := decide_eq_false q2
    obtain ⟨q, rfl⟩ := Int.eq_ofNat_of_zero_le (show 0 ≤ p by omega)
    have hq : q < X.size := by omega
    obtain ⟨w5, cap5, hcv, hle5, hf5, hb5, hz5, hs5⟩ := conv_bytes X w4
    have b1 := hb5 q hq
    rw [Nat.zero_add] at b1
    have z1 := hz5 q hq
    have u1 : (0 : Int) ≤ q := by omega
    have u2 : (q : Int) < (X.size : Int) := by omega
    have hxor := u8_xor_nat X[q].toNat v (UInt8.toNat_lt _) hv
    have c05 := (hf5.cell (p := ⟨r, 0, none⟩) hrlt4 (fun h => h)).trans c0
    have Hb := Lib.hid (And.intro hf5 (And.intro hb5 hs5))
    clear hf5 hb5 hz5 hs5
    go_wp2_with fail
    have hby : Lib.Bytes ((w5.setCell ⟨w4.heap.size, q, none⟩ (.int .u8 ((X[q].toNat ^^^ v : Nat) : Int))).drew) w4.heap.size 0 (xorB X q v) := by
      intro j hj
      have hj' : j < X.size := by rw [← xorB_size X q v]; exact hj
      rw [Nat.zero_add, World.cell?_drew, xorB_at X q v j hv hj' hj]
      by_cases e : q = j
      · subst e
        rw [if_pos rfl, set_same _ _ _ _ _ b1]
      · rw [if_neg e, set_off _ _ _ _ _ _ e]
        have := Hb.out.2.1 j hj'
        rwa [Nat.zero_add] at this
    have hback := Lib.run_convert_whole (P := Try.prog) _ 45 5 9 Try.underlying45 Try.underlying5 Try.underlying9 _ _ _ hby cap5
    rw [xorB_size] at hback
    have hlt4 : w4.heap.size < w5.heap.size := World.block_lt_of_cell? _ _ b1
    have hgl : g < w4.heap.size := World.block_lt_of_cell? _ _ f0
    have hne1 : w4.heap.size ≠ g := by omega
    have hne2 : w4.heap.size ≠ r := by omega
    have c0b := (set_blk w5 w4.heap.size r q 0 (.int .u8 ((X[q].toNat ^^^ v : Nat) : Int)) hne2).trans c05
    have f0b := (set_blk w5 w4.heap.size g q (k * 2) (.int .u8 ((X[q].toNat ^^^ v : Nat) : Int)) hne1).trans ((Hb.out.1.cell (p := ⟨g, k * 2, none⟩) hgl (fun h => h)).trans f0)
    have fzb : (w5.setCell ⟨w4.heap.size, q, none⟩ (.int .u8 ((X[q].toNat ^^^ v : Nat) : Int))).frozen? ⟨g, k * 2, none⟩ = false := (set_fz _ _ _ _).trans ((Hb.out.1.frozen (p := ⟨g, k * 2, none⟩) hgl (fun h => h)).trans (fzg _))
    have hF5 : Frm (fun _ => False) w4 (w5.setCell ⟨w4.heap.size, q, none⟩ (.int .u8 ((X[q].toNat ^^^ v : Nat) : Int))).drew := (Hb.out.1.setCell (p := ⟨w4.heap.size, q, none⟩) (fun h => absurd h (Nat.lt_irrefl _)) _).drew
    have HF5 := Lib.hid hF5
    have hN := RX.keep H4.out.1 hF5
    obtain ⟨g2, cap2, e0, _, _, _, _, _, _, _, hset2, _⟩ := RX.put hN hkl
    have e1 : (w5.setCell ⟨w4.heap.size, q, none⟩ (.int .u8 ((X[q].toNat ^^^ v : Nat) : Int))).drew.cell? ⟨r, 0, none⟩ = some (.slice (some ⟨g, 0, none⟩) s.files.length cap0) := c0b
    rw [e1] at e0
    have eg : g = g2 := by cases e0; rfl
    subst eg
    have hs2 := hset2 (xorB X q v)
    have Hs2 := Lib.hid hs2
    clear hN e0 e1 hset2 hs2
    clear hby hF5 hcv b1 z1 c05 c0 f0 fzg fzr
    generalize hW : w5.setCell ⟨w4.heap.size, q, none⟩ (.int .u8 ((X[q].toNat ^^^ v : Nat) : Int)) = W at *
    clear hW
    go_still_tail 9, (by kernel_rfl)
    go_wp2_with fail
    go_ret
    have hd2 := Hd.out.trans (if_neg (by omega))
    subst hd2
    refine ⟨rfl, ?_, ?_⟩
    · have := Hs2.out.1
      rw [HS.out] at this
      exact this
    · exact (H4.out.2.trans (keepF HF5.out)).trans Hs2.out.2
end Go.Proofs.Ytngickhakedonaa

namespace Go.Proofs.Ytngickhakedonaa
open Go.RowKit Go.Tk Go.Dk

theorem getF_set {s t : DS} {k : Nat} {x : Fl} (hk : k < s.files.length) (e : t.files = s.files.set k x) (j : Nat) : getF t j = if j = k then x else getF s j := by
  unfold getF
  rw [e, List.getD_eq_getElem?_getD, List.getD_eq_getElem?_getD, List.getElem?_set]
  by_cases h : k = j
  · subst h; simp [hk]
  · rw [if_neg h, if_neg (Ne.symm h)]

theorem Inv.sync {s : DS} (h : Inv s) {k : Nat} (hk : k < s.files.length) {x : Fl} (hx : x.2 = x.1.size) : Inv { s with files := s.files.set k x, acts := s.acts.filter (lsA k) } := by
  have hp := acts_puts (p := lsA k) (fun a ha => lsA_dir k ha) s.acts s.sure
  refine ⟨h.ok, hp.1.2 h.acts, hp.2.trans h.fin, fun y hy => by simpa using h.slt y hy, fun a ha => by simpa using h.alt a (List.mem_filter.1 ha).1, fun j hj => ?_⟩
  rw [getF_set (s := s) (k := k) (x := x) hk rfl]
  show _ + puts (s.acts.filter (lsA k)) j = _
  by_cases e : j = k
  · subst e
    rw [if_pos rfl, puts_filter_same, hx]; rfl
  · rw [if_neg e, puts_filter_other _ e]
    exact h.sums j (by simpa using hj)

theorem onlyputs (az : List DAct) : ∀ a ∈ az.filter (lsA (-1)), isPut a = true := by
  intro a ha
  have := (List.mem_filter.1 ha).2
  rwa [lsA_neg] at this
theorem Inv.syncdir {s : DS} (h : Inv s) : Inv { s with sure := s.dir, acts := s.acts.filter (lsA (-1)) } := by
  have hp := acts_onlyputs _ s.dir (onlyputs s.acts)
  exact ⟨h.dok, hp.1, hp.2, h.dlt, fun a ha => h.alt a (List.mem_filter.1 ha).1, fun j hj => by
    show _ + puts (s.acts.filter (lsA (-1))) j = _
    rw [puts_filter_dir]; exact h.sums j hj⟩
theorem Inv.faildir {s : DS} (h : Inv s) : Inv { s with dir := s.sure, acts := s.acts.filter (lsA (-1)) } := by
  have hp := acts_onlyputs _ s.sure (onlyputs s.acts)
  exact ⟨h.ok, hp.1, hp.2, h.slt, fun a ha => h.alt a (List.mem_filter.1 ha).1, fun j hj => by
    show _ + puts (s.acts.filter (lsA (-1))) j = _
    rw [puts_filter_dir]; exact h.sums j hj⟩

theorem Inv.act {s : DS} (h : Inv s) {a : DAct} (ha : OkAct s.dir a) (hp : isPut a = false) (hl : actLt s.files.length a) : Inv { s with acts := s.acts ++ [a], dir := doneD s.dir a } := by
  refine ⟨h.ok, (acts_snoc _ _ _).2 ⟨h.acts, by rw [h.fin]; exact ha⟩, by show replay s.sure (s.acts ++ [a]) = _; rw [replay_snoc, h.fin], h.slt, fun b hb => ?_, fun k hk => ?_⟩
  · rcases List.mem_append.1 hb with hb | hb
    · exact h.alt b hb
    · simp at hb; rw [hb]; exact hl
  · show _ + puts (s.acts ++ [a]) k = _
    rw [puts_snoc]
    have : putN k a = 0 := by cases a <;> first | rfl | (simp [isPut] at hp)
    rw [this]; exact h.sums k hk

theorem getF_newD (s : DS) (name : ByteArray) (k : Nat) : getF (newD s name) k = getF s k := by
  unfold getF newD
  rw [List.getD_eq_getElem?_getD, List.getD_eq_getElem?_getD]
  rcases Nat.lt_trichotomy k s.files.length with h | h | h
  · rw [List.getElem?_append_left h]
  · subst h
    simp
  · rw [List.getElem?_eq_none (l := s.files ++ _) (by simp; omega), List.getElem?_eq_none (by omega)]
theorem puts_lt (az : List DAct) {n : Nat} (h : ∀ a ∈ az, actLt n a) : ∀ k, n ≤ k → puts az k = 0 := by
  intro k hk
  induction az with
  | nil => rfl
  | cons a az ih =>
    show putN k a + puts az k = 0
    rw [ih (fun b hb => h b (List.mem_cons_of_mem _ hb))]
    have := h a (by simp)
    cases a <;> simp [putN, actLt] at this ⊢
    omega
theorem Inv.new {s : DS} (h : Inv s) {name : ByteArray} (hn : ofI s.dir name = none) : Inv (newD s name) := by
  refine ⟨h.ok, (acts_snoc _ _ _).2 ⟨h.acts, by show OkAct (replay s.sure s.acts) _; rw [h.fin]; exact ⟨ofI_none.1 hn, fun x hx e => by have := h.dlt x hx; omega⟩⟩, by show replay s.sure (s.acts ++ [_]) = _; rw [replay_snoc, h.fin]; rfl, fun x hx => by have := h.slt x hx; show _ < (s.files ++ [_]).length; simp; omega, fun b hb => ?_, fun k hk => ?_⟩
  · have hm : ∀ b, actLt s.files.length b → actLt (newD s name).files.length b := by
      intro b hb
      cases b <;> simp [actLt, newD] at hb ⊢ <;> omega
    rcases List.mem_append.1 hb with hb | hb
    · exact hm b (h.alt b hb)
    · simp at hb; rw [hb]; simp [actLt, newD]
  · rw [getF_newD]
    show _ + puts (s.acts ++ [_]) k = _
    rw [puts_snoc]
    show _ + (_ + 0) = _
    rcases Nat.lt_or_ge k s.files.length with hk' | hk'
    · exact h.sums k hk'
    · have e : getF s k = (⟨#[]⟩, 0) := by unfold getF; rw [List.getD_eq_getElem?_getD, List.getElem?_eq_none hk']; rfl
      rw [e, puts_lt _ h.alt k hk']; rfl
theorem Inv.put {s : DS} (h : Inv s) {k : Nat} (hk : k < s.files.length) (b : ByteArray) : Inv (putD s k b) := by
  unfold putD
  split
  · exact h
  · refine ⟨h.ok, (acts_snoc _ _ _).2 ⟨h.acts, trivial⟩, by show replay s.sure (s.acts ++ [_]) = _; rw [replay_snoc, h.fin]; rfl, fun y hy => by simpa using h.slt y hy, fun a ha => ?_, fun j hj => ?_⟩
    · rcases List.mem_append.1 ha with ha | ha
      · simpa using h.alt a ha
      · simp at ha; rw [ha]; simpa [actLt] using hk
    · rw [getF_set (s := s) (k := k) hk rfl]
      show _ + puts (s.acts ++ [_]) j = _
      rw [puts_snoc]
      have := h.sums j (by simpa using hj)
      by_cases e : j = k
      · subst e
        rw [if_pos rfl]
        simp only [putN, if_true, ByteArray.size_append]
        omega
      · rw [if_neg e]
        simp only [putN, if_neg (Ne.symm e), Nat.add_zero]
        exact this

theorem Inv.does {s : DS} (h : Inv s) {kind : Nat} (name too b : ByteArray) (hk : kind = 0 ∨ kind = 3 ∨ (ofI s.dir name).isSome = true) : Inv (doesD s kind name too b) := by
  have dlt := h.dlt
  unfold doesD
  match kind, hk with
  | 0, _ =>
    cases hf : ofI s.dir name with
    | some k => exact h.put (dlt _ (mem_of_ofI hf)) b
    | none => exact (h.new hf).put (by simp [newD]) b
  | 1, _ => exact h
  | 2, hk =>
    have hs : (ofI s.dir name).isSome = true := by simpa using hk
    obtain ⟨k, hf⟩ := Option.isSome_iff_exists.1 hs
    simp only [hf, Option.getD_some]
    exact h.sync (dlt _ (mem_of_ofI hf)) rfl
  | 3, _ => exact h.syncdir
  | 4, hk =>
    have hs : (ofI s.dir name).isSome = true := by simpa using hk
    show Inv (if name = too then s else _)
    split
    · exact h
    · exact h.act ⟨hs, by assumption⟩ rfl trivial
  | 5, _ => exact h.act (a := .rm name) trivial rfl trivial
  | (n + 6), _ => exact h
theorem Inv.fail {s : DS} (h : Inv s) {kind : Nat} (k : Nat) (hk : kind = 2 → k < s.files.length) : Inv (failD s kind k) := by
  unfold failD
  split
  · rename_i e
    refine h.sync (hk e) ?_
    have := h.sums k (hk e)
    show (getF s k).2 = ((getF s k).1.extract 0 (getF s k).2).size
    rw [ByteArray.size_extract]; omega
  · split
    · exact h.faildir
    · exact h
theorem Inv.do {s : DS} (h : Inv s) (kind : Nat) (name too b : ByteArray) : Inv (doD s kind name too b).2.2 := by
  unfold doD
  have h1 : Inv { s with n := s.n + 1 } := h.of_same rfl rfl rfl rfl
  split
  · exact h.of_same rfl rfl rfl rfl
  split
  · exact h1
  split
  · exact h1
  rename_i hc
  have hsome : kind = 0 ∨ kind = 3 ∨ (ofI s.dir name).isSome = true := by
    by_cases e0 : kind = 0
    · exact .inl e0
    by_cases e3 : kind = 3
    · exact .inr (.inl e3)
    refine .inr (.inr ?_)
    cases hf : ofI s.dir name with
    | none => exact absurd ⟨e3, e0, hf⟩ hc
    | some k => rfl
  split
  · exact h1
  split
  · refine h1.fail _ (fun e => ?_)
    rcases hsome with h2 | h2 | h2
    · omega
    · omega
    · obtain ⟨k, hf⟩ := Option.isSome_iff_exists.1 h2
      rw [hf]; exact h.dlt _ (mem_of_ofI hf)
  · exact h1.does name too b hsome

theorem Inv.turn {s : DS} (h : Inv s) (name : ByteArray) (p : Int) (v : Nat) : Inv (turnD s name p v).2 := by
  unfold turnD
  cases hf : ofI s.dir name with
  | none => exact h
  | some k =>
    show Inv (if _ then _ else _ : Int × DS).2
    split
    · exact h
    · have hk := h.dlt _ (mem_of_ofI hf)
      refine ⟨h.ok, h.acts, h.fin, fun y hy => by simpa using h.slt y hy, fun a ha => by simpa using h.alt a ha, fun j hj => ?_⟩
      rw [getF_set (s := s) (k := k) hk rfl]
      have := h.sums j (by simpa using hj)
      by_cases e : j = k
      · subst e; rw [if_pos rfl]; show _ = (xorB _ _ _).size; rw [xorB_size]; exact this
      · rw [if_neg e]; exact this

/-! ### a crash -/
def tornN (s : DS) (keep torn : Int) (k : Nat) : Nat := match s.acts[keep.toNat]? with | some (.put j n) => if j = k then min n torn.toNat else 0 | _ => 0
def sureC (s : DS) (keep torn : Int) (k : Nat) : Nat := (getF s k).2 + puts (s.acts.take keep.toNat) k + tornN s keep torn k
def crashF (s : DS) (keep torn : Int) (k : Nat) : Fl := ((getF s k).1.extract 0 (sureC s keep torn k), sureC s keep torn k)
def crashD (s : DS) (keep torn : Int) : DS :=
  { files := (List.range s.files.length).map (crashF s keep torn), dir := replay s.sure (s.acts.take keep.toNat), sure := replay s.sure (s.acts.take keep.toNat), acts := [], room := s.room, n := 0, off := false, cut := -1, fails := [] }
theorem tornN_le (s : DS) (keep torn : Int) (k : Nat) : tornN s keep torn k ≤ puts (s.acts.drop keep.toNat) k := by
  unfold tornN
  rcases Nat.lt_or_ge keep.toNat s.acts.length with h | h
  · rw [List.getElem?_eq_getElem h, List.drop_eq_getElem_cons h]
    show _ ≤ putN k _ + _
    cases s.acts[keep.toNat] <;> simp [putN]
    split <;> omega
  · rw [List.getElem?_eq_none h]; exact Nat.zero_le _
theorem puts_split (az : List DAct) (n k : Nat) : puts az k = puts (az.take n) k + puts (az.drop n) k := by
  unfold puts
  rw [← List.sum_append, ← List.map_append, List.take_append_drop]
theorem Inv.sureC_le {s : DS} (h : Inv s) (keep torn : Int) {k : Nat} (hk : k < s.files.length) : sureC s keep torn k ≤ (getF s k).1.size := by
  have h1 := h.sums k hk
  have h2 := tornN_le s keep torn k
  have h3 := puts_split s.acts keep.toNat k
  unfold sureC
  omega
theorem crash_len (s : DS) (keep torn : Int) : (crashD s keep torn).files.length = s.files.length := by simp [crashD]
theorem getF_crash {s : DS} (keep torn : Int) {k : Nat} (hk : k < s.files.length) : getF (crashD s keep torn) k = crashF s keep torn k := by
  rw [getF_eq (by rw [crash_len]; exact hk)]
  simp [crashD]
theorem Inv.crash {s : DS} (h : Inv s) (keep torn : Int) : Inv (crashD s keep torn) := by
  have ht := acts_take keep.toNat _ _ h.acts
  refine ⟨acts_ok _ _ h.ok ht, trivial, rfl, fun x hx => ?_, (fun a ha => by cases ha), fun k hk => ?_⟩
  · rw [crash_len]
    exact replay_lt _ _ h.slt (fun a ha => h.alt a (List.take_subset _ _ ha)) ht x hx
  · rw [crash_len] at hk
    rw [getF_crash keep torn hk]
    have := h.sureC_le keep torn hk
    show sureC s keep torn k + 0 = ((getF s k).1.extract 0 _).size
    rw [ByteArray.size_extract]; omega
theorem Inv.fresh (room : Int) : Inv (newDS room) := ⟨⟨List.Pairwise.nil, List.Pairwise.nil⟩, trivial, rfl, (fun _ h => by cases h), (fun _ h => by cases h), fun k hk => by simp [newDS] at hk⟩
end Go.Proofs.Ytngickhakedonaa
