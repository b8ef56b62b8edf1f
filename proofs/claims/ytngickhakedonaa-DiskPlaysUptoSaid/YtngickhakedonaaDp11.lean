/- A text of a claim's proof: see the last text of the claim. -/
import Derived.Test.YtngickhakedonaaDp10
import Derived.BigQuiet
import Derived.Deep.QuietTactic
import Derived.Deep.RegionHeld3
set_option linter.all false
namespace Go.Proofs.Ytngickhakedonaa
open Go.RowKit Go.Tk Go.Dk

theorem nameC_get (l : List Nm) (k : Nat) (h : k < l.length) : (l.flatMap nameC)[k]? = some (.string l[k].1) := by
  have e : l.flatMap nameC = l.map (fun x => Value.string x.1) := by
    clear h
    induction l with
    | nil => rfl
    | cons x l ih => rw [List.flatMap_cons, ih]; rfl
  rw [e, List.getElem?_map, List.getElem?_eq_getElem h]; rfl

set_option maxRecDepth 100000 in
set_option maxHeartbeats 2000000 in
theorem alike_any {base M : Nat} {w : World} {d r : Nat} {L : PL} {B : Nat → Prop} {s : DS} (h : Two base w d r L B s s) (hf : Fit s M) :
    Calls Try.prog 18 #[.pointer (some ⟨d, 0, none⟩), .pointer (some ⟨r, 0, none⟩)] w fun e w' => e = .returned (.bool true) ∧ Frm (fun _ => False) w w' := by
  obtain ⟨vf, vd, vs, va, vn, hRD, _⟩ := id h.q
  obtain ⟨aod, capd, evd, hled, _, _, hdc⟩ := hRD.dir
  obtain ⟨aoa, capa, eva, hlea, _, _, _⟩ := hRD.acts
  subst evd
  subst eva
  have c1 := hRD.c1
  have c3 := hRD.c3
  have c5 := hRD.c5
  have HD := Lib.hid hdc
  have H := Lib.hid h
  have HF := Lib.hid hf
  have hO : ∀ n, Calls Try.prog 41 #[.pointer (some ⟨d, 0, none⟩)] (w.drewN n) fun e w' => e = .returned (.int .i64 s.n) ∧ w.drewN n = w' := fun n => ops_any _ (h.p.keep ((Frm.refl _ w).drewN n))
  have hL : ∀ n, Calls Try.prog 30 #[.pointer (some ⟨d, 0, none⟩)] (w.drewN n) fun e w' => e = .returned (.int .i64 s.acts.length) ∧ w.drewN n = w' := fun n => loose_any _ (h.p.keep ((Frm.refl _ w).drewN n))
  have HOL := Lib.hid (And.intro hO hL)
  have t1 : ((s.n : Int) != s.n) = false := by simp
  have t2 : ((s.acts.length : Int) != s.acts.length) = false := by simp
  clear hdc h hf hO hL hRD
  go_enter Try.func18, Try.ntmps18
  go_wp2_with fail
  go_region_held3 (fun w' => w'.cell? ⟨r, 5, none⟩ = some (.int .i64 s.n) ∧ w'.cell? ⟨r, 3, none⟩ = some (.slice aoa s.acts.length capa)) (exact ⟨c5, c3⟩) (first | (go_at_call 41; refine (HOL.out.1 1).mono ?_; rintro e _ ⟨rfl, rfl⟩) | (go_at_call 30; refine (HOL.out.2 1).mono ?_; rintro e _ ⟨rfl, rfl⟩))
  clear t1 t2 HOL c3 c5
  go_wp2_with fail
  refine (names_any _ (H.out.p.keep ((Frm.refl _ w).drewN _)) HF.out.inv (by have := HF.out.dl; omega) (fun x hx => by have := okName_size (HF.out.dn x hx); omega)).mono ?_
  rintro e w2 ⟨v, rfl, hrow, hf2⟩
  have hF2 : Frm (fun _ => False) w w2 := ((Frm.refl _ w).drewN _).trans hf2
  obtain ⟨aol, capl, rfl, hlel, hgl⟩ := row_slice hrow
  have H2 := Lib.hid (And.intro (H.out.keep hF2) hF2)
  have HR := Lib.hid (And.intro hrow hgl)
  have c12 := (hF2.cell (p := ⟨r, 1, none⟩) (World.block_lt_of_cell? _ _ c1) (fun h => h)).trans c1
  clear hrow hf2 hgl c1 hF2
  go_wp2_with fail
  have t1 : ((s.dir.length : Int) != s.dir.length) = false := by simp
  go_loopw [6] (fun i wr => ∃ k : Nat, k ≤ s.dir.length ∧ i = .int .i64 k ∧ Hid (Frm (fun _ => False) w2 wr)) (fun i _ => s.dir.length - (intOf i).toNat)
  case atStart => exact ⟨0, Nat.zero_le _, rfl, Lib.hid (Frm.refl _ _)⟩
  case round =>
    obtain ⟨k, hk, rfl, hI⟩ := hrel
    have c1r := (hI.out.cell (p := ⟨r, 1, none⟩) (World.block_lt_of_cell? _ _ c12) (fun h => h)).trans c12
    have H3 := Lib.hid (H2.out.1.keep hI.out)
    have hdl := HF.out.dl
    by_cases hlt : k < s.dir.length
    · obtain ⟨g, e0, hc⟩ := HD.out k hlt
      cases e0
      obtain ⟨gl, e1⟩ := HR.out.2 (by omega)
      cases e1
      have hF2 := H2.out.2.trans hI.out
      have hcell0 := hc 0 _ rfl
      rw [Nat.add_zero] at hcell0
      have d0 := (hF2.cell (p := ⟨g, k * 2, none⟩) (World.block_lt_of_cell? _ _ hcell0) (fun h => h)).trans hcell0
      have hl0 := HR.out.1.cells (g := gl) rfl k _ (nameC_get s.dir k hlt)
      rw [add_pl, Nat.zero_add] at hl0
      have hl1 : w2.cell? ⟨gl, k, none⟩ = some (.string s.dir[k].1) := hl0
      have l0 := (hI.out.cell (p := ⟨gl, k, none⟩) (World.block_lt_of_cell? _ _ hl1) (fun h => h)).trans hl1
      obtain ⟨X, hX⟩ : ∃ X, s.dir[k].1 = X := ⟨_, rfl⟩
      rw [hX] at d0 l0
      have i1 : (0 : Int) ≤ k := by omega
      have i2 : (k : Int) < s.dir.length := by omega
      have t3 : (X.toList == X.toList) = true := by simp
      have t4 : ((sizeD s X) != sizeD s X) = false := by simp
      have hS : ∀ wx, Frm (fun _ => False) wr wx → Calls Try.prog 31 #[.pointer (some ⟨d, 0, none⟩), .string X] wx fun e w' => e = .returned (.int .i64 (sizeD s X)) ∧ wx = w' := fun wx hx => size_any X wx (H3.out.p.keep hx) HF.out.inv
      have hR : ∀ wx, Frm (fun _ => False) wr wx → Calls Try.prog 48 #[.pointer (some ⟨r, 0, none⟩), .string X] wx fun e w' => e = .returned (.int .i64 (sizeD s X)) ∧ Frm (fun _ => False) wx w' := fun wx hx => rsize_any X wx (RX.keep H3.out.q hx) HF.out.wf
      have HSR := Lib.hid (And.intro hS hR)
      generalize sizeD s X = Z at *
      clear hS hR hc hcell0 hl0 hl1 hX HD HR
      have hS0 : wr.drew.cell? ⟨r, 1, none⟩ = some (.slice (some ⟨g, 0, none⟩) s.dir.length capd) ∧ wr.drew.cell? ⟨g, k * 2, none⟩ = some (.string X) ∧ wr.drew.cell? ⟨gl, k, none⟩ = some (.string X) := ⟨c1r, d0, l0⟩
      have HS0 := Lib.hid hS0
      clear hS0
      go_wp2_with fail
      go_region_held3 (fun w' => w'.cell? ⟨r, 1, none⟩ = some (.slice (some ⟨g, 0, none⟩) s.dir.length capd) ∧ w'.cell? ⟨g, k * 2, none⟩ = some (.string X) ∧ w'.cell? ⟨gl, k, none⟩ = some (.string X)) (first | exact HS0.out | exact HS3.out) (first
        | (go_at_call 31; refine (HSR.out.1 wr.drew (Frm.refl _ _).drew).mono ?_; rintro e _ ⟨rfl, rfl⟩)
        | (go_at_call 48; refine (HSR.out.2 wr.drew (Frm.refl _ _).drew).mono ?_; rintro e w3 ⟨rfl, hf3⟩; have HS3 := Lib.hid (And.intro ((hf3.cell (p := ⟨r, 1, none⟩) (World.block_lt_of_cell? _ _ HS0.out.1) (fun h => h)).trans HS0.out.1) (And.intro ((hf3.cell (p := ⟨g, k * 2, none⟩) (World.block_lt_of_cell? _ _ HS0.out.2.1) (fun h => h)).trans HS0.out.2.1) ((hf3.cell (p := ⟨gl, k, none⟩) (World.block_lt_of_cell? _ _ HS0.out.2.2) (fun h => h)).trans HS0.out.2.2))); have HF3 := Lib.hid hf3; clear hf3))
      go_wp2_with fail
      exact ⟨⟨k + 1, by omega, by go_num, Lib.hid (hI.out.trans (((Frm.refl _ _).drew).trans HF3.out))⟩, by simp [intOf]; omega⟩
    · have i2 : decide ((k : Int) < s.dir.length) = false := decide_eq_false (by omega)
      have t5 : (sizeD s ⟨#[110, 111, 110, 101]⟩ == sizeD s ⟨#[110, 111, 110, 101]⟩) = true := by simp
      have hfin := H2.out.2.trans hI.out
      have HFin := Lib.hid hfin
      clear hfin
      go_wp2_with fail
      refine (size_any _ _ H3.out.p HF.out.inv).mono ?_
      rintro e _ ⟨rfl, rfl⟩
      go_wp2_with fail
      refine (rsize_any _ _ H3.out.q HF.out.wf).mono ?_
      rintro e w4 ⟨rfl, hf4⟩
      generalize sizeD s ⟨#[110, 111, 110, 101]⟩ = Z at *
      go_wp2_with fail
      go_ret
      exact ⟨rfl, HFin.out.trans hf4⟩
end Go.Proofs.Ytngickhakedonaa
