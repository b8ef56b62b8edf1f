/- A text of a claim's proof: see the last text of the claim. -/
import Derived.Test.YtngickhakedonaaDp11
import Derived.Test.YtngickhakedonaaDp12
set_option linter.all false
namespace Go.Proofs.Ytngickhakedonaa
open Go.RowKit Go.Tk Go.Dk

theorem read_ok {S : DS} (h1 : S.off = false) (h2 : S.cut = -1) (h3 : S.fails = []) {name : ByteArray} {f : Nat} (hm : (name, f) ∈ S.dir) (hok : OkDir S.dir) (hn : okName name = true) (t b : ByteArray) : doD S 1 name t b = ((getF S f).1, 0, { S with n := S.n + 1 }) := by
  have hg : gone S = false := by unfold gone; rw [h1, h2]; rfl
  have hof : ofI S.dir name = some f := (ofI_some hok.srt.names).2 hm
  unfold doD
  rw [if_neg (by rw [hg]; exact Bool.false_ne_true), if_neg (by rw [hn]; simp), if_neg (by rw [hof]; simp), if_neg (by simp), if_neg (by rw [h3]; simp)]
  unfold outD doesD
  rw [if_pos rfl, hof]; rfl

set_option maxRecDepth 100000 in
set_option maxHeartbeats 2000000 in
theorem full_any {base M k : Nat} {w : World} {d r : Nat} {L : PL} {B : Nat → Prop} {s : DS} (h : Two base w d r L B s s) (hi : Inv s) (hz : Sz s k M) (hk : k ≤ 201) (hM : M ≤ 1048576) :
    Calls Try.prog 19 #[.pointer (some ⟨d, 0, none⟩), .pointer (some ⟨r, 0, none⟩)] w fun e w' => e = .returned (.bool true) ∧ Frm (fun b => base ≤ b) w w' := by
  have hf := Fit.of hi hz hk hM
  have HF := Lib.hid hf
  have H := Lib.hid h
  have hS : Fit (crashD s 1099511627776 0) M := Fit.of (hi.crash _ _) (hz.crash _ _) hk hM
  have hS1 : (crashD s 1099511627776 0).off = false := rfl
  have hS2 : (crashD s 1099511627776 0).cut = -1 := rfl
  have hS3 : (crashD s 1099511627776 0).fails = [] := rfl
  have hS4 : (crashD s 1099511627776 0).n = 0 := rfl
  have HS := Lib.hid (And.intro hS (And.intro hS1 (And.intro hS2 (And.intro hS3 hS4))))
  have hP := crash_any 1099511627776 0 w h.p hi (by have := hf.al; omega) (fun k => by have := hf.fs k; omega) hf.room (by omega) (by omega) (by omega) (by omega)
  have hR : ∀ wx, Frm (fun _ => False) w wx → Calls Try.prog 46 #[.pointer (some ⟨r, 0, none⟩), .int .i64 1099511627776, .int .i64 0] wx fun e w' => ∃ x, e = .returned (.pointer (some ⟨x, 0, none⟩)) ∧ RX w' x (fun b => B b ∨ wx.heap.size ≤ b) (crashD s 1099511627776 0) ∧ Frm (fun _ => False) wx w' := fun wx hx =>
    rcrash_any 1099511627776 0 wx (RX.keep h.q hx) hi (by have := hf.al; omega) (by have := hf.fl; omega) (by have := hf.sl; omega) (fun k => by have := hf.fs k; omega) (by omega) (by omega) (by omega) (by omega)
  have HPR := Lib.hid (And.intro hP hR)
  clear hP hR hf hi hz hk hM h hS hS1 hS2 hS3 hS4
  generalize crashD s 1099511627776 0 = S at *
  go_enter Try.func19, Try.ntmps19
  go_wp2_with fail
  refine HPR.out.1.mono ?_
  rintro e w1 ⟨X, Lx, rfl, p1, f1, r1⟩
  have H1 := Lib.hid (And.intro f1 (And.intro p1 r1))
  clear f1 p1 r1
  go_wp2_with fail
  refine (HPR.out.2 w1 H1.out.1).mono ?_
  rintro e w2 ⟨x, rfl, q2, f2⟩
  have T := Lib.hid (And.intro (H.out.crash H1.out.1 H1.out.2.1 H1.out.2.2 f2 q2) (((H1.out.1.trans f2).mono (T := fun b => base ≤ b) (fun _ _ h => h.elim))))
  clear q2 f2
  go_wp2_with fail
  refine (alike_any T.out.1 HS.out.1).mono ?_
  rintro e w3 ⟨rfl, f3⟩
  have T3 := Lib.hid (And.intro (T.out.1.keep f3) (T.out.2.trans (f3.mono (fun _ _ h => h.elim))))
  clear f3
  go_wp2_with fail
  generalize (fun b => (B b ∨ w1.heap.size ≤ b) ∧ b < w2.heap.size) = C at *
  go_loopw [8, 9, 10] (fun i _ _ wr => ∃ k : Nat, k ≤ S.dir.length ∧ i = .int .i64 k ∧ Hid (Two base wr X x Lx C { S with n := k } S ∧ Frm (fun b => base ≤ b) w wr)) (fun i _ _ _ => S.dir.length - (intOf i).toNat)
  case atStart => exact ⟨0, Nat.zero_le _, rfl, Lib.hid (by
    have e : { S with n := 0 } = S := by rw [← HS.out.2.2.2.2]
    rw [e]; exact T3.out)⟩
  case round =>
    obtain ⟨k, hk, rfl, hI⟩ := hrel
    obtain ⟨vf, vd, vs, va, vn, hRD, _⟩ := id hI.out.1.q
    obtain ⟨aod, capd, evd, hled, _, _, hdc⟩ := hRD.dir
    subst evd
    have c1 := hRD.c1
    clear hRD
    have i1 : (0 : Int) ≤ k := by omega
    have hdl := HS.out.1.dl
    by_cases hlt : k < S.dir.length
    · obtain ⟨g, e0, hc⟩ := hdc k hlt
      cases e0
      have d0 := hc 0 _ rfl
      have d1 := hc 1 _ rfl
      rw [Nat.add_zero] at d0
      have i2 : (k : Int) < S.dir.length := by omega
      obtain ⟨Y, hY⟩ : ∃ Y, S.dir[k] = Y := ⟨_, rfl⟩
      rw [hY] at d0 d1
      have hmem : Y ∈ S.dir := by rw [← hY]; exact List.getElem_mem hlt
      have hYlt : Y.2 < S.files.length := HS.out.1.inv.dlt Y hmem
      have hok : okName Y.1 = true := HS.out.1.dn Y hmem
      have hrd : doD { S with n := k } 1 Y.1 ⟨#[]⟩ ⟨#[]⟩ = ((getF S Y.2).1, 0, { S with n := k + 1 }) := read_ok (S := { S with n := k }) HS.out.2.1 HS.out.2.2.1 HS.out.2.2.2.1 hmem HS.out.1.inv.dok hok _ _
      have hcall : Calls Try.prog 29 #[.pointer (some ⟨X, 0, none⟩), .string Y.1] wr fun e w' => ∃ v, e = .returned (.tuple #[v, .int .i64 0]) ∧ BV w' v (getF S Y.2).1 ∧ (∀ g, bown v = some g → wr.heap.size ≤ g) ∧ PD w' X Lx { S with n := k + 1 } ∧ PStep wr w' Lx Lx := by
        have := read_any Y.1 ⟨#[]⟩ ⟨#[]⟩ wr hI.out.1.p (HS.out.1.inv.of_same rfl rfl rfl rfl) (by have := HS.out.1.dl; show k ≤ _; omega) (by have := okName_size hok; omega) (fun j => by have := HS.out.1.fs j; show (getF S j).1.size ≤ _; omega)
        rw [hrd] at this
        exact this
      have HC := Lib.hid hcall
      have HY := Lib.hid (And.intro hYlt hc)
      obtain ⟨yn, yf⟩ := Y
      clear hcall hrd hmem hY hok hc hdc
      simp only at *
      have hdA : (nmC (yn, yf))[0]? = some (.string yn) := rfl
      have e0 : wr.cell? ⟨g, k * 2, none⟩ = some (.string yn) := d0
      have e1 : wr.cell? ⟨g, k * 2 + 1, none⟩ = some (.int .i64 yf) := d1
      clear d0 d1 hdA
      go_wp2_with fail
      refine HC.out.mono ?_
      rintro e w4 ⟨v, rfl, hbv, hnew, p4, s4⟩
      obtain ⟨bo, bc, rfl, hle⟩ := hbv.slice
      obtain ⟨T4, F4⟩ := hI.out.1.pstep p4 s4
      obtain ⟨gf, capf, y0, hlef, y1, y2, _⟩ := RX.put T4.q HY.out.1
      have hcv : ∀ n, (convert 45 9 (.slice bo (getF S yf).1.size bc)).run Try.prog (w4.drewN n) = .ok (.string (getF S yf).1) (w4.drewN n) := fun n => conv_reads (hbv.reads.frm (S := fun _ => False) ((Frm.refl _ w4).drewN n) (fun _ _ _ h => h)) bc
      have nl : ∀ b o, wr.cell? ⟨b, o, none⟩ = w4.cell? ⟨b, o, none⟩ ∨ True := fun _ _ => .inr trivial
      have xb : ∀ b, C b → ¬ (Lx.role b ≠ .free) := fun b hb hr => (hI.out.1.lb b hr).2 hb
      obtain ⟨vf4, vd4, vs4, va4, vn4, hRD4, hx4, _, hdB, _⟩ := id hI.out.1.q
      have hCx : C x := hx4
      have c1r := hRD4.c1
      rw [c1] at c1r
      have hCg : C g := hdB g (by rw [← Option.some.inj c1r]; rfl)
      have c14 := (s4.frm.cell (p := ⟨x, 1, none⟩) (World.block_lt_of_cell? _ _ c1) (xb x hCx)).trans c1
      have e14 := (s4.frm.cell (p := ⟨g, k * 2 + 1, none⟩) (World.block_lt_of_cell? _ _ e1) (xb g hCg)).trans e1
      have j1 : (0 : Int) ≤ yf := by omega
      have j2 : (yf : Int) < S.files.length := by have := HY.out.1; omega
      have HT := Lib.hid (And.intro T4 (hI.out.2.trans F4))
      obtain ⟨Z, hZ⟩ : ∃ Z, (getF S yf).1 = Z := ⟨_, rfl⟩
      rw [hZ] at y1 hcv hle
      have t1 : (Z.toList == Z.toList) = true := by simp
      clear hbv hnew p4 s4 T4 F4 hRD4 hdB c1r HC nl xb e0 e1 c1
      rw [hZ]
      clear hZ
      go_wp2_with fail
      go_quiet (fail)
      go_wp2_with fail
      exact ⟨⟨k + 1, by omega, by go_num, Lib.hid ⟨HT.out.1.keep ((Frm.refl _ _).drewN _), HT.out.2.trans ((Frm.refl _ _).drewN _)⟩⟩, by simp [intOf]; omega⟩
    · have i2 : decide ((k : Int) < S.dir.length) = false := decide_eq_false (by omega)
      clear hdc
      go_wp2_with fail
      go_ret
      exact ⟨rfl, hI.out.2⟩
end Go.Proofs.Ytngickhakedonaa
