/- A text of a claim's proof: see the last text of the claim. -/
import Derived.Test.YtngickhakedonaaDp10
import Derived.Test.YtngickhakedonaaDp14
import Derived.Lib.SlBytesConst
set_option linter.all false
namespace Go.Proofs.Ytngickhakedonaa
open Go.RowKit Go.Tk Go.Dk

abbrev nA : ByteArray := ⟨#[97]⟩
abbrev nB : ByteArray := ⟨#[98]⟩
abbrev bX : ByteArray := ⟨#[120, 121, 122]⟩
abbrev bU : ByteArray := ⟨#[117, 118]⟩
abbrev bD : ByteArray := ⟨#[49, 50, 51, 52, 53, 54]⟩
def z1 : DS := (doD (newDS 10) 0 nA ⟨#[]⟩ bX).2.2
def z2 : DS := (doD z1 2 nA ⟨#[]⟩ ⟨#[]⟩).2.2
def z3 : DS := (doD z2 0 nA ⟨#[]⟩ bU).2.2
def z4 : DS := (doD z3 0 nB ⟨#[]⟩ bD).2.2
theorem ze1 : doD (newDS 10) 0 nA ⟨#[]⟩ bX = ((doD (newDS 10) 0 nA ⟨#[]⟩ bX).1, 0, z1) := by
  have : (doD (newDS 10) 0 nA ⟨#[]⟩ bX).2.1 = 0 := by decide +kernel
  rw [← this]; rfl
theorem ze2 : doD z1 2 nA ⟨#[]⟩ ⟨#[]⟩ = ((doD z1 2 nA ⟨#[]⟩ ⟨#[]⟩).1, 0, z2) := by
  have : (doD z1 2 nA ⟨#[]⟩ ⟨#[]⟩).2.1 = 0 := by decide +kernel
  rw [← this]; rfl
theorem ze3 : doD z2 0 nA ⟨#[]⟩ bU = ((doD z2 0 nA ⟨#[]⟩ bU).1, 0, z3) := by
  have : (doD z2 0 nA ⟨#[]⟩ bU).2.1 = 0 := by decide +kernel
  rw [← this]; rfl
theorem ze4 : doD z3 0 nB ⟨#[]⟩ bD = ((doD z3 0 nB ⟨#[]⟩ bD).1, 33, z4) := by
  have : (doD z3 0 nB ⟨#[]⟩ bD).2.1 = 33 := by decide +kernel
  rw [← this]; rfl
theorem ze5 : z4.acts.length = 2 := by decide +kernel
theorem ze6 : sizeD z4 nA = 5 := by decide +kernel
theorem ze7 : (crashD z4 0 9).dir.length = 0 := by decide +kernel
theorem ze8 : (doD (crashD z4 1 1) 1 nA ⟨#[]⟩ ⟨#[]⟩).1 = ⟨#[120, 121, 122, 117]⟩ := by decide +kernel
theorem ze9 : (doD (crashD z4 1 1) 1 nA ⟨#[]⟩ ⟨#[]⟩).2.1 = 0 := by decide +kernel
theorem zi1 : Inv z1 := (Inv.fresh 10).do _ _ _ _
theorem zi2 : Inv z2 := zi1.do _ _ _ _
theorem zi3 : Inv z3 := zi2.do _ _ _ _
theorem zi4 : Inv z4 := zi3.do _ _ _ _
theorem zs0 : Sz (newDS 10) 0 100 := Sz.fresh 10 (by decide)
theorem zs1 : Sz z1 1 100 := zs0.do _ (by decide)
theorem zs2 : Sz z2 2 100 := zs1.do _ (by decide)
theorem zs3 : Sz z3 3 100 := zs2.do _ (by decide)
theorem zs4 : Sz z4 4 100 := zs3.do _ (by decide)

/-- one disk of the program's, its blocks from base on -/
structure One (base : Nat) (w : World) (d : Nat) (L : PL) (s : DS) : Prop where
  p : PD w d L s
  lb : ∀ b, L.role b ≠ .free → base ≤ b
  hb : base ≤ w.heap.size
variable {base : Nat} {w w' w1 w2 : World} {d : Nat} {L L' : PL} {s s' : DS}
theorem One.keep (h : One base w d L s) (hf : Frm F0 w w') : One base w' d L s := ⟨h.p.keep hf, h.lb, Nat.le_trans h.hb hf.size⟩
theorem One.pstep (h : One base w d L s) (hp : PD w' d L' s') (hs : PStep w w' L L') : One base w' d L' s' ∧ Frm (fun b => base ≤ b) w w' := by
  refine ⟨⟨hp, fun b hb => ?_, Nat.le_trans h.hb hs.frm.size⟩, hs.frm.mono (fun b _ hb => h.lb b hb)⟩
  rcases hs.new b hb with h1 | h1
  · exact h.lb b h1
  · exact Nat.le_trans h.hb h1.1
theorem One.free (h : One base w d L s) {c : Nat} (hc : w.heap.size ≤ c) : L.role c = .free := by
  cases hr : L.role c with
  | free => rfl
  | _ =>
    have h1 := h.p.rb c (by rw [hr]; simp)
    omega
theorem lit_reads (w : World) (x : ByteArray) (C : Array Value) (hC : C.toList = byC x) (fr : Nat × Nat) (j : Nat) (u : Value) (hj : (byC x)[j]? = some u) : (w.alloc (.cells C 5 fr)).cell? ((⟨w.heap.size, 0, none⟩ : Addr).add j) = some u := by
  rw [← hC] at hj
  have := World.cell?_alloc_mark w C 5 fr (0 + j)
  rw [Nat.zero_add] at this
  rw [add_pl, Nat.zero_add, this]
  simpa using hj
/-- Append of a text that stands in the code -/
theorem app_lit (h : One base w d L s) (hi : Inv s) {k : Nat} (hz : Sz s k 100) (hk : k ≤ 200) (name b : ByteArray) (hname : name.size ≤ 100) (C : Array Value) (hC : C.toList = byC b) (hb : b.size ≤ 100) (fr : Nat × Nat) {x : ByteArray} {c : Int} (hD : doD s 0 name ⟨#[]⟩ b = (x, c, s')) :
    Calls Try.prog 26 #[.pointer (some ⟨d, 0, none⟩), .string name, .slice (some ⟨w.heap.size, 0, none⟩) b.size b.size] (w.alloc (.cells C 5 fr)) fun e w' => e = .returned (.int .i64 c) ∧ ∃ L', One base w' d L' s' ∧ Frm (fun b => base ≤ b) w w' := by
  have hf := Fit.of hi hz (by omega) (by omega)
  have hw : Frm F0 w (w.alloc (.cells C 5 fr)) := (Frm.refl _ w).alloc _
  have h1 := h.keep hw
  have := append_any name ⟨#[]⟩ b (some ⟨w.heap.size, 0, none⟩) b.size (w.alloc (.cells C 5 fr)) h1.p hi (by have := hf.n; omega) (by omega) (by have := hf.al; omega) hf.us (by omega) (fun k => by have := hf.fs k; omega)
    (fun a ha => by
      cases ha
      exact ⟨h.free (Nat.le_refl _), by simp, fun j u hj => lit_reads w b C hC fr j u hj⟩) (fun h => by cases h) (Nat.le_refl _)
  rw [hD] at this
  refine this.mono ?_
  rintro e w2 ⟨he, L2, p2, s2⟩
  obtain ⟨h2, f2⟩ := h1.pstep p2 s2
  exact ⟨he, L2, h2, (hw.mono (fun _ _ h => h.elim)).trans f2⟩

set_option maxRecDepth 100000 in
set_option maxHeartbeats 2000000 in
theorem shown_any (w : World) : Calls Try.prog 12 #[] w fun e w' => e = .returned (.bool true) ∧ Frm F0 w w' := by
  have hc3 : ∀ w : World, (convert 45 45 (.slice (some ⟨w.heap.size, 0, none⟩) 3 3)).run Try.prog (w.alloc (.cells #[.int .u8 120, .int .u8 121, .int .u8 122] 5)) = .ok (.slice (some ⟨w.heap.size, 0, none⟩) 3 3) (w.alloc (.cells #[.int .u8 120, .int .u8 121, .int .u8 122] 5 (3, 4))) := fun w => Lib.run_convert_bytes_const w 45 5 _ 3 3 Try.underlying45 Try.underlying5
  have hc2 : ∀ w : World, (convert 45 45 (.slice (some ⟨w.heap.size, 0, none⟩) 2 2)).run Try.prog (w.alloc (.cells #[.int .u8 117, .int .u8 118] 5)) = .ok (.slice (some ⟨w.heap.size, 0, none⟩) 2 2) (w.alloc (.cells #[.int .u8 117, .int .u8 118] 5 (2, 3))) := fun w => Lib.run_convert_bytes_const w 45 5 _ 2 2 Try.underlying45 Try.underlying5
  have hc6 : ∀ w : World, (convert 45 45 (.slice (some ⟨w.heap.size, 0, none⟩) 6 6)).run Try.prog (w.alloc (.cells #[.int .u8 49, .int .u8 50, .int .u8 51, .int .u8 52, .int .u8 53, .int .u8 54] 5)) = .ok (.slice (some ⟨w.heap.size, 0, none⟩) 6 6) (w.alloc (.cells #[.int .u8 49, .int .u8 50, .int .u8 51, .int .u8 52, .int .u8 53, .int .u8 54] 5 (6, 7))) := fun w => Lib.run_convert_bytes_const w 45 5 _ 6 6 Try.underlying45 Try.underlying5
  go_enter Try.func12, Try.ntmps12
  go_wp2_with fail
  refine (new_any 10 w (by decide)).mono ?_
  rintro e w1 ⟨rfl, p1, f1, hs1⟩
  have O1 : Hid (One w.heap.size w1 (w.heap.size + 3) (newL w.heap.size) (newDS 10) ∧ Frm (fun b => w.heap.size ≤ b) w w1) := Lib.hid ⟨⟨p1, fun b hb => (newL_role _ b hb).1, f1.size⟩, f1.mono (fun _ _ h => h.elim)⟩
  clear p1 f1 hs1
  generalize w.heap.size + 3 = d at *
  generalize newL w.heap.size = L1 at *
  go_wp2_with fail
  refine (app_lit O1.out.1 (Inv.fresh 10) zs0 (by decide) nA bX (by decide) #[.int .u8 120, .int .u8 121, .int .u8 122] rfl (by decide) (3, 4) ze1).mono ?_
  rintro e w2 ⟨rfl, L2, o2, f2⟩
  have O2 := Lib.hid (And.intro o2 (O1.out.2.trans f2))
  clear o2 f2 hc3
  go_wp2_with fail
  have hsy := sync_any nA ⟨#[]⟩ ⟨#[]⟩ w2 O2.out.1.p zi1 (by have := zs1.n; omega) (by decide) (by have := zs1.al; omega)
  rw [ze2] at hsy
  refine hsy.mono ?_
  rintro e w3 ⟨rfl, L3, p3, s3⟩
  have O3 := Lib.hid (And.intro (O2.out.1.pstep p3 s3).1 (O2.out.2.trans (O2.out.1.pstep p3 s3).2))
  clear p3 s3 hsy
  go_wp2_with fail
  refine (app_lit O3.out.1 zi2 zs2 (by decide) nA bU (by decide) #[.int .u8 117, .int .u8 118] rfl (by decide) (2, 3) ze3).mono ?_
  rintro e w4 ⟨rfl, L4, o4, f4⟩
  have O4 := Lib.hid (And.intro o4 (O3.out.2.trans f4))
  clear o4 f4 hc2
  go_wp2_with fail
  refine (app_lit O4.out.1 zi3 zs3 (by decide) nB bD (by decide) #[.int .u8 49, .int .u8 50, .int .u8 51, .int .u8 52, .int .u8 53, .int .u8 54] rfl (by decide) (6, 7) ze4).mono ?_
  rintro e w5 ⟨rfl, L5, o5, f5⟩
  have O5 := Lib.hid (And.intro o5 (O4.out.2.trans f5))
  clear o5 f5 hc6
  have hfit : Fit z4 100 := Fit.of zi4 zs4 (by decide) (by decide)
  have hP : ∀ wx (keep torn : Int), -100 ≤ keep → keep ≤ 100 → -100 ≤ torn → torn ≤ 100 → Frm F0 w5 wx → Calls Try.prog 28 #[.pointer (some ⟨d, 0, none⟩), .int .i64 keep, .int .i64 torn] wx fun e w' => ∃ X Lx, e = .returned (.pointer (some ⟨X, 0, none⟩)) ∧ PD w' X Lx (crashD z4 keep torn) ∧ Frm F0 wx w' ∧ (∀ b, Lx.role b ≠ .free → wx.heap.size ≤ b) := fun wx keep torn a1 a2 a3 a4 hx =>
    crash_any keep torn wx (O5.out.1.p.keep hx) zi4 (by have := hfit.al; omega) (fun k => by have := hfit.fs k; omega) hfit.room (by omega) (by omega) (by omega) (by omega)
  have HP := Lib.hid hP
  clear hP hfit
  go_wp2_with fail
  refine (HP.out w5 1 1 (by decide) (by decide) (by decide) (by decide) (Frm.refl _ _)).mono ?_
  rintro e w6 ⟨X, Lx, rfl, p6, f6, r6⟩
  have O6 := Lib.hid (And.intro p6 (And.intro f6 r6))
  clear p6 f6 r6
  go_wp2_with fail
  refine (HP.out w6 0 9 (by decide) (by decide) (by decide) (by decide) O6.out.2.1).mono ?_
  rintro e w7 ⟨Y, Ly, rfl, p7, f7, r7⟩
  have O7 := Lib.hid (And.intro p7 (And.intro f7 r7))
  clear p7 f7 r7
  go_wp2_with fail
  have hfx : Fit (crashD z4 1 1) 100 := Fit.of (zi4.crash _ _) (zs4.crash _ _) (by decide) (by decide)
  have hrd := read_any nA ⟨#[]⟩ ⟨#[]⟩ w7 (O6.out.1.keep O7.out.2.1) hfx.inv (by have := hfx.n; omega) (by decide) (fun k => by have := hfx.fs k; omega)
  rw [ze8, ze9] at hrd
  refine hrd.mono ?_
  rintro e w8 ⟨v, rfl, hbv, _, _, s8⟩
  obtain ⟨bo, bc, hv, hle⟩ := hbv.slice
  subst hv
  have hf8 : Frm (fun b => w5.heap.size ≤ b) w7 w8 := s8.frm.mono (fun b _ hb => O6.out.2.2 b hb)
  have p8 : PD w8 d L5 z4 := (O5.out.1.p.keep (O6.out.2.1.trans O7.out.2.1)).frm s8.frm (fun b hb hr => by have h1 := O6.out.2.2 b hr; have h2 := O5.out.1.p.rb b hb; omega)
  have q8 : PD w8 Y Ly (crashD z4 0 9) := O7.out.1.frm s8.frm (fun b hb hr => by have h1 := O7.out.2.2 b hb; have h2 := O6.out.1.rb b hr; omega)
  have hcv : (convert 45 9 (.slice bo 4 bc)).run Try.prog w8 = .ok (.string ⟨#[120, 121, 122, 117]⟩) w8 := conv_reads (x := ⟨#[120, 121, 122, 117]⟩) hbv.reads bc
  have hloose := loose_any w8 p8
  rw [ze5] at hloose
  have hsize := size_any nA w8 p8 zi4
  rw [ze6] at hsize
  have hfy : Fit (crashD z4 0 9) 100 := Fit.of (zi4.crash _ _) (zs4.crash _ _) (by decide) (by decide)
  have hnames := names_any w8 q8 hfy.inv (by have := hfy.dl; omega) (fun x hx => by have := okName_size (hfy.dn x hx); omega)
  rw [ze7] at hnames
  have hfin : Frm (fun b => w.heap.size ≤ b) w w8 := by
    have h5 := O5.out.2.size
    exact O5.out.2.trans (((O6.out.2.1.trans O7.out.2.1).mono (fun _ _ h => h.elim)).trans (hf8.mono (fun b _ hb => by omega)))
  have HFin := Lib.hid (And.intro hfin (And.intro hloose (And.intro hsize hnames)))
  clear hbv s8 hf8 p8 q8 hfin hfx hfy hrd hloose hsize hnames
  go_wp2_with fail
  refine HFin.out.2.1.mono ?_
  rintro e _ ⟨rfl, rfl⟩
  go_wp2_with fail
  refine HFin.out.2.2.1.mono ?_
  rintro e _ ⟨rfl, rfl⟩
  go_wp2_with fail
  refine HFin.out.2.2.2.mono ?_
  rintro e w9 ⟨v, rfl, hrow, f9⟩
  obtain ⟨aol, capl, rfl, _⟩ := row_slice hrow
  clear hrow
  go_wp2_with fail
  go_ret
  exact ⟨rfl, (HFin.out.1.mono (fun b hb h => by omega)).trans f9⟩
end Go.Proofs.Ytngickhakedonaa
