/- A text of a claim's proof: see the last text of the claim. -/
import Derived.Test.YtngickhakedonaaDp00
import Derived.Deep.RegionHeld3
import Derived.StillTailTactics
import Derived.Laws.World
import Derived.Orders
import Derived.OrdersHeld
set_option linter.all false
namespace Go.Dk
open Go Go.Tk

/-- an act -/
inductive DAct where
  | mk (n : ByteArray) (k : Nat)
  | mv (a b : ByteArray)
  | rm (n : ByteArray)
  | put (k n : Nat)
def DAct.c0 : DAct → Int | .mk _ _ => 0 | .mv _ _ => 1 | .rm _ => 2 | .put _ _ => 3
def DAct.c1 : DAct → ByteArray | .mk n _ => n | .mv a _ => a | .rm n => n | .put _ _ => ⟨#[]⟩
def DAct.c2 : DAct → ByteArray | .mv _ b => b | _ => ⟨#[]⟩
def DAct.c3 : DAct → Int | .mk _ k => k | .put k _ => k | _ => 0
def DAct.c4 : DAct → Int | .put _ n => n | _ => 0
def acC (a : DAct) : List Value := [.int .i64 a.c0, .string a.c1, .string a.c2, .int .i64 a.c3, .int .i64 a.c4]
theorem acC_len (x : DAct) : (acC x).length = 5 := rfl
/-- files -/
abbrev Fl := ByteArray × Nat
def flC (x : Fl) : List Value := [.string x.1, .int .i64 x.2]
theorem flC_len (x : Fl) : (flC x).length = 2 := rfl
def inC (x : Int) : List Value := [.int .i64 x]
theorem inC_len (x : Int) : (inC x).length = 1 := rfl

/-- a disk, by definition -/
structure DS where
  files : List Fl
  dir : List Nm
  sure : List Nm
  acts : List DAct
  room : Int
  n : Nat
  off : Bool
  cut : Int
  fails : List Int

/-- what the call may write of it -/
def rfp (r : Nat) (vf : Value) (b : Nat) : Prop := b = r ∨ vf.ownBlock = some b

structure RD (w : World) (r : Nat) (vf vd vs va vn : Value) (s : DS) : Prop where
  c0 : w.cell? ⟨r, 0, none⟩ = some vf
  c1 : w.cell? ⟨r, 1, none⟩ = some vd
  c2 : w.cell? ⟨r, 2, none⟩ = some vs
  c3 : w.cell? ⟨r, 3, none⟩ = some va
  c4 : w.cell? ⟨r, 4, none⟩ = some (.int .i64 s.room)
  c5 : w.cell? ⟨r, 5, none⟩ = some (.int .i64 s.n)
  c6 : w.cell? ⟨r, 6, none⟩ = some (.bool s.off)
  c7 : w.cell? ⟨r, 7, none⟩ = some (.int .i64 s.cut)
  c8 : w.cell? ⟨r, 8, none⟩ = some vn
  fz : Fz w r
  files : w.ownsRow 0 94 2 vf s.files.length (s.files.flatMap flC)
  dir : Rw nmC 2 w vd s.dir
  sure : Rw nmC 2 w vs s.sure
  acts : Rw acC 5 w va s.acts
  fails : Rw inC 1 w vn s.fails
  nf : vf.ownBlock ≠ some r
  nd : ∀ b, vd.ownBlock = some b → ¬ rfp r vf b
  ns : ∀ b, vs.ownBlock = some b → ¬ rfp r vf b
  na : ∀ b, va.ownBlock = some b → ¬ rfp r vf b
  nn : ∀ b, vn.ownBlock = some b → ¬ rfp r vf b

variable {w w' : World} {r : Nat} {vf vd vs va vn : Value} {s : DS}

theorem RD.lt (h : RD w r vf vd vs va vn s) : ∀ b, rfp r vf b → b < w.heap.size := by
  rintro b (rfl | hb)
  · exact World.block_lt_of_cell? _ _ h.c0
  · exact (h.files.lt b hb).2

theorem RD.frm {S : Nat → Prop} (h : RD w r vf vd vs va vn s) (hf : Frm S w w') (hn : ∀ b, rfp r vf b → ¬ S b) (hd : ∀ b, vd.ownBlock = some b → ¬ S b) (hs : ∀ b, vs.ownBlock = some b → ¬ S b) (ha : ∀ b, va.ownBlock = some b → ¬ S b) (hq : ∀ b, vn.ownBlock = some b → ¬ S b) : RD w' r vf vd vs va vn s := by
  have hr : ¬ S r := hn r (.inl rfl)
  have hlt := h.lt r (.inl rfl)
  exact ⟨(hf.cell (p := ⟨r, 0, none⟩) hlt hr).trans h.c0, (hf.cell (p := ⟨r, 1, none⟩) hlt hr).trans h.c1, (hf.cell (p := ⟨r, 2, none⟩) hlt hr).trans h.c2, (hf.cell (p := ⟨r, 3, none⟩) hlt hr).trans h.c3,
    (hf.cell (p := ⟨r, 4, none⟩) hlt hr).trans h.c4, (hf.cell (p := ⟨r, 5, none⟩) hlt hr).trans h.c5, (hf.cell (p := ⟨r, 6, none⟩) hlt hr).trans h.c6, (hf.cell (p := ⟨r, 7, none⟩) hlt hr).trans h.c7, (hf.cell (p := ⟨r, 8, none⟩) hlt hr).trans h.c8,
    h.fz.frm hf hr, row_frm h.files hf (fun b hb => hn b (.inr hb)), h.dir.frm hf hd, h.sure.frm hf hs, h.acts.frm hf ha, h.fails.frm hf hq, h.nf, h.nd, h.ns, h.na, h.nn⟩
theorem RD.keep (h : RD w r vf vd vs va vn s) (hf : Frm (fun _ => False) w w') : RD w' r vf vd vs va vn s := h.frm hf (fun _ _ h => h) (fun _ _ h => h) (fun _ _ h => h) (fun _ _ h => h) (fun _ _ h => h)

/-- a cell of the head is written -/
theorem RD.other (h : RD w r vf vd vs va vn s) (o : Nat) (u : Value) (i : Nat) (hi : i ≠ o) : (w.setCell ⟨r, o, none⟩ u).cell? ⟨r, i, none⟩ = w.cell? ⟨r, i, none⟩ := set_off _ _ _ _ _ _ (Ne.symm hi)
theorem RD.setFrm (w : World) (r o : Nat) (u : Value) : Frm (· = r) w (w.setCell ⟨r, o, none⟩ u) := (Frm.refl (fun b => b = r) w).setCell (p := ⟨r, o, none⟩) (fun _ => rfl) u

theorem RD.set_n (h : RD w r vf vd vs va vn s) (n : Nat) : RD (w.setCell ⟨r, 5, none⟩ (.int .i64 n)) r vf vd vs va vn { s with n := n } := by
  have hF := RD.setFrm w r 5 (.int .i64 n)
  exact ⟨(set_off _ _ _ _ _ _ (by decide)).trans h.c0, (set_off _ _ _ _ _ _ (by decide)).trans h.c1, (set_off _ _ _ _ _ _ (by decide)).trans h.c2, (set_off _ _ _ _ _ _ (by decide)).trans h.c3, (set_off _ _ _ _ _ _ (by decide)).trans h.c4, set_same _ _ _ _ _ h.c5, (set_off _ _ _ _ _ _ (by decide)).trans h.c6, (set_off _ _ _ _ _ _ (by decide)).trans h.c7, (set_off _ _ _ _ _ _ (by decide)).trans h.c8,
    h.fz.set _ _, row_frm h.files hF (fun b hb e => h.nf (e ▸ hb)), h.dir.frm hF (fun b hb e => h.nd b hb (.inl e)), h.sure.frm hF (fun b hb e => h.ns b hb (.inl e)), h.acts.frm hF (fun b hb e => h.na b hb (.inl e)), h.fails.frm hF (fun b hb e => h.nn b hb (.inl e)), h.nf, h.nd, h.ns, h.na, h.nn⟩
theorem RD.set_room (h : RD w r vf vd vs va vn s) (n : Int) : RD (w.setCell ⟨r, 4, none⟩ (.int .i64 n)) r vf vd vs va vn { s with room := n } := by
  have hF := RD.setFrm w r 4 (.int .i64 n)
  exact ⟨(set_off _ _ _ _ _ _ (by decide)).trans h.c0, (set_off _ _ _ _ _ _ (by decide)).trans h.c1, (set_off _ _ _ _ _ _ (by decide)).trans h.c2, (set_off _ _ _ _ _ _ (by decide)).trans h.c3, set_same _ _ _ _ _ h.c4, (set_off _ _ _ _ _ _ (by decide)).trans h.c5, (set_off _ _ _ _ _ _ (by decide)).trans h.c6, (set_off _ _ _ _ _ _ (by decide)).trans h.c7, (set_off _ _ _ _ _ _ (by decide)).trans h.c8,
    h.fz.set _ _, row_frm h.files hF (fun b hb e => h.nf (e ▸ hb)), h.dir.frm hF (fun b hb e => h.nd b hb (.inl e)), h.sure.frm hF (fun b hb e => h.ns b hb (.inl e)), h.acts.frm hF (fun b hb e => h.na b hb (.inl e)), h.fails.frm hF (fun b hb e => h.nn b hb (.inl e)), h.nf, h.nd, h.ns, h.na, h.nn⟩
theorem RD.set_off (h : RD w r vf vd vs va vn s) (n : Bool) : RD (w.setCell ⟨r, 6, none⟩ (.bool n)) r vf vd vs va vn { s with off := n } := by
  have hF := RD.setFrm w r 6 (.bool n)
  exact ⟨(Tk.set_off _ _ _ _ _ _ (by decide)).trans h.c0, (Tk.set_off _ _ _ _ _ _ (by decide)).trans h.c1, (Tk.set_off _ _ _ _ _ _ (by decide)).trans h.c2, (Tk.set_off _ _ _ _ _ _ (by decide)).trans h.c3, (Tk.set_off _ _ _ _ _ _ (by decide)).trans h.c4, (Tk.set_off _ _ _ _ _ _ (by decide)).trans h.c5, set_same _ _ _ _ _ h.c6, (Tk.set_off _ _ _ _ _ _ (by decide)).trans h.c7, (Tk.set_off _ _ _ _ _ _ (by decide)).trans h.c8,
    h.fz.set _ _, row_frm h.files hF (fun b hb e => h.nf (e ▸ hb)), h.dir.frm hF (fun b hb e => h.nd b hb (.inl e)), h.sure.frm hF (fun b hb e => h.ns b hb (.inl e)), h.acts.frm hF (fun b hb e => h.na b hb (.inl e)), h.fails.frm hF (fun b hb e => h.nn b hb (.inl e)), h.nf, h.nd, h.ns, h.na, h.nn⟩
theorem RD.set_cut (h : RD w r vf vd vs va vn s) (n : Int) : RD (w.setCell ⟨r, 7, none⟩ (.int .i64 n)) r vf vd vs va vn { s with cut := n } := by
  have hF := RD.setFrm w r 7 (.int .i64 n)
  exact ⟨(Tk.set_off _ _ _ _ _ _ (by decide)).trans h.c0, (Tk.set_off _ _ _ _ _ _ (by decide)).trans h.c1, (Tk.set_off _ _ _ _ _ _ (by decide)).trans h.c2, (Tk.set_off _ _ _ _ _ _ (by decide)).trans h.c3, (Tk.set_off _ _ _ _ _ _ (by decide)).trans h.c4, (Tk.set_off _ _ _ _ _ _ (by decide)).trans h.c5, (Tk.set_off _ _ _ _ _ _ (by decide)).trans h.c6, set_same _ _ _ _ _ h.c7, (Tk.set_off _ _ _ _ _ _ (by decide)).trans h.c8,
    h.fz.set _ _, row_frm h.files hF (fun b hb e => h.nf (e ▸ hb)), h.dir.frm hF (fun b hb e => h.nd b hb (.inl e)), h.sure.frm hF (fun b hb e => h.ns b hb (.inl e)), h.acts.frm hF (fun b hb e => h.na b hb (.inl e)), h.fails.frm hF (fun b hb e => h.nn b hb (.inl e)), h.nf, h.nd, h.ns, h.na, h.nn⟩
/-- other names, acts, failing ones -/
theorem RD.set_dir (h : RD w r vf vd vs va vn s) {v : Value} {l : List Nm} (hl : Rw nmC 2 w v l) (hv : ∀ b, v.ownBlock = some b → ¬ rfp r vf b) : RD (w.setCell ⟨r, 1, none⟩ v) r vf v vs va vn { s with dir := l } := by
  have hF := RD.setFrm w r 1 v
  exact ⟨(Tk.set_off _ _ _ _ _ _ (by decide)).trans h.c0, set_same _ _ _ _ _ h.c1, (Tk.set_off _ _ _ _ _ _ (by decide)).trans h.c2, (Tk.set_off _ _ _ _ _ _ (by decide)).trans h.c3, (Tk.set_off _ _ _ _ _ _ (by decide)).trans h.c4, (Tk.set_off _ _ _ _ _ _ (by decide)).trans h.c5, (Tk.set_off _ _ _ _ _ _ (by decide)).trans h.c6, (Tk.set_off _ _ _ _ _ _ (by decide)).trans h.c7, (Tk.set_off _ _ _ _ _ _ (by decide)).trans h.c8,
    h.fz.set _ _, row_frm h.files hF (fun b hb e => h.nf (e ▸ hb)), hl.frm hF (fun b hb e => hv b hb (.inl e)), h.sure.frm hF (fun b hb e => h.ns b hb (.inl e)), h.acts.frm hF (fun b hb e => h.na b hb (.inl e)), h.fails.frm hF (fun b hb e => h.nn b hb (.inl e)), h.nf, hv, h.ns, h.na, h.nn⟩
theorem RD.set_sure (h : RD w r vf vd vs va vn s) {v : Value} {l : List Nm} (hl : Rw nmC 2 w v l) (hv : ∀ b, v.ownBlock = some b → ¬ rfp r vf b) : RD (w.setCell ⟨r, 2, none⟩ v) r vf vd v va vn { s with sure := l } := by
  have hF := RD.setFrm w r 2 v
  exact ⟨(Tk.set_off _ _ _ _ _ _ (by decide)).trans h.c0, (Tk.set_off _ _ _ _ _ _ (by decide)).trans h.c1, set_same _ _ _ _ _ h.c2, (Tk.set_off _ _ _ _ _ _ (by decide)).trans h.c3, (Tk.set_off _ _ _ _ _ _ (by decide)).trans h.c4, (Tk.set_off _ _ _ _ _ _ (by decide)).trans h.c5, (Tk.set_off _ _ _ _ _ _ (by decide)).trans h.c6, (Tk.set_off _ _ _ _ _ _ (by decide)).trans h.c7, (Tk.set_off _ _ _ _ _ _ (by decide)).trans h.c8,
    h.fz.set _ _, row_frm h.files hF (fun b hb e => h.nf (e ▸ hb)), h.dir.frm hF (fun b hb e => h.nd b hb (.inl e)), hl.frm hF (fun b hb e => hv b hb (.inl e)), h.acts.frm hF (fun b hb e => h.na b hb (.inl e)), h.fails.frm hF (fun b hb e => h.nn b hb (.inl e)), h.nf, h.nd, hv, h.na, h.nn⟩
theorem RD.set_acts (h : RD w r vf vd vs va vn s) {v : Value} {l : List DAct} (hl : Rw acC 5 w v l) (hv : ∀ b, v.ownBlock = some b → ¬ rfp r vf b) : RD (w.setCell ⟨r, 3, none⟩ v) r vf vd vs v vn { s with acts := l } := by
  have hF := RD.setFrm w r 3 v
  exact ⟨(Tk.set_off _ _ _ _ _ _ (by decide)).trans h.c0, (Tk.set_off _ _ _ _ _ _ (by decide)).trans h.c1, (Tk.set_off _ _ _ _ _ _ (by decide)).trans h.c2, set_same _ _ _ _ _ h.c3, (Tk.set_off _ _ _ _ _ _ (by decide)).trans h.c4, (Tk.set_off _ _ _ _ _ _ (by decide)).trans h.c5, (Tk.set_off _ _ _ _ _ _ (by decide)).trans h.c6, (Tk.set_off _ _ _ _ _ _ (by decide)).trans h.c7, (Tk.set_off _ _ _ _ _ _ (by decide)).trans h.c8,
    h.fz.set _ _, row_frm h.files hF (fun b hb e => h.nf (e ▸ hb)), h.dir.frm hF (fun b hb e => h.nd b hb (.inl e)), h.sure.frm hF (fun b hb e => h.ns b hb (.inl e)), hl.frm hF (fun b hb e => hv b hb (.inl e)), h.fails.frm hF (fun b hb e => h.nn b hb (.inl e)), h.nf, h.nd, h.ns, hv, h.nn⟩
theorem RD.set_fails (h : RD w r vf vd vs va vn s) {v : Value} {l : List Int} (hl : Rw inC 1 w v l) (hv : ∀ b, v.ownBlock = some b → ¬ rfp r vf b) : RD (w.setCell ⟨r, 8, none⟩ v) r vf vd vs va v { s with fails := l } := by
  have hF := RD.setFrm w r 8 v
  exact ⟨(Tk.set_off _ _ _ _ _ _ (by decide)).trans h.c0, (Tk.set_off _ _ _ _ _ _ (by decide)).trans h.c1, (Tk.set_off _ _ _ _ _ _ (by decide)).trans h.c2, (Tk.set_off _ _ _ _ _ _ (by decide)).trans h.c3, (Tk.set_off _ _ _ _ _ _ (by decide)).trans h.c4, (Tk.set_off _ _ _ _ _ _ (by decide)).trans h.c5, (Tk.set_off _ _ _ _ _ _ (by decide)).trans h.c6, (Tk.set_off _ _ _ _ _ _ (by decide)).trans h.c7, set_same _ _ _ _ _ h.c8,
    h.fz.set _ _, row_frm h.files hF (fun b hb e => h.nf (e ▸ hb)), h.dir.frm hF (fun b hb e => h.nd b hb (.inl e)), h.sure.frm hF (fun b hb e => h.ns b hb (.inl e)), h.acts.frm hF (fun b hb e => h.na b hb (.inl e)), hl.frm hF (fun b hb e => hv b hb (.inl e)), h.nf, h.nd, h.ns, h.na, hv⟩

/-- the files lie in another row -/
theorem RD.set_files (h : RD w r vf vd vs va vn s) {v : Value} {l : List Fl} (hl : w.ownsRow 0 94 2 v l.length (l.flatMap flC)) (hr : v.ownBlock ≠ some r)
    (hd : ∀ b, v.ownBlock = some b → vd.ownBlock ≠ some b ∧ vs.ownBlock ≠ some b ∧ va.ownBlock ≠ some b ∧ vn.ownBlock ≠ some b) : RD (w.setCell ⟨r, 0, none⟩ v) r v vd vs va vn { s with files := l } := by
  have hF := RD.setFrm w r 0 v
  refine ⟨set_same _ _ _ _ _ h.c0, (Tk.set_off _ _ _ _ _ _ (by decide)).trans h.c1, (Tk.set_off _ _ _ _ _ _ (by decide)).trans h.c2, (Tk.set_off _ _ _ _ _ _ (by decide)).trans h.c3, (Tk.set_off _ _ _ _ _ _ (by decide)).trans h.c4, (Tk.set_off _ _ _ _ _ _ (by decide)).trans h.c5, (Tk.set_off _ _ _ _ _ _ (by decide)).trans h.c6, (Tk.set_off _ _ _ _ _ _ (by decide)).trans h.c7, (Tk.set_off _ _ _ _ _ _ (by decide)).trans h.c8,
    h.fz.set _ _, row_frm hl hF (fun b hb e => hr (e ▸ hb)), h.dir.frm hF (fun b hb e => h.nd b hb (.inl e)), h.sure.frm hF (fun b hb e => h.ns b hb (.inl e)), h.acts.frm hF (fun b hb e => h.na b hb (.inl e)), h.fails.frm hF (fun b hb e => h.nn b hb (.inl e)), hr, ?_, ?_, ?_, ?_⟩
  · rintro b hb (e | e)
    · exact h.nd b hb (.inl e)
    · exact (hd b e).1 hb
  · rintro b hb (e | e)
    · exact h.ns b hb (.inl e)
    · exact (hd b e).2.1 hb
  · rintro b hb (e | e)
    · exact h.na b hb (.inl e)
    · exact (hd b e).2.2.1 hb
  · rintro b hb (e | e)
    · exact h.nn b hb (.inl e)
    · exact (hd b e).2.2.2 hb

theorem flat_set {α : Type} {f : α → List Value} {k : Nat} (hk : ∀ x, (f x).length = k) (l : List α) (i j : Nat) (x : α) (u : Value) (hi : i < l.length) (hj : j < k) (hx : f x = (f l[i]).set j u) : (l.flatMap f).set (i * k + j) u = (l.set i x).flatMap f := by
  induction l generalizing i with
  | nil => simp at hi
  | cons y l ih =>
    cases i with
    | zero =>
      rw [Nat.zero_mul, Nat.zero_add, List.set_cons_zero, List.flatMap_cons, List.flatMap_cons, List.set_append_left _ _ (by rw [hk]; exact hj)]
      rw [hx]; rfl
    | succ i =>
      simp only [List.length_cons] at hi
      rw [List.set_cons_succ, List.flatMap_cons, List.flatMap_cons, List.set_append_right _ _ (by rw [hk, Nat.add_mul]; omega), hk, show (i + 1) * k + j - k = i * k + j by rw [Nat.add_mul]; omega, ih i (by omega) hx]

/-- a file's bytes or its sure count are written -/
theorem RD.set_file (h : RD w r vf vd vs va vn s) {g i j : Nat} {x : Fl} {u : Value} (hg : vf.ownBlock = some g) (hi : i < s.files.length) (hj : j < 2) (hx : flC x = (flC s.files[i]).set j u) : RD (w.setCell ⟨g, i * 2 + j, none⟩ u) r vf vd vs va vn { s with files := s.files.set i x } := by
  have hF : Frm (· = g) w (w.setCell ⟨g, i * 2 + j, none⟩ u) := (Frm.refl (fun b => b = g) w).setCell (p := ⟨g, i * 2 + j, none⟩) (fun _ => rfl) u
  have hne : r ≠ g := fun e => h.nf (e ▸ hg)
  have hlt := h.lt r (.inl rfl)
  have hrow : (w.setCell ⟨g, i * 2 + j, none⟩ u).ownsRow 0 94 2 vf s.files.length ((s.files.set i x).flatMap flC) := by
    obtain ⟨ao, cap, rfl, _⟩ := row_slice h.files
    cases ao with
    | none => cases hg
    | some a =>
      have ha : a = ⟨g, 0, none⟩ := by
        rcases h.files.2 with ⟨h1, _⟩ | ⟨g', _, _, h1, _⟩
        · injection h1 with h2; cases h2
        · injection h1 with h2; cases h2; cases hg; rfl
      subst ha
      rw [← flat_set flC_len s.files i j x u hi hj hx]
      exact row_set h.files _ _
  exact ⟨(hF.cell (p := ⟨r, 0, none⟩) hlt hne).trans h.c0, (hF.cell (p := ⟨r, 1, none⟩) hlt hne).trans h.c1, (hF.cell (p := ⟨r, 2, none⟩) hlt hne).trans h.c2, (hF.cell (p := ⟨r, 3, none⟩) hlt hne).trans h.c3, (hF.cell (p := ⟨r, 4, none⟩) hlt hne).trans h.c4, (hF.cell (p := ⟨r, 5, none⟩) hlt hne).trans h.c5, (hF.cell (p := ⟨r, 6, none⟩) hlt hne).trans h.c6, (hF.cell (p := ⟨r, 7, none⟩) hlt hne).trans h.c7, (hF.cell (p := ⟨r, 8, none⟩) hlt hne).trans h.c8,
    h.fz.set _ _, by rw [List.length_set]; exact hrow, h.dir.frm hF (fun b hb e => h.nd b hb (.inr (e ▸ hg))), h.sure.frm hF (fun b hb e => h.ns b hb (.inr (e ▸ hg))), h.acts.frm hF (fun b hb e => h.na b hb (.inr (e ▸ hg))), h.fails.frm hF (fun b hb e => h.nn b hb (.inr (e ▸ hg))), h.nf, h.nd, h.ns, h.na, h.nn⟩
/-- a file's cells -/
theorem RD.file (h : RD w r vf vd vs va vn s) {i : Nat} (hi : i < s.files.length) : ∃ g cap, vf = .slice (some ⟨g, 0, none⟩) s.files.length cap ∧ s.files.length ≤ cap ∧ w.cell? ⟨g, i * 2, none⟩ = some (.string s.files[i].1) ∧ w.cell? ⟨g, i * 2 + 1, none⟩ = some (.int .i64 s.files[i].2) ∧ Fz w g := by
  obtain ⟨ao, cap, rfl, hle, hg⟩ := row_slice h.files
  obtain ⟨g, rfl⟩ := hg (by omega)
  have hR := rw_of_owns flC_len h.files rfl
  obtain ⟨_, _, e, _, _, _, hc⟩ := hR
  cases e
  obtain ⟨g', e, hc⟩ := hc i hi
  cases e
  exact ⟨g, cap, rfl, hle, hc 0 _ rfl, hc 1 _ rfl, row_fz h.files rfl⟩
end Go.Dk

namespace Go.Proofs.Ytngickhakedonaa
open Go.RowKit Go.Tk Go.Dk

def gone (s : DS) : Bool := s.off || (decide (0 ≤ s.cut) && decide (s.cut ≤ s.n))

variable {r : Nat} {vf vd vs va vn : Value} {s : DS}

set_option maxRecDepth 100000 in
set_option maxHeartbeats 400000 in
theorem rstarts_gone (w : World) (h : RD w r vf vd vs va vn s) (hg : gone s = true) :
    Calls Try.prog 63 #[.pointer (some ⟨r, 0, none⟩)] w fun e w' => e = .returned (.tuple #[.int .i64 0, .bool false]) ∧ RD w' r vf vd vs va vn { s with off := true } ∧ Frm (· = r) w w' := by
  have c5 := h.c5
  have c6 := h.c6
  have c7 := h.c7
  have fz := h.fz.frozen
  have H := Lib.hid h
  clear h
  cases ho : s.off with
  | true =>
    rw [ho] at c6
    go_enter Try.func63, Try.ntmps63
    go_wp2_with fail
    go_quiet (fail)
    go_wp2_with fail
    go_ret2
    exact ⟨rfl, RD.set_off (H.out.keep ((Frm.refl _ _).drewN _)) true, ((Frm.refl (fun b => b = r) w).drewN _).setCell (p := ⟨r, 6, none⟩) (fun _ => rfl) _⟩
  | false =>
    rw [ho] at c6
    have h1 : 0 ≤ s.cut ∧ s.cut ≤ s.n := by simpa [gone, ho] using hg
    have t1 : (0 : Int) ≤ s.cut := h1.1
    have t2 : s.cut ≤ (s.n : Int) := h1.2
    clear hg h1
    go_enter Try.func63, Try.ntmps63
    go_wp2_with fail
    go_quiet (fail)
    go_wp2_with fail
    go_ret2
    exact ⟨rfl, RD.set_off (H.out.keep ((Frm.refl _ _).drewN _)) true, ((Frm.refl (fun b => b = r) w).drewN _).setCell (p := ⟨r, 6, none⟩) (fun _ => rfl) _⟩

set_option maxRecDepth 100000 in
set_option maxHeartbeats 400000 in
theorem rstarts_on (w : World) (h : RD w r vf vd vs va vn s) (hg : gone s = false) (hn : s.n ≤ 1000000) :
    Calls Try.prog 63 #[.pointer (some ⟨r, 0, none⟩)] w fun e w' => e = .returned (.tuple #[.int .i64 s.n, .bool true]) ∧ RD w' r vf vd vs va vn { s with n := s.n + 1 } ∧ Frm (· = r) w w' := by
  have c5 := h.c5
  have c6 := h.c6
  have c7 := h.c7
  have fz := h.fz.frozen
  have H := Lib.hid h
  clear h
  have ho : s.off = false := by
    cases ho : s.off with
    | true => simp [gone, ho] at hg
    | false => rfl
  rw [ho] at c6
  by_cases h1 : 0 ≤ s.cut
  · have h2 : ¬ s.cut ≤ s.n := by intro h2; simp [gone, ho, h1, h2] at hg
    have t1 : (0 : Int) ≤ s.cut := h1
    have t2 : decide (s.cut ≤ (s.n : Int)) = false := by simpa using h2
    clear hg h1 h2
    go_enter Try.func63, Try.ntmps63
    go_wp2_with fail
    go_quiet (fail)
    go_wp2_with fail
    go_ret2
    refine ⟨rfl, RD.set_n (H.out.keep ((Frm.refl _ _).drewN _)) (s.n + 1), ((Frm.refl (fun b => b = r) w).drewN _).setCell (p := ⟨r, 5, none⟩) (fun _ => rfl) _⟩
  · have t1 : decide ((0 : Int) ≤ s.cut) = false := by simpa using h1
    clear hg h1
    go_enter Try.func63, Try.ntmps63
    go_wp2_with fail
    go_quiet (fail)
    go_wp2_with fail
    go_ret2
    refine ⟨rfl, RD.set_n (H.out.keep ((Frm.refl _ _).drewN _)) (s.n + 1), ((Frm.refl (fun b => b = r) w).drewN _).setCell (p := ⟨r, 5, none⟩) (fun _ => rfl) _⟩

set_option maxRecDepth 100000 in
set_option maxHeartbeats 400000 in
theorem rfailing_any (n : Nat) (w : World) (h : RD w r vf vd vs va vn s) (hl : s.fails.length ≤ 1000000) :
    Calls Try.prog 67 #[.pointer (some ⟨r, 0, none⟩), .int .i64 n] w fun e w' => e = .returned (.bool (decide ((n : Int) ∈ s.fails))) ∧ Frm (fun _ => False) w w' := by
  have c8 := h.c8
  obtain ⟨ao, cap, rfl, hle, _, _, hc⟩ := h.fails
  generalize hL : s.fails = l at *
  clear hL h
  go_enter Try.func67, Try.ntmps67
  go_wp2_with fail
  go_loopw [5] (fun i wr => ∃ k : Nat, k ≤ l.length ∧ i = .int .i64 k ∧ (∀ x ∈ l.take k, x ≠ (n : Int)) ∧ Frm (fun _ => False) w wr) (fun i _ => l.length - (intOf i).toNat)
  case atStart => exact ⟨0, Nat.zero_le _, rfl, by simp, Frm.refl _ _⟩
  case round =>
    obtain ⟨k, hk, rfl, htk, hf⟩ := hrel
    have c8' := (hf.cell (p := ⟨r, 8, none⟩) (World.block_lt_of_cell? _ _ c8) (fun h => h)).trans c8
    have Htk := Lib.hid htk
    have C8 := Lib.hid c8
    clear htk c8
    by_cases hlt : k < l.length
    · obtain ⟨b, rfl, c1⟩ := hc k hlt
      have r1 := (hf.cell (p := ⟨b, k * 1, none⟩) (World.block_lt_of_cell? _ _ (c1 0 _ rfl)) (fun h => h)).trans (c1 0 _ rfl)
      rw [Nat.mul_one] at r1
      have Hc := Lib.hid hc
      clear hc c1
      have i1 : (0 : Int) ≤ k := by omega
      have i2 : (k : Int) < l.length := by omega
      obtain ⟨x, hx⟩ : ∃ x, x = l[k] := ⟨_, rfl⟩
      rw [← hx] at r1
      have Hx := Lib.hid hx
      clear hx
      by_cases hxy : x = n
      · have he : (n : Int) ∈ l := by rw [← hxy, Hx.out]; exact List.getElem_mem _
        have He := Lib.hid he
        have hn : (x == (n : Int)) = true := by simp [hxy]
        have Hxy := Lib.hid hxy
        clear hxy he
        go_wp2_with fail
        go_ret
        exact ⟨by rw [decide_eq_true He.out]; rfl, hf⟩
      · have hn : (x == (n : Int)) = false := by simpa using hxy
        have Hxy := Lib.hid hxy
        clear hxy
        go_wp2_with fail
        refine ⟨⟨k + 1, by omega, by go_num, ?_, hf⟩, by simp [intOf]; omega⟩
        intro y hy
        rw [List.take_succ_eq_append_getElem hlt] at hy
        rcases List.mem_append.1 hy with hy | hy
        · exact Htk.out y hy
        · simp at hy; rw [hy, ← Hx.out]; exact Hxy.out
    · have hlt' : decide ((k : Int) < l.length) = false := by simp; omega
      have he : ¬ (n : Int) ∈ l := by
        intro hin
        have e : k = l.length := by omega
        exact Htk.out _ (by rw [e, List.take_length]; exact hin) rfl
      have He := Lib.hid he
      clear he
      go_wp2_with fail
      go_ret
      exact ⟨by rw [decide_eq_false He.out]; rfl, hf⟩

def fsize (s : DS) (k : Nat) : Nat := (s.files.getD k (⟨#[]⟩, 0)).1.size
def used (s : DS) : Nat := (s.dir.map fun x => fsize s x.2).sum

set_option maxRecDepth 100000 in
set_option maxHeartbeats 400000 in
theorem rused_any (w : World) (h : RD w r vf vd vs va vn s) (hl : s.dir.length ≤ 1000000) (hfl : s.files.length ≤ 1000000) (hin : ∀ x ∈ s.dir, x.2 < s.files.length) (hb : used s ≤ 1000000000000) :
    Calls Try.prog 66 #[.pointer (some ⟨r, 0, none⟩)] w fun e w' => e = .returned (.int .i64 (used s)) ∧ ∃ m, w' = w.drewN m := by
  have c0 := h.c0
  have c1 := h.c1
  have hfile : ∀ i (hi : i < s.files.length), _ := fun i hi => RD.file (i := i) h hi
  obtain ⟨ao, cap, rfl, hle, _, _, hc⟩ := h.dir
  have Hfile := Lib.hid hfile
  have Hin := Lib.hid hin
  clear hfile hin h
  go_enter Try.func66, Try.ntmps66
  go_wp2_with fail
  go_loopw [3, 4] (fun t i wr => ∃ k : Nat, k ≤ s.dir.length ∧ i = .int .i64 k ∧ t = .int .i64 ((s.dir.take k).map fun x => fsize s x.2).sum ∧ ∃ m, wr = w.drewN m) (fun _ i _ => s.dir.length - (intOf i).toNat)
  case atStart => exact ⟨0, Nat.zero_le _, rfl, rfl, 0, rfl⟩
  case round =>
    obtain ⟨k, hk, rfl, rfl, hm⟩ := hrel
    have hf : Frm (fun _ => False) w wr := by obtain ⟨m, rfl⟩ := hm; exact (Frm.refl _ w).drewN m
    have HM := Lib.hid hm
    clear hm
    have c0' := (hf.cell (p := ⟨r, 0, none⟩) (World.block_lt_of_cell? _ _ c0) (fun h => h)).trans c0
    have c1' := (hf.cell (p := ⟨r, 1, none⟩) (World.block_lt_of_cell? _ _ c1) (fun h => h)).trans c1
    have C0 := Lib.hid (And.intro c0 c1)
    clear c0 c1
    by_cases hlt : k < s.dir.length
    · obtain ⟨b, rfl, q1⟩ := hc k hlt
      have r1 := (hf.cell (p := ⟨b, k * 2 + 1, none⟩) (World.block_lt_of_cell? _ _ (q1 1 _ rfl)) (fun h => h)).trans (q1 1 _ rfl)
      have Hc := Lib.hid hc
      clear hc q1
      have i1 : (0 : Int) ≤ k := by omega
      have i2 : (k : Int) < s.dir.length := by omega
      have hfi : s.dir[k].2 < s.files.length := Hin.out _ (List.getElem_mem _)
      obtain ⟨g, cap2, rfl, hle2, f1, _, _⟩ := Hfile.out _ hfi
      have f1' := (hf.cell (p := ⟨g, s.dir[k].2 * 2, none⟩) (World.block_lt_of_cell? _ _ f1) (fun h => h)).trans f1
      clear f1
      have hsz : fsize s s.dir[k].2 = s.files[s.dir[k].2].1.size := by unfold fsize; rw [List.getD_eq_getElem?_getD, List.getElem?_eq_getElem hfi]; rfl
      have hsum : ((s.dir.take (k + 1)).map fun x => fsize s x.2).sum = ((s.dir.take k).map fun x => fsize s x.2).sum + s.files[s.dir[k].2].1.size := by
        rw [List.take_succ_eq_append_getElem hlt, List.map_append, List.sum_append]
        simp [hsz]
      have hle3 : ((s.dir.take (k + 1)).map fun x => fsize s x.2).sum ≤ used s := by
        have e : used s = ((s.dir.take (k + 1)).map fun x => fsize s x.2).sum + ((s.dir.drop (k + 1)).map fun x => fsize s x.2).sum := by
          unfold used
          rw [← List.sum_append, ← List.map_append, List.take_append_drop]
        omega
      have Hsum := Lib.hid hsum
      have hb2 : (((s.dir.take k).map fun x => fsize s x.2).sum : Int) + (s.files[s.dir[k].2].1.size : Int) ≤ 1000000000000 := by omega
      generalize hA0 : ((s.dir.take k).map fun x => fsize s x.2).sum = A0 at *
      generalize hB0 : s.files[s.dir[k].2].1 = B0 at *
      generalize hX0 : s.dir[k].2 = X0 at *
      have j1 : (0 : Int) ≤ X0 := by omega
      have j2 : (X0 : Int) < s.files.length := by omega
      clear hsum hle3
      go_wp2_with fail
      go_quiet (fail)
      go_wp2_with fail
      exact ⟨⟨k + 1, by omega, by go_num, by rw [Hsum.out]; go_num, by obtain ⟨m, e⟩ := HM.out; exact ⟨m + nq, by rw [e, World.drewN_drewN]⟩⟩, by simp [intOf]; omega⟩
    · have hlt' : decide ((k : Int) < s.dir.length) = false := by simp; omega
      have hkl : k = s.dir.length := by omega
      have e : ((s.dir.take k).map fun x => fsize s x.2).sum = used s := by rw [hkl, List.take_length]; rfl
      rw [e]
      clear e hkl
      go_wp2_with fail
      go_ret
      exact ⟨rfl, HM.out⟩
end Go.Proofs.Ytngickhakedonaa

namespace Go.Proofs.Ytngickhakedonaa
open Go.RowKit Go.Tk Go.Dk

theorem info124 : (Try.prog.info? 124).map (fun i => (i.zero, i.size, i.bytes)) = some (some (.agg #[.int .i64 0, .string ⟨#[]⟩, .string ⟨#[]⟩, .int .i64 0, .int .i64 0]), 5, 56) := by kernel_rfl

def lsA (f : Int) : DAct → Bool
  | .put k _ => decide ((k : Int) ≠ f)
  | _ => decide (0 ≤ f)
/-- how the code asks it -/
theorem lsA_eq (f : Int) (a : DAct) : lsA f a = (a.c0 == 3 && !(a.c3 == f) || !(a.c0 == 3) && decide (0 ≤ f)) := by
  cases a with
  | put k n =>
    by_cases h : (k : Int) = f
    · simp [lsA, DAct.c0, DAct.c3, h]
    · simp [lsA, DAct.c0, DAct.c3, h]
  | _ => simp [lsA, DAct.c0, DAct.c3]

variable {r : Nat} {vf vd vs va vn : Value} {s : DS}

set_option maxRecDepth 100000 in
set_option maxHeartbeats 800000 in
theorem rloose_any (f : Int) (w : World) (h : RD w r vf vd vs va vn s) (hl : s.acts.length ≤ 100000) (hf1 : -1 ≤ f) (hf2 : f ≤ 1000000) :
    Calls Try.prog 77 #[.pointer (some ⟨r, 0, none⟩), .int .i64 f] w fun e w' => ∃ v', e = .returned v' ∧ w'.ownsRow w.heap.size 124 5 v' (s.acts.filter (lsA f)).length ((s.acts.filter (lsA f)).flatMap acC) ∧ Frm (fun _ => False) w w' := by
  have c3 := h.c3
  obtain ⟨ao, cap, rfl, hle, _, _, hc⟩ := h.acts
  generalize hL : s.acts = l at *
  clear hL h
  obtain ⟨i0, hi, hz0, hz1, hz2⟩ := info_parts info124
  go_enter Try.func77, Try.ntmps77
  go_wp2_with fail
  go_loopw [5, 6] (fun gv i wr => ∃ k : Nat, k ≤ l.length ∧ i = .int .i64 k ∧ wr.ownsRow w.heap.size 124 5 gv ((l.take k).filter (lsA f)).length (((l.take k).filter (lsA f)).flatMap acC) ∧ Frm (fun _ => False) w wr) (fun _ i _ => l.length - (intOf i).toNat)
  case atStart => exact ⟨0, Nat.zero_le _, rfl, World.ownsRow_nil _ _ _ _, Frm.refl _ _⟩
  case round =>
    obtain ⟨k, hk, rfl, hown, hf⟩ := hrel
    have c3' := (hf.cell (p := ⟨r, 3, none⟩) (World.block_lt_of_cell? _ _ c3) (fun h => h)).trans c3
    have C3 := Lib.hid c3
    clear c3
    by_cases hlt : k < l.length
    · obtain ⟨b, rfl, q⟩ := hc k hlt
      have r0 := (hf.cell (p := ⟨b, k * 5, none⟩) (World.block_lt_of_cell? _ _ (q 0 _ rfl)) (fun h => h)).trans (q 0 _ rfl)
      have r1 := (hf.cell (p := ⟨b, k * 5 + 1, none⟩) (World.block_lt_of_cell? _ _ (q 1 _ rfl)) (fun h => h)).trans (q 1 _ rfl)
      have r2 := (hf.cell (p := ⟨b, k * 5 + 2, none⟩) (World.block_lt_of_cell? _ _ (q 2 _ rfl)) (fun h => h)).trans (q 2 _ rfl)
      have r3 := (hf.cell (p := ⟨b, k * 5 + 3, none⟩) (World.block_lt_of_cell? _ _ (q 3 _ rfl)) (fun h => h)).trans (q 3 _ rfl)
      have r4 := (hf.cell (p := ⟨b, k * 5 + 4, none⟩) (World.block_lt_of_cell? _ _ (q 4 _ rfl)) (fun h => h)).trans (q 4 _ rfl)
      have Hc := Lib.hid hc
      clear hc q
      have i1 : (0 : Int) ≤ k := by omega
      have i2 : (k : Int) < l.length := by omega
      obtain ⟨x, hx⟩ : ∃ x, x = l[k] := ⟨_, rfl⟩
      rw [← hx] at r0 r1 r2 r3 r4
      have htk : l.take (k + 1) = l.take k ++ [x] := by rw [List.take_succ_eq_append_getElem hlt, hx]
      have hwl : ((l.take k).filter (lsA f)).length ≤ 1000000 := by
        have := List.length_filter_le (lsA f) (l.take k)
        rw [List.length_take] at this
        omega
      have Hx := Lib.hid hx
      have Htk := Lib.hid htk
      have hls := lsA_eq f x
      clear hx htk
      have Q := app_facts (wr.alloc (.cells #[.int .i64 x.c0, .string x.c1, .string x.c2, .int .i64 x.c3, .int .i64 x.c4] 124)) (acC x) 124 ((l.take k).filter (lsA f)).length 56 w.heap.size (by simp [acC, Value.oneCell']) hwl (by decide) (by rw [World.size_alloc]; exact Nat.le_succ_of_le hf.size)
      have E : lsA f x = false → (l.take (k + 1)).filter (lsA f) = (l.take k).filter (lsA f) := by
        intro h; rw [Htk.out, List.filter_append]; simp [h]
      have E' : lsA f x = true → (l.take (k + 1)).filter (lsA f) = (l.take k).filter (lsA f) ++ [x] := by
        intro h; rw [Htk.out, List.filter_append]; simp [h]
      have HE := Lib.hid (And.intro E E')
      clear E E'
      have keep : ∀ (v' : Value) (wa : World), lsA f x = true → wa.ownsRow w.heap.size 124 5 v' (((l.take k).filter (lsA f)).length + 1) (((l.take k).filter (lsA f)).flatMap acC ++ acC x) → wa.ownsRow w.heap.size 124 5 v' ((l.take (k + 1)).filter (lsA f)).length (((l.take (k + 1)).filter (lsA f)).flatMap acC) := by
        intro v' wa h1 h2
        rw [HE.out.2 h1, List.flatMap_append, List.length_append]
        simpa using h2
      have Keep := Lib.hid keep
      clear keep
      have hfo : Frm (fun _ => False) w (wr.alloc (.cells #[.int .i64 x.c0, .string x.c1, .string x.c2, .int .i64 x.c3, .int .i64 x.c4] 124)) := hf.alloc _
      have hown1 := hown.alloc (.cells #[.int .i64 x.c0, .string x.c1, .string x.c2, .int .i64 x.c3, .int .i64 x.c4] 124)
      have Hf := Lib.hid (And.intro hf hfo)
      clear hf hfo
      have HX : RowKit.Hid (acC x = [.int .i64 x.c0, .string x.c1, .string x.c2, .int .i64 x.c3, .int .i64 x.c4]) := Lib.hid rfl
      generalize x.c0 = z0 at *
      generalize x.c1 = z1 at *
      generalize x.c2 = z2 at *
      generalize x.c3 = z3 at *
      generalize x.c4 = z4 at *
      rw [HX.out] at Q Keep
      have Q1 : ∀ j u, [Value.int .i64 z0, .string z1, .string z2, .int .i64 z3, .int .i64 z4][j]? = some u → ((wr.alloc (.cells #[.int .i64 z0, .string z1, .string z2, .int .i64 z3, .int .i64 z4] 124)).alloc (.cells #[.int .i64 z0, .string z1, .string z2, .int .i64 z3, .int .i64 z4] 124)).cell? ((⟨wr.heap.size + 1, 0, none⟩ : Addr).add j) = some u := by
        have := Q.out.1
        rw [World.size_alloc] at this
        exact this
      have HQ1 := Lib.hid Q1
      clear Q1
      by_cases h3 : z0 = 3
      · subst h3
        by_cases h4 : z3 = f
        · subst h4
          have Hls := Lib.hid (hls.trans (by simp) : lsA z3 x = false)
          clear hls hown1
          go_wp2_with fail
          exact ⟨⟨k + 1, by omega, by go_num, by rw [HE.out.1 Hls.out]; exact hown.alloc _, Hf.out.1.alloc _⟩, by simp [intOf]; omega⟩
        · have b4 : (z3 == f) = false := by simpa using h4
          have b5 : (z3 != f) = true := by simp [bne, b4]
          have Hls := Lib.hid (hls.trans (by simp [b4]) : lsA f x = true)
          clear hls h4 hown
          go_wp2_with (first | (at_builtin; refine wpList_append_own _ rfl _ _ 82 rfl w.heap.size 124 i0 _ 5 56 Try.underlying82 hi hz0 hz1 hz2 rfl (by decide) _ _ _ rfl (hown1.alloc _) ⟨wr.heap.size + 1, 0, none⟩ 1 1 _ rfl rfl HQ1.out Q.out.2.1 Q.out.2.2.1 Q.out.2.2.2.1 Q.out.2.2.2.2 ?_; intro v' wa hown' hgrow _))
          exact ⟨⟨k + 1, by omega, by go_num, Keep.out _ _ Hls.out hown', with_step Hf.out.2 hown1 hgrow⟩, by simp [intOf]; omega⟩
      · have b3 : (z0 == 3) = false := by simpa using h3
        have b5 : (z0 != 3) = true := by simp [bne, b3]
        by_cases h4 : 0 ≤ f
        · have b4 : (0 : Int) ≤ f := h4
          have Hls := Lib.hid (hls.trans (by simp [h4, b3]) : lsA f x = true)
          clear hls h3 h4 hown
          go_wp2_with (first | (at_builtin; refine wpList_append_own _ rfl _ _ 82 rfl w.heap.size 124 i0 _ 5 56 Try.underlying82 hi hz0 hz1 hz2 rfl (by decide) _ _ _ rfl (hown1.alloc _) ⟨wr.heap.size + 1, 0, none⟩ 1 1 _ rfl rfl HQ1.out Q.out.2.1 Q.out.2.2.1 Q.out.2.2.2.1 Q.out.2.2.2.2 ?_; intro v' wa hown' hgrow _))
          exact ⟨⟨k + 1, by omega, by go_num, Keep.out _ _ Hls.out hown', with_step Hf.out.2 hown1 hgrow⟩, by simp [intOf]; omega⟩
        · have b4 : decide ((0 : Int) ≤ f) = false := by simpa using h4
          have Hls := Lib.hid (hls.trans (by simp [h4, b3]) : lsA f x = false)
          clear hls h3 h4 hown1
          go_wp2_with fail
          exact ⟨⟨k + 1, by omega, by go_num, by rw [HE.out.1 Hls.out]; exact hown.alloc _, Hf.out.1.alloc _⟩, by simp [intOf]; omega⟩
    · have hlt' : decide ((k : Int) < l.length) = false := by simp; omega
      have e : l.take k = l := List.take_of_length_le (by omega)
      rw [e] at hown
      clear e
      go_wp2_with fail
      go_ret
      exact ⟨_, rfl, hown, hf⟩
end Go.Proofs.Ytngickhakedonaa

namespace Go.Proofs.Ytngickhakedonaa
open Go.RowKit Go.Tk Go.Dk

def doneD (l : List Nm) : DAct → List Nm
  | .mk n k => wi l n k
  | .mv a b => wi (wo (wo l a) b) b ((ofI l a).getD 0)
  | .rm n => wo l n
  | .put _ _ => l

/-- a new row, or the old one -/
def Fresh (w : World) (v v' : Value) : Prop := v' = v ∨ ∀ b, v'.ownBlock = some b → w.heap.size ≤ b

theorem rw_own {w : World} {base : Nat} {v : Value} {l : List Nm} (h : w.ownsRow base 92 2 v l.length (l.flatMap nmC)) : Rw nmC 2 w v l := rw_of_owns nmC_len h rfl

abbrev acV (a : DAct) : Value := .agg #[.int .i64 a.c0, .string a.c1, .string a.c2, .int .i64 a.c3, .int .i64 a.c4]

theorem wo_len (l : List Nm) (s : ByteArray) : (wo l s).length ≤ l.length := List.length_filter_le _ _

set_option maxRecDepth 100000 in
set_option maxHeartbeats 1000000 in
theorem rdone_any (v : Value) (l : List Nm) (a : DAct) (w : World) (h : Rw nmC 2 w v l) (hl : l.length ≤ 100000) (hmv : ∀ x y, a = .mv x y → (ofI l x).isSome = true) :
    Calls Try.prog 70 #[v, acV a] w fun e w' => ∃ v', e = .returned v' ∧ Rw nmC 2 w' v' (doneD l a) ∧ Fresh w v v' ∧ Frm (fun _ => False) w w' := by
  cases a with
  | mk n k =>
    have hb := (h.frm (S := fun _ => False) ((Frm.refl _ w).alloc (.cells #[.int .i64 0, .string n, .string ⟨#[]⟩, .int .i64 k, .int .i64 0] 124)) (fun _ _ h => h))
    have H := Lib.hid hb
    clear h hb hmv
    go_enter Try.func70, Try.ntmps70
    go_wp2_with fail
    refine (with_any v l n k _ H.out hl).mono ?_
    rintro e w1 ⟨v', rfl, ho, hf⟩
    go_wp2_with fail
    go_ret
    refine ⟨_, rfl, rw_own ho, .inr fun b hb => ?_, ((Frm.refl _ _).alloc _).trans hf⟩
    have := (ho.lt b hb).1
    rw [World.size_alloc] at this
    omega
  | mv x y =>
    have hb := (h.frm (S := fun _ => False) ((Frm.refl _ w).alloc (.cells #[.int .i64 1, .string x, .string y, .int .i64 0, .int .i64 0] 124)) (fun _ _ h => h))
    have H := Lib.hid hb
    obtain ⟨k, hk⟩ := Option.isSome_iff_exists.1 (hmv x y rfl)
    have hz : ofZ l x = (k : Nat) := by simp [ofZ, hk]
    have Hk := Lib.hid (And.intro hk hz)
    clear h hb hmv hk hz
    go_enter Try.func70, Try.ntmps70
    go_wp2_with fail
    refine (of_any v l x _ H.out (by omega)).mono ?_
    rintro e w1 ⟨rfl, hf1⟩
    rw [Hk.out.2]
    have b1 : w1.cell? ⟨w.heap.size, 1, none⟩ = some (.string x) := (hf1.cell (p := ⟨w.heap.size, 1, none⟩) (by simp) (fun h => h)).trans (by simp)
    have b2 : w1.cell? ⟨w.heap.size, 2, none⟩ = some (.string y) := (hf1.cell (p := ⟨w.heap.size, 2, none⟩) (by simp) (fun h => h)).trans (by simp)
    have hR := Lib.hid (H.out.frm hf1 (fun _ _ h => h))
    have hs1 := hf1.size
    rw [World.size_alloc] at hs1
    have hF1 := Lib.hid (((Frm.refl (fun _ => False) w).alloc (.cells #[.int .i64 1, .string x, .string y, .int .i64 0, .int .i64 0] 124)).trans hf1)
    clear hf1
    go_wp2_with fail
    have W1 := wo_len l x
    have W2 := wo_len (wo l x) y
    go_region_held3 (fun w' => w'.cell? ⟨w.heap.size, 1, none⟩ = some (.string x) ∧ w'.cell? ⟨w.heap.size, 2, none⟩ = some (.string y)) (first | exact ⟨b1, b2⟩ | exact Hb2.out | exact Hb3.out | exact Hb4.out) (first
      | (go_at_call 79; refine (with_any v2 (wo (wo l x) y) y k w3 (rw_own Ho2.out.1) (by omega)).mono ?_; rintro e w4 ⟨v3, rfl, ho3, hf4⟩; have Hb4 := Lib.hid (And.intro ((hf4.cell (p := ⟨w.heap.size, 1, none⟩) (Nat.lt_of_lt_of_le hs1 Ho2.out.2.size) (fun h => h)).trans Hb3.out.1) ((hf4.cell (p := ⟨w.heap.size, 2, none⟩) (Nat.lt_of_lt_of_le hs1 Ho2.out.2.size) (fun h => h)).trans Hb3.out.2)); have Ho3 := Lib.hid (And.intro ho3 (Ho2.out.2.trans hf4)); clear ho3 hf4)
      | (have q := Ho1; clear q; go_at_call 80; refine (without_any v1 (wo l x) y w2 (rw_own Ho1.out.1) (by omega)).mono ?_; rintro e w3 ⟨v2, rfl, ho2, hf3⟩; have Hb3 := Lib.hid (And.intro ((hf3.cell (p := ⟨w.heap.size, 1, none⟩) (Nat.lt_of_lt_of_le hs1 Ho1.out.2.size) (fun h => h)).trans Hb2.out.1) ((hf3.cell (p := ⟨w.heap.size, 2, none⟩) (Nat.lt_of_lt_of_le hs1 Ho1.out.2.size) (fun h => h)).trans Hb2.out.2)); have Ho2 := Lib.hid (And.intro ho2 (Ho1.out.2.trans hf3)); clear ho2 hf3)
      | (go_at_call 80; refine (without_any v l x w1.drew (hR.out.frm (S := fun _ => False) (Frm.refl _ _).drew (fun _ _ h => h)) (by omega)).mono ?_; rintro e w2 ⟨v1, rfl, ho1, hf2⟩; have Hb2 := Lib.hid (And.intro ((hf2.cell (p := ⟨w.heap.size, 1, none⟩) (by exact hs1) (fun h => h)).trans b1) ((hf2.cell (p := ⟨w.heap.size, 2, none⟩) (by exact hs1) (fun h => h)).trans b2)); have Ho1 := Lib.hid (And.intro ho1 hf2); clear ho1 hf2))
    go_wp2_with fail
    go_ret
    have ek : (ofI l x).getD 0 = k := by rw [Hk.out.1]; rfl
    refine ⟨v3, rfl, ?_, .inr fun b hb => ?_, (hF1.out.drew).trans Ho3.out.2⟩
    · show Rw nmC 2 w4 v3 (wi (wo (wo l x) y) y ((ofI l x).getD 0))
      rw [ek]
      exact rw_own Ho3.out.1
    · have := (Ho3.out.1.lt b hb).1
      have := Ho2.out.2.size
      have e : w1.drew.heap.size = w1.heap.size := rfl
      rw [e] at this
      omega
  | rm n =>
    have hb := (h.frm (S := fun _ => False) ((Frm.refl _ w).alloc (.cells #[.int .i64 2, .string n, .string ⟨#[]⟩, .int .i64 0, .int .i64 0] 124)) (fun _ _ h => h))
    have H := Lib.hid hb
    clear h hb hmv
    go_enter Try.func70, Try.ntmps70
    go_wp2_with fail
    refine (without_any v l n _ H.out (by omega)).mono ?_
    rintro e w1 ⟨v', rfl, ho, hf⟩
    go_wp2_with fail
    go_ret
    refine ⟨_, rfl, rw_own ho, .inr fun b hb => ?_, ((Frm.refl _ _).alloc _).trans hf⟩
    have := (ho.lt b hb).1
    rw [World.size_alloc] at this
    omega
  | put k n =>
    have hb := (h.frm (S := fun _ => False) ((Frm.refl _ w).alloc (.cells #[.int .i64 3, .string ⟨#[]⟩, .string ⟨#[]⟩, .int .i64 k, .int .i64 n] 124)) (fun _ _ h => h))
    have H := Lib.hid hb
    clear h hb hmv
    go_enter Try.func70, Try.ntmps70
    go_wp2_with fail
    go_ret
    exact ⟨_, rfl, H.out, .inl rfl, (Frm.refl _ _).alloc _⟩
end Go.Proofs.Ytngickhakedonaa

namespace Go.Dk
open Go Go.Tk

def up (w w' : World) (B : Nat → Prop) (b : Nat) : Prop := B b ∨ (w.heap.size ≤ b ∧ b < w'.heap.size)

/-- a disk by definition, B: its blocks -/
def RX (w : World) (r : Nat) (B : Nat → Prop) (s : DS) : Prop :=
  ∃ vf vd vs va vn, RD w r vf vd vs va vn s ∧ B r ∧ (∀ b, vf.ownBlock = some b → B b) ∧ (∀ b, vd.ownBlock = some b → B b) ∧ (∀ b, vs.ownBlock = some b → B b) ∧ (∀ b, va.ownBlock = some b → B b) ∧ (∀ b, vn.ownBlock = some b → B b)

theorem RX.frm {w w' : World} {r : Nat} {B S : Nat → Prop} {s : DS} (h : RX w r B s) (hf : Frm S w w') (hd : ∀ b, B b → ¬ S b) : RX w' r B s := by
  obtain ⟨vf, vd, vs, va, vn, h, h0, h1, h2, h3, h4, h5⟩ := h
  refine ⟨vf, vd, vs, va, vn, h.frm hf (fun b hb => hd b ?_) (fun b hb => hd b (h2 b hb)) (fun b hb => hd b (h3 b hb)) (fun b hb => hd b (h4 b hb)) (fun b hb => hd b (h5 b hb)), h0, h1, h2, h3, h4, h5⟩
  rcases hb with rfl | hb
  · exact h0
  · exact h1 b hb
theorem RX.mono {w : World} {r : Nat} {B C : Nat → Prop} {s : DS} (h : RX w r B s) (hc : ∀ b, B b → C b) : RX w r C s := by
  obtain ⟨vf, vd, vs, va, vn, h, h0, h1, h2, h3, h4, h5⟩ := h
  exact ⟨vf, vd, vs, va, vn, h, hc _ h0, fun b h => hc b (h1 b h), fun b h => hc b (h2 b h), fun b h => hc b (h3 b h), fun b h => hc b (h4 b h), fun b h => hc b (h5 b h)⟩
theorem up_refl {w w' : World} {B : Nat → Prop} {b : Nat} (h : B b) : up w w' B b := .inl h
end Go.Dk

namespace Go.Proofs.Ytngickhakedonaa
open Go.RowKit Go.Tk Go.Dk

variable {r : Nat} {s : DS} {B : Nat → Prop}

def getF (s : DS) (k : Nat) : Fl := s.files.getD k (⟨#[]⟩, 0)
theorem getF_eq {s : DS} {k : Nat} (h : k < s.files.length) : getF s k = s.files[k] := by
  unfold getF; rw [List.getD_eq_getElem?_getD, List.getElem?_eq_getElem h]; rfl

/-- the acts that are left are laid into a row of their own -/
theorem RX_acts {w w1 w2 : World} {vf vd vs va vn v : Value} {l : List DAct} (h : RD w1 r vf vd vs va vn s) (h0 : B r) (h1 : ∀ b, vf.ownBlock = some b → B b) (h2 : ∀ b, vd.ownBlock = some b → B b) (h3 : ∀ b, vs.ownBlock = some b → B b) (h4 : ∀ b, va.ownBlock = some b → B b) (h5 : ∀ b, vn.ownBlock = some b → B b)
    (hf : Frm B w w1) (ho : w2.ownsRow w1.heap.size 124 5 v l.length (l.flatMap acC)) (hf2 : Frm (fun _ => False) w1 w2) : RX (w2.setCell ⟨r, 3, none⟩ v) r (up w (w2.setCell ⟨r, 3, none⟩ v) B) { s with acts := l } ∧ Frm B w (w2.setCell ⟨r, 3, none⟩ v) := by
  have hs := hf.size
  refine ⟨⟨vf, vd, vs, v, vn, (h.keep hf2).set_acts (rw_of_owns acC_len ho rfl) (fun b hb hin => ?_), .inl h0, fun b hb => .inl (h1 b hb), fun b hb => .inl (h2 b hb), fun b hb => .inl (h3 b hb), fun b hb => .inr ⟨?_, ?_⟩, fun b hb => .inl (h5 b hb)⟩, ?_⟩
  · have := (ho.lt b hb).1; have := h.lt b hin; omega
  · have := (ho.lt b hb).1; omega
  · have := (ho.lt b hb).2; simpa using this
  · exact (hf.trans (hf2.mono (fun _ _ h => h.elim))).setCell (p := ⟨r, 3, none⟩) (fun _ => h0) v

set_option maxRecDepth 100000 in
set_option maxHeartbeats 1000000 in
theorem rfail_sync (k : Nat) (w : World) (h : RX w r B s) (hk : k < s.files.length) (hk' : s.files.length ≤ 100000) (hl : s.acts.length ≤ 100000) (hsu : (getF s k).2 ≤ (getF s k).1.size) :
    Calls Try.prog 68 #[.pointer (some ⟨r, 0, none⟩), .int .i64 2, .int .i64 k] w fun e w' => e = .returned (.tuple #[]) ∧
      RX w' r (up w w' B) { s with files := s.files.set k ((getF s k).1.extract 0 (getF s k).2, (getF s k).2), acts := s.acts.filter (lsA k) } ∧ Frm B w w' := by
  obtain ⟨vf, vd, vs, va, vn, h, h0, h1, h2, h3, h4, h5⟩ := h
  have c0 := h.c0
  have c3 := h.c3
  obtain ⟨g, cap, rfl, hle, f0, f1, fz⟩ := h.file hk
  have fzr := h.fz.frozen
  have fzg := fz.frozen
  have hrlt := h.lt r (.inl rfl)
  have hne : r ≠ g := fun e => h.nf (by rw [e]; rfl)
  rw [getF_eq hk] at hsu ⊢
  have hset := h.set_file (g := g) (i := k) (j := 0) (x := (s.files[k].1.extract 0 s.files[k].2, s.files[k].2)) (u := .string (s.files[k].1.extract 0 s.files[k].2)) rfl hk (by decide) rfl
  generalize hX : s.files[k] = X at *
  obtain ⟨Xb, Xs⟩ := X
  simp only [Nat.add_zero] at hset
  have i1 : (0 : Int) ≤ k := by omega
  have i2 : (k : Int) < s.files.length := by omega
  have i3 : (0 : Int) ≤ Xs := by omega
  have i4 : (Xs : Int) ≤ Xb.size := by simpa using hsu
  have Hset := Lib.hid (And.intro hset hX)
  have Hold := Lib.hid (And.intro h (And.intro h0 (And.intro h1 (And.intro h2 (And.intro h3 (And.intro h4 h5))))))
  clear hset hX h h0 h1 h2 h3 h4 h5 fz hsu
  go_enter Try.func68, Try.ntmps68
  go_wp2_with fail
  go_still_tail 24, (by kernel_rfl)
  go_wp2_with fail
  have hw1 : RD (w.setCell ⟨g, k * 2, none⟩ (.string (Xb.extract 0 Xs))).drew r _ vd vs va vn _ := Hset.out.1.keep (Frm.refl _ _).drew
  have Hw1 := Lib.hid hw1
  clear hw1
  refine (rloose_any (k : Int) _ Hw1.out hl (by omega) (by omega)).mono ?_
  rintro e w2 ⟨v, rfl, ho, hf2⟩
  have c3b := (Hw1.out.keep hf2).c3
  have fzb := (Hw1.out.keep hf2).fz.frozen
  have Ho := Lib.hid (And.intro ho hf2)
  obtain ⟨ao, cap2, hv, _⟩ := row_slice ho
  subst hv
  clear ho hf2
  go_wp2_with fail
  go_end0
  have hF : Frm B w (w.setCell ⟨g, k * 2, none⟩ (.string (Xb.extract 0 Xs))).drew := ((Frm.refl B w).setCell (p := ⟨g, k * 2, none⟩) (fun _ => Hold.out.2.2.1 g rfl) _).drew
  have := RX_acts Hw1.out Hold.out.2.1 Hold.out.2.2.1 Hold.out.2.2.2.1 Hold.out.2.2.2.2.1 Hold.out.2.2.2.2.2.1 Hold.out.2.2.2.2.2.2 hF Ho.out.1 Ho.out.2
  exact ⟨rfl, this.1, this.2⟩

set_option maxRecDepth 100000 in
set_option maxHeartbeats 1000000 in
theorem rfail_dir (f : Int) (w : World) (h : RX w r B s) (hl : s.acts.length ≤ 100000) :
    Calls Try.prog 68 #[.pointer (some ⟨r, 0, none⟩), .int .i64 3, .int .i64 f] w fun e w' => e = .returned (.tuple #[]) ∧
      RX w' r (up w w' B) { s with dir := s.sure, acts := s.acts.filter (lsA (-1)) } ∧ Frm B w w' := by
  obtain ⟨vf, vd, vs, va, vn, h, h0, h1, h2, h3, h4, h5⟩ := h
  have c1 := h.c1
  have c2 := h.c2
  have fzr := h.fz.frozen
  have hset := h.set_dir h.sure h.ns
  obtain ⟨ao, cap, hvs, _⟩ := h.sure
  have Hset := Lib.hid hset
  have Hold := Lib.hid (And.intro h (And.intro h0 (And.intro h1 (And.intro h2 (And.intro h3 (And.intro h4 h5))))))
  clear hset h h0 h1 h2 h3 h4 h5
  subst hvs
  go_enter Try.func68, Try.ntmps68
  go_wp2_with fail
  refine (rloose_any (-1) _ Hset.out hl (by omega) (by omega)).mono ?_
  rintro e w2 ⟨v, rfl, ho, hf2⟩
  have c3b := (Hset.out.keep hf2).c3
  have fzb := (Hset.out.keep hf2).fz.frozen
  have Ho := Lib.hid (And.intro ho hf2)
  obtain ⟨ao', cap2, hv, _⟩ := row_slice ho
  subst hv
  clear ho hf2
  go_wp2_with fail
  go_end0
  have hF : Frm B w (w.setCell ⟨r, 1, none⟩ (.slice ao s.sure.length cap)) := (Frm.refl B w).setCell (p := ⟨r, 1, none⟩) (fun _ => Hold.out.2.1) _
  have := RX_acts Hset.out Hold.out.2.1 Hold.out.2.2.1 Hold.out.2.2.2.2.1 Hold.out.2.2.2.2.1 Hold.out.2.2.2.2.2.1 Hold.out.2.2.2.2.2.2 hF Ho.out.1 Ho.out.2
  exact ⟨rfl, this.1, this.2⟩

theorem rfail_no (kind f : Int) (w : World) (h2 : kind ≠ 2) (h3 : kind ≠ 3) :
    Calls Try.prog 68 #[.pointer (some ⟨r, 0, none⟩), .int .i64 kind, .int .i64 f] w fun e w' => e = .returned (.tuple #[]) ∧ w' = w := by
  have t2 : (kind == 2) = false := by simpa using h2
  have t3 : (kind == 3) = false := by simpa using h3
  go_enter Try.func68, Try.ntmps68
  go_wp2_with fail
  go_end0
  exact ⟨rfl, rfl⟩
end Go.Proofs.Ytngickhakedonaa

namespace Go.Tk
open Go

section
variable {P : Program} {ops : Array Oper} {Q : Exit → Act → World → Prop} {md : Region.Mode}

/-- every edge goes back; the last operation waits for all others, or for one that waits -/
def lastB (md : Region.Mode) (ops : Array Oper) (n : Nat) : Bool :=
  decide (ops.size = n + 1) && ((List.range (n + 1)).all fun j => ((ops[j]?).map fun o => o.after.all fun e => decide (e.on < j)).getD true) &&
  ((List.range n).all fun j => ((ops[n]?).map fun o => o.after.toList.any fun e => Region.binds md e && (decide (e.on = j) || ((ops[e.on]?).map fun o' => o'.after.toList.any fun e' => Region.binds md e' && decide (e'.on = j)).getD false)).getD false)

structure LastOk (md : Region.Mode) (ops : Array Oper) (n : Nat) : Prop where
  size : ops.size = n + 1
  back : ∀ (j : Nat) (o : Oper), ops[j]? = some o → ∀ e ∈ o.after, e.on < j
  sees : ∀ j, j < n → ∃ o : Oper, ops[n]? = some o ∧ ∃ e ∈ o.after, Region.binds md e = true ∧ (e.on = j ∨ ∃ o' : Oper, ops[e.on]? = some o' ∧ ∃ e' ∈ o'.after, Region.binds md e' = true ∧ e'.on = j)

theorem lastB_spec {n : Nat} (h : lastB md ops n = true) : LastOk md ops n := by
  unfold lastB at h
  simp only [Bool.and_eq_true, decide_eq_true_eq, List.all_eq_true, List.mem_range] at h
  obtain ⟨⟨h1, h2⟩, h3⟩ := h
  refine ⟨h1, fun j o ho e he => ?_, fun j hj => ?_⟩
  · have hj : j < n + 1 := by rw [← h1]; exact (Array.getElem?_eq_some_iff.1 ho).1
    have := h2 j hj
    rw [ho] at this
    simp only [Option.map_some, Option.getD_some, Array.all_eq_true_iff_forall_mem, decide_eq_true_eq] at this
    exact this e he
  · have := h3 j hj
    cases ho : ops[n]? with
    | none => rw [ho] at this; simp at this
    | some o =>
      rw [ho] at this
      simp only [Option.map_some, Option.getD_some, List.any_eq_true, Bool.and_eq_true, Bool.or_eq_true, decide_eq_true_eq] at this
      obtain ⟨e, he, hb, hs⟩ := this
      have he := Array.mem_toList_iff.1 he
      refine ⟨o, rfl, e, he, hb, ?_⟩
      rcases hs with hs | hs
      · exact .inl hs
      · right
        cases ho' : ops[e.on]? with
        | none => rw [ho'] at hs; simp at hs
        | some o' =>
          rw [ho'] at hs
          simp only [Option.map_some, Option.getD_some, List.any_eq_true, Bool.and_eq_true, decide_eq_true_eq] at hs
          obtain ⟨e', he', hb', hs'⟩ := hs
          have he' := Array.mem_toList_iff.1 he'
          exact ⟨o', rfl, e', he', hb', hs'⟩

/-- how far two lists of what has come up are alike -/
structure Twin (md : Region.Mode) (ops : Array Oper) (n : Nat) (l l' : Array Bool) : Prop where
  s1 : l.size = n + 1
  s2 : l'.size = n
  same : ∀ j, j < n → l'[j]? = l[j]?
  open_ : l[n]? = some false
  closed : ∀ (j : Nat), l[j]? = some true → ∀ (o : Oper), ops[j]? = some o → ∀ e ∈ o.after, Region.binds md e = true → l[e.on]? = some true

theorem getD_true_false {l : Array Bool} {j : Nat} : l.getD j true = false ↔ l[j]? = some false := by
  rw [Array.getD_eq_getD_getElem?]
  cases l[j]? with
  | none => simp
  | some b => simp
theorem getD_false_true {l : Array Bool} {j : Nat} : l.getD j false = true ↔ l[j]? = some true := by
  rw [Array.getD_eq_getD_getElem?]
  cases l[j]? with
  | none => simp
  | some b => simp

theorem twin_ready {n : Nat} {l l' : Array Bool} (ok : LastOk md ops n) (h : Twin md ops n l l') {j : Nat} (hj : j < n) : j ∈ Region.ready md ops l ↔ j ∈ Region.ready md ops.pop l' := by
  have hp : ops.pop[j]? = ops[j]? := by
    rw [Array.getElem?_pop, if_pos (by have := ok.size; omega)]
  rw [mem_ready, mem_ready, hp, getD_true_false, getD_true_false, h.same j hj]
  refine and_congr_right fun _ => exists_congr fun o => and_congr_right fun ho => ?_
  have : ∀ e ∈ o.after, (l.getD e.on false = true ↔ l'.getD e.on false = true) := by
    intro e he
    rw [getD_false_true, getD_false_true, h.same e.on (Nat.lt_trans (ok.back j o ho e he) hj)]
  exact ⟨fun q e he hb => (this e he).1 (q e he hb), fun q e he hb => (this e he).2 (q e he hb)⟩

/-- none can come up any more: all have -/
theorem twin_full {n : Nat} {l l' : Array Bool} (ok : LastOk md ops n) (h : Twin md ops n l l') (hr : Region.ready md ops.pop l' = []) : ∀ j, j < n → l[j]? = some true := by
  intro j
  induction j using Nat.strongRecOn with
  | ind j ih =>
    intro hj
    cases hb : l[j]? with
    | none => have := Array.getElem?_eq_none_iff.1 hb; rw [h.s1] at this; omega
    | some b =>
      cases b with
      | true => rfl
      | false =>
        exfalso
        have hin : j ∈ Region.ready md ops l := by
          rw [mem_ready, getD_true_false]
          have hlt : j < ops.size := by rw [ok.size]; omega
          refine ⟨hb, ops[j], Array.getElem?_eq_getElem hlt, fun e he _ => ?_⟩
          have := ok.back j _ (Array.getElem?_eq_getElem hlt) e he
          rw [getD_false_true]
          exact ih e.on this (by omega)
        rw [twin_ready ok h hj, hr] at hin
        cases hin

theorem twin_last {n : Nat} {l l' : Array Bool} (ok : LastOk md ops n) (h : Twin md ops n l l') (hin : n ∈ Region.ready md ops l) : ∀ j, j < n → l[j]? = some true := by
  intro j hj
  rw [mem_ready] at hin
  obtain ⟨_, o, ho, hall⟩ := hin
  obtain ⟨o1, ho1, e, he, hb, hs⟩ := ok.sees j hj
  rw [ho] at ho1; cases ho1
  have h1 := getD_false_true.1 (hall e he hb)
  rcases hs with hs | ⟨o', ho', e', he', hb', hs'⟩
  · rw [← hs]; exact h1
  · rw [← hs']; exact h.closed e.on h1 o' ho' e' he' hb'

theorem twin_set {n : Nat} {l l' : Array Bool} (ok : LastOk md ops n) (h : Twin md ops n l l') {i : Nat} (hi : i < n) (hr : i ∈ Region.ready md ops l) : Twin md ops n (l.setIfInBounds i true) (l'.setIfInBounds i true) := by
  refine ⟨by simpa using h.s1, by simpa using h.s2, fun j hj => ?_, ?_, fun j hj o ho e he hb => ?_⟩
  · rw [Array.getElem?_setIfInBounds, Array.getElem?_setIfInBounds, h.same j hj, h.s1, h.s2]
    by_cases e : i = j
    · simp [e, hj]; omega
    · simp [e]
  · rw [Array.getElem?_setIfInBounds_ne (by omega)]; exact h.open_
  · have hmono : ∀ k : Nat, l[k]? = some true → (l.setIfInBounds i true)[k]? = some true := by
      intro k hk
      rw [Array.getElem?_setIfInBounds]
      by_cases e : i = k
      · simp [e]
        have := (Array.getElem?_eq_some_iff.1 hk).1
        exact this
      · simp [e, hk]
    by_cases e1 : i = j
    · subst e1
      rw [mem_ready] at hr
      obtain ⟨_, o2, ho2, hall⟩ := hr
      rw [ho] at ho2; cases ho2
      exact hmono _ (getD_false_true.1 (hall e he hb))
    · rw [Array.getElem?_setIfInBounds_ne e1] at hj
      exact hmono _ (h.closed j hj o ho e he hb)

/-- what is left behind all but the last -/
def LastQ (P : Program) (ops : Array Oper) (n : Nat) (Q : Exit → Act → World → Prop) : Exit → Act → World → Prop
  | .normal, a, w => wpOp P ops Q n (Q .normal) a w
  | e, a, w => Q e a w

theorem wp_lastQ {o : Oper} {a : Act} {w : World} {n : Nat} {K K' : Act → World → Prop} (hK : ∀ a w, K a w → K' a w) (h : o.wp P a w K (LastQ P ops n Q)) : o.wp P a w K' Q := by
  unfold Oper.wp at *
  generalize (execOp a.eval o).run P w = r at *
  cases r with
  | ok nx w' =>
    cases nx <;> simp only [Oper.upon] at h ⊢ <;>
      first
        | exact hK _ _ h
        | exact Calls.mono h (fun e w'' he => by cases e <;> first | exact hK _ _ he | exact he)
        | exact Rows.mono h (fun _ _ he => hK _ _ he)
  | halt x w' => cases x <;> simp only [Oper.upon] at h ⊢ <;> exact h

theorem wpOp_lastQ {n i : Nat} (hg : ∀ (j : Nat) (o : Oper), ops[j]? = some o → o.guard = none) (hsz : ops.size = n + 1) (hi : i < n) {a : Act} {w : World} {K K' : Act → World → Prop} (hK : ∀ a w, K a w → K' a w)
    (h : wpOp P ops.pop (LastQ P ops n Q) i K a w) : wpOp P ops Q i K' a w := by
  have hp : ops.pop[i]? = ops[i]? := by
    rw [Array.getElem?_pop, if_pos (by omega)]
  unfold wpOp at *
  rw [hp] at h
  have hlt : i < ops.size := by omega
  rw [Array.getElem?_eq_getElem hlt] at h ⊢
  have hgo := hg i _ (Array.getElem?_eq_getElem hlt)
  simp only [Region.wanted, hgo, if_true] at h ⊢
  exact h.imp (wp_lastQ hK) id

theorem wpAny_last {n : Nat} (ok : LastOk md ops n) (hg : ∀ (j : Nat) (o : Oper), ops[j]? = some o → o.guard = none) :
    ∀ (fuel : Nat) (l l' : Array Bool) (a : Act) (w : World), Twin md ops n l l' → wpAny P md ops.pop (LastQ P ops n Q) fuel l' a w → wpAny P md ops Q (fuel + 1) l a w := by
  have fin : ∀ (l l' : Array Bool), Twin md ops n l l' → (∀ j, j < n → l[j]? = some true) → n ∈ Region.ready md ops l ∧ Region.ready md ops (l.setIfInBounds n true) = [] ∧ ∀ i ∈ Region.ready md ops l, i = n := by
    intro l l' h hall
    have hlt : n < ops.size := by have := ok.size; omega
    refine ⟨?_, ?_, ?_⟩
    · rw [mem_ready, getD_true_false]
      refine ⟨h.open_, ops[n], Array.getElem?_eq_getElem hlt, fun e he _ => ?_⟩
      rw [getD_false_true]
      exact hall _ (ok.back n _ (Array.getElem?_eq_getElem hlt) e he)
    · rw [List.eq_nil_iff_forall_not_mem]
      intro j hj
      rw [mem_ready, getD_true_false] at hj
      obtain ⟨h0, o, ho, _⟩ := hj
      have hjn : j < n + 1 := by rw [← ok.size]; exact (Array.getElem?_eq_some_iff.1 ho).1
      rw [Array.getElem?_setIfInBounds] at h0
      by_cases e : n = j
      · rw [if_pos e] at h0
        split at h0 <;> cases h0
      · rw [if_neg e, hall j (by omega)] at h0
        cases h0
    · intro j hj
      rw [mem_ready, getD_true_false] at hj
      obtain ⟨h0, o, ho, _⟩ := hj
      have hjn : j < n + 1 := by rw [← ok.size]; exact (Array.getElem?_eq_some_iff.1 ho).1
      rcases Nat.lt_or_ge j n with hlt' | hge
      · rw [hall j hlt'] at h0; cases h0
      · omega
  have close : ∀ (l l' : Array Bool) (a : Act) (w : World) (fuel : Nat), Twin md ops n l l' → (∀ j, j < n → l[j]? = some true) → wpOp P ops Q n (Q .normal) a w → wpAny P md ops Q (fuel + 1) l a w := by
    intro l l' a w fuel h hall hq
    obtain ⟨f1, f2, f3⟩ := fin l l' h hall
    refine ⟨fun e => absurd f1 (by rw [e]; simp), fun i hi => ?_⟩
    rw [f3 i hi]
    exact wpOp_mono (fun a w hq => wpAny_done f2 hq fuel) hq
  intro fuel
  induction fuel with
  | zero =>
    intro l l' a w h hw
    exact close l l' a w 0 h (twin_full ok h hw.1) hw.2
  | succ fuel ih =>
    intro l l' a w h hw
    by_cases hr : Region.ready md ops.pop l' = []
    · exact close l l' a w (fuel + 1) h (twin_full ok h hr) (hw.1 hr)
    · refine ⟨fun e => ?_, fun i hi => ?_⟩
      · exfalso
        obtain ⟨x, hx⟩ := List.exists_mem_of_ne_nil _ hr
        have hxn : x < n := by
          have := (mem_ready.1 hx)
          obtain ⟨_, o, ho, _⟩ := this
          have := (Array.getElem?_eq_some_iff.1 ho).1
          have := ok.size
          simp at *
          omega
        rw [← twin_ready ok h hxn, e] at hx
        cases hx
      · rcases Nat.lt_or_ge i n with hin | hin
        · exact wpOp_lastQ hg ok.size hin (fun a w hk => ih _ _ a w (twin_set ok h hin hi) hk) (hw.2 i ((twin_ready ok h hin).1 hi))
        · have hn : i = n := by
            obtain ⟨_, o, ho, _⟩ := mem_ready.1 hi
            have := (Array.getElem?_eq_some_iff.1 ho).1
            have := ok.size
            omega
          subst hn
          exfalso
          have hall := twin_last ok h hi
          apply hr
          rw [List.eq_nil_iff_forall_not_mem]
          intro j hj
          have hjn : j < i := by
            obtain ⟨_, o, ho, _⟩ := mem_ready.1 hj
            have := (Array.getElem?_eq_some_iff.1 ho).1
            have := ok.size
            simp at *
            omega
          have := (mem_ready.1 hj).1
          rw [getD_true_false, h.same j hjn, hall j hjn] at this
          cases this

def noGuardB (ops : Array Oper) : Bool := ops.toList.all fun o => o.guard.isNone

theorem wpOp_if {i : Nat} {o : Oper} {a : Act} {w : World} {K : Act → World → Prop} (ho : ops[i]? = some o) (h : if Region.wanted o (yielded ops a.tmps) = true then Oper.wp P o a w K Q else K (a.put o.dst undef) w) : wpOp P ops Q i K a w := by
  unfold wpOp
  rw [ho]
  simp only
  split
  · rename_i hw; rw [if_pos hw] at h; exact .inl h
  · rename_i hw; rw [if_neg hw] at h; exact h
theorem wpOp_plain {i : Nat} {o : Oper} {a : Act} {w : World} {K : Act → World → Prop} (ho : ops[i]? = some o) (hg : o.guard = none) (h : Oper.wp P o a w K Q) : wpOp P ops Q i K a w :=
  wpOp_if ho (by rw [if_pos (by simp [Region.wanted, hg])]; exact h)
theorem wpAnyH_one {S : World → Prop} {i fuel : Nat} {listed : Array Bool} {a : Act} {w : World} (hr : Region.ready md ops listed = [i]) (h : wpOp P ops Q i (fun a' w' => S w' ∧ wpAnyH P md ops Q S fuel (listed.setIfInBounds i true) a' w') a w) : wpAnyH P md ops Q S (fuel + 1) listed a w :=
  wpAnyH_all hr (by simp) (fun j hj => by simp at hj; subst hj; exact h)

/-- A REGION THAT DRAWS ITS ORDER, ITS LAST OPERATION LAST: all but the last, in whatever order; then the last -/
theorem wp_region_last {id : Nat} {a : Act} {w : World} (n : Nat) (hm : P.follows .mixedOrders = true) (hB : lastB .any ops n = true) (hG : noGuardB ops = true)
    (h : wpAny P .any ops.pop (LastQ P ops n Q) n (Array.replicate n false) a w.drew) : (Code.region id ops true).wp P Q a w := by
  have ok := lastB_spec hB
  refine wp_region_any hm ?_
  rw [ok.size]
  refine wpAny_last ok (fun j o ho => ?_) n _ (Array.replicate n false) a _ ⟨by simp, by simp, fun j hj => ?_, ?_, fun j hj => ?_⟩ h
  · have := List.all_eq_true.1 hG o (Array.mem_toList_iff.2 (Array.mem_of_getElem? ho))
    simpa using this
  · rw [Array.getElem?_replicate, Array.getElem?_replicate, if_pos hj, if_pos (by omega)]
  · rw [Array.getElem?_replicate, if_pos (by omega)]
  · rw [Array.getElem?_replicate] at hj
    split at hj <;> cases hj
end
end Go.Tk
