/- A text of a claim's proof: see the last text of the claim. -/
import Derived.Test.YtngickhakedonaaDp04
import Derived.Outline
import Derived.Laws.CopyRow
import Derived.Laws.EntriesVeiled
import Derived.Shelf.SlMaps.Clone
import Derived.StillTailTactics
set_option linter.all false
namespace Go.Proofs.Ytngickhakedonaa
open Go.RowKit Go.Tk Go.Dk

variable {w w' : World} {d : Nat} {L : PL} {s : DS} {B : Nat → Prop}

/-! ### the directory's map behind an act -/
theorem del_nmE (fb : Nat → Nat) (l : List Nm) (n : ByteArray) : del n (l.map (nmE fb)) = (wo l n).map (nmE fb) := by
  unfold del wo
  rw [List.filter_map]
  rfl
/-- a name is laid: where -/
def updN (n : ByteArray) (k : Nat) (l : List Nm) : List Nm := if l.any (fun p => decide (p.1 = n)) then l.map (fun p => if p.1 = n then (n, k) else p) else l ++ [(n, k)]
theorem upd_nmE (fb : Nat → Nat) (l : List Nm) (n : ByteArray) (k : Nat) : upd n (ptrV (fb k)) (l.map (nmE fb)) = (updN n k l).map (nmE fb) := by
  unfold upd updN
  have e : ((l.map (nmE fb)).any fun p => decide (p.1 = n)) = l.any fun p => decide (p.1 = n) := by rw [List.any_map]; rfl
  rw [e]
  split
  · rw [List.map_map, List.map_map]
    refine List.map_congr_left fun x _ => ?_
    show (if x.1 = n then _ else _) = nmE fb (if x.1 = n then _ else _)
    by_cases h : x.1 = n
    · rw [if_pos h, if_pos h]; rfl
    · rw [if_neg h, if_neg h]
  · rw [List.map_append]; rfl
theorem updN_perm {l : List Nm} (n : ByteArray) (k : Nat) (hn : (l.map (·.1)).Nodup) : (updN n k l).Perm ((n, k) :: wo l n) := by
  unfold updN
  by_cases h : l.any (fun p => decide (p.1 = n)) = true
  · rw [if_pos h]
    induction l with
    | nil => simp at h
    | cons x l ih =>
      simp only [List.map_cons, List.nodup_cons] at hn
      rw [List.map_cons]
      by_cases e : x.1 = n
      · have hno : ∀ y ∈ l, y.1 ≠ n := fun y hy q => hn.1 (by rw [e, ← q]; exact List.mem_map.2 ⟨y, hy, rfl⟩)
        have e1 : l.map (fun p => if p.1 = n then (n, k) else p) = l := by
          conv => rhs; rw [← List.map_id l]
          exact List.map_congr_left fun y hy => if_neg (hno y hy)
        have e2 : wo (x :: l) n = l := by
          unfold wo
          rw [List.filter_cons]
          simp only [e, decide_true, Bool.not_true, Bool.false_eq_true, if_false]
          exact List.filter_eq_self.2 (fun y hy => by simpa using hno y hy)
        rw [if_pos e, e1, e2]
      · rw [if_neg e]
        have h' : l.any (fun p => decide (p.1 = n)) = true := by simpa [e] using h
        have e2 : wo (x :: l) n = x :: wo l n := by unfold wo; rw [List.filter_cons]; simp [e]
        rw [e2]
        exact ((ih hn.2 h').cons x).trans (List.Perm.swap _ _ _)
  · rw [if_neg h]
    have hno : ∀ y ∈ l, y.1 ≠ n := by
      intro y hy e
      exact h (List.any_eq_true.2 ⟨y, hy, by simpa using e⟩)
    have e2 : wo l n = l := by unfold wo; exact List.filter_eq_self.2 (fun y hy => by simpa using hno y hy)
    rw [e2]
    exact List.perm_append_singleton _ _
theorem wo_perm {l l' : List Nm} (n : ByteArray) (h : l.Perm l') : (wo l n).Perm (wo l' n) := h.filter _
theorem wo_comm (l : List Nm) (a b : ByteArray) : wo (wo l a) b = wo (wo l b) a := by
  unfold wo
  rw [List.filter_filter, List.filter_filter]
  exact List.filter_congr fun x _ => Bool.and_comm _ _

theorem mk_perm {l l' : List Nm} (h : l.Perm l') (hn : (l.map (·.1)).Nodup) (n : ByteArray) (k : Nat) (hno : ofI l' n = none) : (updN n k l).Perm (wi l' n k) := by
  have e : wo l' n = l' := by
    unfold wo
    exact List.filter_eq_self.2 (fun y hy => by simpa using ofI_none.1 hno y hy)
  exact (updN_perm n k hn).trans ((((wo_perm n h).trans (by rw [e])).cons _).trans (wi_perm l' n k).symm)
theorem mv_perm {l l' : List Nm} (h : l.Perm l') (hn : (l.map (·.1)).Nodup) (a b : ByteArray) (k : Nat) (hab : a ≠ b) (hk : ofI l' a = some k) : (wo (updN b k l) a).Perm (doneD l' (.mv a b)) := by
  have h1 := wo_perm a (updN_perm b k hn)
  refine h1.trans ?_
  have e : wo ((b, k) :: wo l b) a = (b, k) :: wo (wo l b) a := by
    conv => lhs; unfold wo
    rw [List.filter_cons]
    simp [Ne.symm hab]
    unfold wo
    rw [List.filter_filter]
  rw [e]
  show List.Perm _ (wi (wo (wo l' a) b) b ((ofI l' a).getD 0))
  rw [hk]
  refine List.Perm.trans ?_ (wi_perm _ b _).symm
  refine List.Perm.cons _ ?_
  rw [wo_comm]
  exact wo_perm b (wo_perm a h)

/-! ### the closures: what is done to a directory -/
def doF : DAct → Nat | .mk _ _ => 52 | .mv _ _ => 61 | .rm _ => 62 | .put _ _ => 0

set_option maxRecDepth 100000 in
theorem clos_mk (b x y : Nat) (l : List (ByteArray × Value)) (n : ByteArray) (v : Nat) (w : World) (h : GMap strKy w b l) (h1 : w.cell? ⟨x, 0, none⟩ = some (ptrV v)) (h2 : w.cell? ⟨y, 0, none⟩ = some (.string n)) :
    Calls Try.prog 52 #[.map (some b), ptrV x, ptrV y] w fun e w' => e = .returned (.tuple #[]) ∧ GMap strKy w' b (upd n (ptrV v) l) ∧ Frm (· = b) w w' := by
  have H := Lib.hid h
  clear h
  unfold ptrV at *
  go_enter Try.func52, Try.ntmps52
  go_wp2_with (refine wpList_update_g H.out Try.underlying75 Try.underlying9 n (.pointer (some ⟨v, 0, none⟩)) rfl _ _ _ rfl rfl rfl rfl ?_; intro w1 hg hf)
  go_end0
  exact ⟨rfl, hg, hf⟩

set_option maxRecDepth 100000 in
theorem clos_mv (b x y : Nat) (l : List (ByteArray × Value)) (n m : ByteArray) (v : Nat) (w : World) (h : GMap strKy w b l) (h1 : w.cell? ⟨x, 0, none⟩ = some (.string n)) (h2 : w.cell? ⟨y, 0, none⟩ = some (.string m)) (hv : assoc n l = some (ptrV v)) (hx : x ≠ b) :
    Calls Try.prog 61 #[.map (some b), ptrV x, ptrV y] w fun e w' => e = .returned (.tuple #[]) ∧ GMap strKy w' b (del n (upd m (ptrV v) l)) ∧ Frm (· = b) w w' := by
  have hlk := h.run_lookup (P := Try.prog) Try.underlying75 Try.underlying9 (zero98 w) n
  rw [hv, show strKy.f n = Value.string n from rfl] at hlk
  have H := Lib.hid h
  have hxl : x < w.heap.size := World.block_lt_of_cell? _ _ h1
  clear h hv
  unfold ptrV at *
  simp only [Option.getD_some] at hlk
  go_enter Try.func61, Try.ntmps61
  go_wp2_with (first | (refine wpList_update_g H.out Try.underlying75 Try.underlying9 m (.pointer (some ⟨v, 0, none⟩)) rfl _ _ _ rfl rfl rfl rfl ?_; intro w1 hg hf; have h1' := (hf.cell (p := ⟨x, 0, none⟩) hxl hx).trans h1; have Hg := Lib.hid (And.intro hg hf); clear hg hf hlk h1 h2) | (refine wpList_delete_g Hg.out.1 Try.underlying75 Try.underlying9 n 9 rfl _ _ rfl rfl rfl ?_; intro w2 hg2 hf2))
  go_end0
  exact ⟨rfl, hg2, Hg.out.2.trans hf2⟩

set_option maxRecDepth 100000 in
theorem clos_rm (b x : Nat) (l : List (ByteArray × Value)) (n : ByteArray) (w : World) (h : GMap strKy w b l) (h1 : w.cell? ⟨x, 0, none⟩ = some (.string n)) :
    Calls Try.prog 62 #[.map (some b), ptrV x] w fun e w' => e = .returned (.tuple #[]) ∧ GMap strKy w' b (del n l) ∧ Frm (· = b) w w' := by
  have H := Lib.hid h
  clear h
  unfold ptrV at *
  go_enter Try.func62, Try.ntmps62
  go_wp2_with (refine wpList_delete_g H.out Try.underlying75 Try.underlying9 n 9 rfl _ _ rfl rfl rfl ?_; intro w2 hg2 hf2)
  go_end0
  exact ⟨rfl, hg2, hf2⟩

/-- what an act does to a directory's map -/
def actM (fb : Nat → Nat) (a : DAct) (l : List Nm) : List Nm :=
  match a with
  | .mk n k => updN n k l
  | .mv a b => wo (updN b ((ofI l a).getD 0) l) a
  | .rm n => wo l n
  | .put _ _ => l
theorem actM_perm (fb : Nat → Nat) {l l' : List Nm} (h : l.Perm l') (hn : (l.map (·.1)).Nodup) {a : DAct} (hok : OkAct l' a) : (actM fb a l).Perm (doneD l' a) := by
  cases a with
  | mk n k => exact mk_perm h hn n k (ofI_none.2 hok.1)
  | mv a b =>
    obtain ⟨k, hk⟩ := Option.isSome_iff_exists.1 hok.1
    have e : ofI l a = some k := (ofI_perm a h hn).trans hk
    show (wo (updN b ((ofI l a).getD 0) l) a).Perm _
    rw [e]
    exact mv_perm h hn a b k hok.2 hk
  | rm n => exact wo_perm n h
  | put k n => exact h

/-- a closure of the disk's, called -/
theorem clos_any {fb : Nat → Nat} {role : Nat → Role} {p : DAct × Nat × Nat} (hp : capOk w fb role p) {b : Nat} {l : List Nm} (h : GMap strKy w b (l.map (nmE fb))) (hk : ∀ x, role x = .konst → x ≠ b) (hmv : ∀ x y, p.1 = .mv x y → (ofI l x).isSome = true) (hput : isPut p.1 = false) :
    ∃ caps, (paV fb p).2.2 = clos (doF p.1) caps ∧ Calls Try.prog (doF p.1) (#[.map (some b)] ++ caps) w fun e w' => e = .returned (.tuple #[]) ∧ GMap strKy w' b ((actM fb p.1 l).map (nmE fb)) ∧ Frm (· = b) w w' := by
  obtain ⟨a, x, y⟩ := p
  cases a with
  | mk n k =>
    refine ⟨#[ptrV x, ptrV y], rfl, ?_⟩
    refine (clos_mk b x y _ n (fb k) w h hp.1 hp.2.1).mono ?_
    rintro e w1 ⟨rfl, hg, hf⟩
    rw [upd_nmE] at hg
    exact ⟨rfl, hg, hf⟩
  | mv n m =>
    obtain ⟨k, hk1⟩ := Option.isSome_iff_exists.1 (hmv n m rfl)
    refine ⟨#[ptrV x, ptrV y], rfl, ?_⟩
    refine (clos_mv b x y _ n m (fb k) w h hp.1 hp.2.1 (by rw [assoc_nmE, hk1]; rfl) (hk x hp.2.2.1)).mono ?_
    rintro e w1 ⟨rfl, hg, hf⟩
    rw [upd_nmE, del_nmE] at hg
    refine ⟨rfl, ?_, hf⟩
    show GMap strKy w1 b ((wo (updN m ((ofI l n).getD 0) l) n).map (nmE fb))
    rw [hk1]; exact hg
  | rm n =>
    refine ⟨#[ptrV x], rfl, ?_⟩
    refine (clos_rm b x _ n w h hp.1).mono ?_
    rintro e w1 ⟨rfl, hg, hf⟩
    rw [del_nmE] at hg
    exact ⟨rfl, hg, hf⟩
  | put k n => simp [isPut] at hput
end Go.Proofs.Ytngickhakedonaa

namespace Go.Proofs.Ytngickhakedonaa
open Go.RowKit Go.Tk Go.Dk

variable {w w' w1 w2 : World} {d : Nat} {L L1 L2 : PL} {s : DS} {B : Nat → Prop}

/-- a step of the disk's: what may have turned, what may have come -/
structure PStep (w w' : World) (L L' : PL) : Prop where
  frm : Frm (fun b => L.role b ≠ .free) w w'
  new : ∀ b, L'.role b ≠ .free → L.role b ≠ .free ∨ (w.heap.size ≤ b ∧ b < w'.heap.size)
theorem PStep.refl (w : World) (L : PL) : PStep w w L L := ⟨Frm.refl _ _, fun _ h => .inl h⟩
theorem PStep.of_frm {S : Nat → Prop} (h : Frm S w w') (hs : ∀ b, S b → L.role b ≠ .free) (hr : L1.role = L.role) : PStep w w' L L1 := ⟨h.mono (fun b _ hb => hs b hb), fun b hb => .inl (by rw [← hr]; exact hb)⟩
theorem PStep.trans (h : PStep w w1 L L1) (k : PStep w1 w2 L1 L2) : PStep w w2 L L2 := by
  refine ⟨h.frm.trans' k.frm fun b hb hn => ?_, fun b hb => ?_⟩
  · rcases h.new b hn with h1 | h1
    · exact h1
    · omega
  · have s1 := h.frm.size
    have s2 := k.frm.size
    rcases k.new b hb with h1 | h1
    · rcases h.new b h1 with h2 | h2
      · exact .inl h2
      · exact .inr ⟨h2.1, by omega⟩
    · exact .inr ⟨by omega, h1.2⟩
theorem PStep.keep (h : PStep w w1 L L1) (hf : Frm (fun _ => False) w1 w2) : PStep w w2 L L1 := h.trans (PStep.of_frm hf (fun _ h => h.elim) rfl)

theorem done_live {live : Nat → Prop} {l : List Nm} {a : DAct} (h : ∀ x ∈ l, live x.2) (ha : actLive live a) (hok : OkAct l a) : ∀ x ∈ doneD l a, live x.2 := by
  cases a with
  | mk m k =>
    intro x hx
    rcases List.mem_cons.1 ((wi_perm _ _ _).mem_iff.1 hx) with rfl | hx
    · exact ha
    · exact h x hx
  | mv a b =>
    intro x hx
    obtain ⟨k, hk⟩ := Option.isSome_iff_exists.1 hok.1
    rcases List.mem_cons.1 ((wi_perm _ _ _).mem_iff.1 hx) with rfl | hx
    · show live ((ofI l a).getD 0)
      rw [hk]; exact h (a, k) (mem_of_ofI hk)
    · exact h x ((wo_sub _ _).subset ((wo_sub _ _).subset hx))
  | rm n => intro x hx; exact h x ((wo_sub _ _).subset hx)
  | put k n => exact h

theorem info104 : (Try.prog.info? 104).map (fun i => (i.zero, i.size, i.bytes)) = some (some (.agg #[.pointer none, .int .i64 0, .nilFunc]), 3, 24) := by kernel_rfl

/-- the loose acts behind an append, laid into the head -/
theorem PD.loose_app (h : PD w d L s) {wa : World} {o : Obj} {v : Value} {p : DAct × Nat × Nat} (ho : wa.ownsRow 0 104 3 v (L.pa.length + 1) (L.pa.flatMap (paC L.fb) ++ paC L.fb p)) (hg : (w.alloc o).grownBy wa L.vl.ownBlock) (hat : v.ownBlock = L.vl.ownBlock ∨ v.ownBlock = some (w.alloc o).heap.size)
    (hcap : capOk w L.fb L.role p) (hla : actLive L.live p.1) :
    wa.cell? ⟨d, 2, none⟩ = some L.vl ∧ (∀ o, wa.frozen? ⟨d, o, none⟩ = false) ∧ ∃ L', L'.live = L.live ∧ L'.fb = L.fb ∧ L'.vb = L.vb ∧ L'.dl = L.dl ∧ L'.bd = L.bd ∧ PD (wa.setCell ⟨d, 2, none⟩ v) d L' { s with acts := s.acts ++ [p.1] } ∧ PStep w (wa.setCell ⟨d, 2, none⟩ v) L L' ∧ Frm (fun b => b = d ∨ L.vl.ownBlock = some b) w (wa.setCell ⟨d, 2, none⟩ v) := by
  have hdlt := h.rb d (by rw [h.r0]; simp)
  have hF : Frm (fun b => L.vl.ownBlock = some b) w wa := ((Frm.refl _ w).alloc _).trans' (Frm.of_grown (S := fun b => L.vl.ownBlock = some b) hg (fun k hk _ => hk)) (fun _ _ h => h)
  have hnd : ¬ L.vl.ownBlock = some d := fun e => by have := h.rl d e; rw [h.r0] at this; cases this
  have cc : ∀ o, wa.cell? ⟨d, o, none⟩ = w.cell? ⟨d, o, none⟩ := fun o => hF.cell (p := ⟨d, o, none⟩) hdlt hnd
  have fz : Fz wa d := h.fz.frm hF hnd
  have hvd : v.ownBlock ≠ some d := by
    intro e
    rcases hat with h1 | h1
    · exact hnd (h1.symm.trans e)
    · rw [e] at h1; cases h1; simp at hdlt; omega
  have hset : Frm (· = d) wa (wa.setCell ⟨d, 2, none⟩ v) := PD.setFrm wa d 2 v
  have hFF : Frm (fun b => b = d ∨ L.vl.ownBlock = some b) w (wa.setCell ⟨d, 2, none⟩ v) := (hF.mono (fun b _ hb => .inr hb)).trans (hset.mono (fun b _ hb => .inl hb))
  obtain ⟨L', e1, e2, e3, e4, e5, hpd, hnew⟩ := h.loose_step hFF (fun o ho => (Tk.set_off _ _ _ _ _ _ (Ne.symm ho)).trans (cc o)) (fz.set _ _) (v := v) (pa := L.pa ++ [p]) (set_same _ _ _ _ _ ((cc 2).trans h.c2))
    (by rw [List.length_append, List.flatMap_append]; simpa using row_frm ho hset (fun b hb e => hvd (e ▸ hb)))
    (fun b hb => by
      rcases hat with h1 | h1
      · exact .inl (h1.symm.trans hb)
      · rw [hb] at h1; cases h1; right; simp)
    (fun q hq => by
      rcases List.mem_append.1 hq with hq | hq
      · exact h.caps q hq
      · simp at hq; rw [hq]; exact hcap)
    (fun q hq => by
      rcases List.mem_append.1 hq with hq | hq
      · exact h.la _ (by rw [← h.ap]; exact List.mem_map.2 ⟨q, hq, rfl⟩)
      · simp at hq; rw [hq]; exact hla)
  refine ⟨(cc 2).trans h.c2, fz.frozen, L', e2, e3, e4, e1, e5, ?_, ⟨hFF.mono (fun b _ hb => ?_), hnew⟩, hFF⟩
  · rw [List.map_append, h.ap] at hpd; exact hpd
  · rcases hb with rfl | hb
    · rw [h.r0]; simp
    · rw [h.rl b hb]; simp

theorem run_clos (a : DAct) (h : isPut a = false) (args : Array Value) (w : World) : (callFunc (doF a) args).run Try.prog w = .ok (Next.enter (doF a) args) w := by
  cases a with
  | put k n => simp [isPut] at h
  | mk n k => show (callFunc 52 args).run Try.prog w = _; kernel_rfl
  | mv n k => show (callFunc 61 args).run Try.prog w = _; kernel_rfl
  | rm n => show (callFunc 62 args).run Try.prog w = _; kernel_rfl

set_option maxRecDepth 100000 in
set_option maxHeartbeats 1000000 in
theorem turn_any (p : DAct × Nat × Nat) (w : World) (h : PD w d L s) (hi : Inv s) (hp : capOk w L.fb L.role p) (hok : OkAct s.dir p.1) (hlive : actLive L.live p.1) (hput : isPut p.1 = false) (hl : s.acts.length ≤ 100000) :
    Calls Try.prog 51 #[.pointer (some ⟨d, 0, none⟩), (paV L.fb p).2.2] w fun e w' => e = .returned (.tuple #[]) ∧ ∃ L', L'.live = L.live ∧ L'.fb = L.fb ∧ L'.vb = L.vb ∧ PD w' d L' { s with acts := s.acts ++ [p.1], dir := doneD s.dir p.1 } ∧ PStep w w' L L' ∧ Frm (fun b => b = d ∨ b = L.bd ∨ L.vl.ownBlock = some b) w w' := by
  obtain ⟨i0, hi0, hz0, hz1, hz2⟩ := info_parts info104
  have c0 := h.c0
  have fz := h.fz.frozen
  have hnod : (L.dl.map (·.1)).Nodup := (h.dp.map _).nodup_iff.2 hi.dok.srt.names
  obtain ⟨caps, hcl, hcall⟩ := clos_any hp h.dirm (fun x hx e => by rw [e, h.rd] at hx; cases hx) (fun x y e => by rw [e] at hok; rw [ofI_perm x h.dp hnod]; exact hok.1) hput
  have hv1 : (paV L.fb p).1 = .pointer none ∧ (paV L.fb p).2.1 = .int .i64 0 := by
    obtain ⟨a, x, y⟩ := p
    cases a <;> first | exact ⟨rfl, rfl⟩ | (simp [isPut] at hput)
  have hpc : paC L.fb p = [.pointer none, .int .i64 0, clos (doF p.1) caps] := by unfold paC; rw [hcl, hv1.1, hv1.2]
  have Hc := Lib.hid hcall
  have Hpc := Lib.hid hpc
  have Hok := Lib.hid (And.intro hok (And.intro hlive (And.intro hp hnod)))
  have hal : L.pa.length ≤ 100000 := by have := congrArg List.length h.ap; rw [List.length_map] at this; omega
  have H := Lib.hid h
  have hcf := run_clos p.1 hput
  rw [hcl]
  unfold clos at *
  clear h hi hp hok hlive hcl hcall hpc hv1 hnod
  generalize hF : doF p.1 = f at *
  clear hF
  go_enter Try.func51, Try.ntmps51
  go_wp2_with fail
  refine Hc.out.mono ?_
  rintro e w1 ⟨rfl, hg1, hf1⟩
  have h1 := H.out.dir_step hf1 hg1 (actM_perm L.fb H.out.dp Hok.out.2.2.2 Hok.out.1) (done_live H.out.ld Hok.out.2.1 Hok.out.1)
  have s1 : PStep w w1 L { L with dl := actM L.fb p.1 L.dl } := PStep.of_frm hf1 (fun b hb => by rw [hb, H.out.rd]; simp) rfl
  have cap1 : capOk w1 L.fb L.role p := Hok.out.2.2.1.frm hf1 (fun b hb e => by rw [e, H.out.rd] at hb; cases hb)
  have c2 := h1.c2
  have fz1 := h1.fz.frozen
  obtain ⟨ao, cap, hvl, _⟩ := row_slice h1.loose
  have hvl' : L.vl = .slice ao L.pa.length cap := hvl
  have H1 := Lib.hid (And.intro h1 (And.intro s1 (And.intro cap1 hf1)))
  have Q := app_facts w1 [.pointer none, .int .i64 0, .func (.func f) #[] caps] 104 L.pa.length 24 0 (by simp [Value.oneCell']) (by omega) (by decide) (Nat.zero_le _)
  have hown : w1.ownsRow 0 104 3 L.vl L.pa.length (L.pa.flatMap (paC L.fb)) := h1.loose
  rw [hvl'] at hown
  have Ho := Lib.hid hown
  have Hvl := Lib.hid hvl'
  rw [show ({ L with dl := actM L.fb p.1 L.dl } : PL).vl = .slice ao L.pa.length cap from hvl'] at c2
  clear c0 fz h1 s1 cap1 hf1 hg1 hvl hvl' hown hcf
  go_wp2_with (first | (at_builtin; refine wpList_append_own_at _ rfl _ _ 77 rfl 0 104 i0 _ 3 24 Try.underlying77 hi0 hz0 hz1 hz2 rfl (by decide) _ _ _ rfl (Ho.out.alloc _) ⟨w1.heap.size, 0, none⟩ 1 1 [.pointer none, .int .i64 0, .func (.func f) #[] caps] rfl rfl Q.out.1 Q.out.2.1 Q.out.2.2.1 Q.out.2.2.2.1 Q.out.2.2.2.2 ?_; intro v' wa hown hgrow _ hat; have St := H1.out.1.loose_app (p := p) (v := v') (wa := wa) (by rw [Hpc.out]; exact hown) (by rw [show ({ L with dl := actM L.fb p.1 L.dl } : PL).vl = _ from Hvl.out]; exact hgrow) (by rw [show ({ L with dl := actM L.fb p.1 L.dl } : PL).vl = _ from Hvl.out]; exact hat) H1.out.2.2.1 Hok.out.2.1; obtain ⟨ao2, cap2, hv2, _⟩ := row_slice hown; clear hown hat hgrow c2 fz1; obtain ⟨c2a, fza, St1⟩ := St; subst hv2; have St2 := Lib.hid St1; clear St1))
  go_end0
  obtain ⟨L', e1, e2, e3, e4, e5, hpd, hst, hff⟩ := St2.out
  refine ⟨rfl, L', e1, e2, e3, hpd, H1.out.2.1.trans hst, (H1.out.2.2.2.mono (fun b _ hb => .inr (.inl hb))).trans (hff.mono (fun b _ hb => ?_))⟩
  rcases hb with hb | hb
  · exact .inl hb
  · exact .inr (.inr hb)
end Go.Proofs.Ytngickhakedonaa

namespace Go.Proofs.Ytngickhakedonaa
open Go.RowKit Go.Tk Go.Dk

/-! ### slices.DeleteFunc at acts -/
abbrev PA := DAct × Nat × Nat
def paA (fb : Nat → Nat) (p : PA) : Value := .agg #[(paV fb p).1, (paV fb p).2.1, (paV fb p).2.2]
/-- a closure that tells of acts: what it answers -/
def Tells (fb : Nat → Nat) (f : Nat) (caps : Array Value) (q : PA → Bool) (l : List PA) (S : Nat → Prop) (w : World) : Prop :=
  ∀ x ∈ l, ∀ w1, Frm S w w1 → Calls Try.prog f (#[paA fb x] ++ caps) w1 fun e w2 => e = .returned (.bool (q x)) ∧ Frm (fun _ => False) w1 w2
def ixZ (q : PA → Bool) (l : List PA) : Int := match l.findIdx? q with | some i => i | none => -1

set_option maxRecDepth 100000 in
set_option maxHeartbeats 1000000 in
theorem dix_any (fb : Nat → Nat) (f : Nat) (caps : Array Value) (hcf : ∀ args w, (callFunc f args).run Try.prog w = .ok (Next.enter f args) w) (q : PA → Bool) (l : List PA) (v : Value) (S : Nat → Prop) (w : World) (h : w.ownsRow 0 104 3 v l.length (l.flatMap (paC fb))) (hl : l.length ≤ 1000000) (hq : Tells fb f caps q l S w) :
    Calls Try.prog 72 #[v, .func (.func f) #[] caps] w fun e w' => e = .returned (.int .i64 (ixZ q l)) ∧ Frm (fun _ => False) w w' := by
  have hR := rw_of_owns (paC_len fb) h rfl
  obtain ⟨ao, cap, rfl, hle, _, _, hc⟩ := hR
  have Hq := Lib.hid hq
  clear h hq
  go_enter Try.func72, Try.ntmps72
  go_wp2_with fail
  go_loopw [5, 8] (fun _ i wr => ∃ k : Nat, k ≤ l.length ∧ i = .int .i64 k ∧ (∀ x ∈ l.take k, q x = false) ∧ Frm (fun _ => False) w wr) (fun _ i _ => l.length - (intOf i).toNat)
  case atStart => exact ⟨0, Nat.zero_le _, rfl, by simp, Frm.refl _ _⟩
  case round =>
    obtain ⟨k, hk, rfl, htk, hf⟩ := hrel
    have Htk := Lib.hid htk
    clear htk
    by_cases hlt : k < l.length
    · obtain ⟨b, rfl, c1⟩ := hc k hlt
      have r0 := (hf.cell (p := ⟨b, k * 3, none⟩) (World.block_lt_of_cell? _ _ (c1 0 _ rfl)) (fun h => h)).trans (c1 0 _ rfl)
      have r1 := (hf.cell (p := ⟨b, k * 3 + 1, none⟩) (World.block_lt_of_cell? _ _ (c1 1 _ rfl)) (fun h => h)).trans (c1 1 _ rfl)
      have r2 := (hf.cell (p := ⟨b, k * 3 + 2, none⟩) (World.block_lt_of_cell? _ _ (c1 2 _ rfl)) (fun h => h)).trans (c1 2 _ rfl)
      have Hc := Lib.hid hc
      clear hc c1
      have i1 : (0 : Int) ≤ k := by omega
      have i2 : (k : Int) < l.length := by omega
      have HF := Lib.hid (hf.mono (T := S) (fun _ _ h => h.elim))
      have hcall := Hq.out l[k] (List.getElem_mem hlt) wr HF.out
      unfold paA at hcall
      have Hcall := Lib.hid hcall
      clear hcall
      obtain ⟨x, hx⟩ : ∃ x, x = l[k] := ⟨_, rfl⟩
      rw [← hx] at r0 r1 r2 Hcall
      have Hx := Lib.hid hx
      clear hx
      generalize hV : paV fb x = V at *
      obtain ⟨V0, V1, V2⟩ := V
      clear hV
      go_wp2_with fail
      refine Hcall.out.mono ?_
      rintro e w1 ⟨rfl, hf1⟩
      cases hqx : q x with
      | true =>
        have he : ixZ q l = k := by
          have : l.findIdx? q = some k := by
            rw [List.findIdx?_eq_some_iff_getElem]
            refine ⟨hlt, by rw [← Hx.out]; exact hqx, fun j hj => ?_⟩
            have := Htk.out l[j] (by
              have e : (l.take k)[j]'(by rw [List.length_take]; omega) = l[j] := List.getElem_take
              rw [← e]; exact List.getElem_mem _)
            rw [this]; simp
          unfold ixZ; rw [this]
        have He := Lib.hid he
        clear he hqx
        go_wp2_with fail
        go_ret
        exact ⟨by rw [He.out]; rfl, hf.trans hf1⟩
      | false =>
        have Hqx := Lib.hid hqx
        clear hqx
        go_wp2_with fail
        refine ⟨⟨k + 1, by omega, by go_num, ?_, hf.trans hf1⟩, by simp [intOf]; omega⟩
        intro y hy
        rw [List.take_succ_eq_append_getElem hlt] at hy
        rcases List.mem_append.1 hy with hy | hy
        · exact Htk.out y hy
        · simp at hy; rw [hy, ← Hx.out]; exact Hqx.out
    · have hlt' : decide ((k : Int) < l.length) = false := by simp; omega
      have he : ixZ q l = -1 := by
        have : l.findIdx? q = none := by
          rw [List.findIdx?_eq_none_iff]
          intro x hx
          have e : l.take k = l := List.take_of_length_le (by omega)
          have := Htk.out x (by rw [e]; exact hx)
          rw [this]
        unfold ixZ; rw [this]
      have He := Lib.hid he
      clear he
      go_wp2_with fail
      go_ret
      exact ⟨by rw [He.out]; rfl, hf⟩
end Go.Proofs.Ytngickhakedonaa

namespace Go.Proofs.Ytngickhakedonaa
open Go.RowKit Go.Tk Go.Dk

def nq (q : PA → Bool) (x : PA) : Bool := !q x

theorem row_slice_at {w : World} {e : TypeId} {size : Nat} {v : Value} {n : Nat} {xs : List Value} (h : w.ownsRow 0 e size v n xs) (hn : 0 < n) : ∃ g cap, v = .slice (some ⟨g, 0, none⟩) n cap ∧ n ≤ cap := by
  obtain ⟨ao, cap, rfl, hle, hg⟩ := row_slice h
  obtain ⟨g, rfl⟩ := hg hn
  exact ⟨g, cap, rfl, hle⟩

theorem paV_one (fb : Nat → Nat) (p : PA) : (paV fb p).1.oneCell' = true ∧ (paV fb p).2.1.oneCell' = true ∧ (paV fb p).2.2.oneCell' = true := by
  obtain ⟨a, x, y⟩ := p
  cases a <;> exact ⟨rfl, rfl, rfl⟩
structure DelInv (fb : Nat → Nat) (q : PA → Bool) (l : List PA) (w : World) (g cap : Nat) (wr : World) (i j : Nat) (ys : List PA) : Prop where
  ij : i < j
  jn : j ≤ l.length
  len : ys.length = l.length
  kept : ys.take i = (l.take j).filter (nq q)
  il : ((l.take j).filter (nq q)).length = i
  rest : ys.drop j = l.drop j
  row : wr.ownsRow 0 104 3 (.slice (some ⟨g, 0, none⟩) l.length cap) l.length (ys.flatMap (paC fb))
  frm : Frm (· = g) w wr

theorem flat_set3 {α : Type} {C : α → List Value} (hC : ∀ x, (C x).length = 3) {x : α} {a b c : Value} (hx : C x = [a, b, c]) : ∀ (l : List α) (i : Nat), i < l.length →
    (((l.flatMap C).set (i * 3) a).set (i * 3 + 1) b).set (i * 3 + 2) c = (l.set i x).flatMap C
  | [], i, h => by simp at h
  | y :: l, 0, _ => by
    have h3 := hC y
    match hy : C y, h3 with
    | [p, q, r], _ => simp [hy, hx]
  | y :: l, i + 1, h => by
    have h3 := hC y
    have ih := flat_set3 hC hx l i (by simpa using h)
    match hy : C y, h3 with
    | [p, q, r], _ =>
      rw [List.set_cons_succ, List.flatMap_cons, List.flatMap_cons, ← ih, hy, show (i + 1) * 3 = i * 3 + 3 by omega]
      rfl

theorem flat_take {α : Type} {C : α → List Value} {k : Nat} (hC : ∀ x, (C x).length = k) : ∀ (l : List α) (i : Nat), (l.flatMap C).take (i * k) = (l.take i).flatMap C
  | [], i => by simp
  | y :: l, 0 => by simp
  | y :: l, i + 1 => by
    rw [List.flatMap_cons, List.take_succ_cons, List.flatMap_cons, List.take_append, hC, List.take_of_length_le (by rw [hC, Nat.add_mul]; omega), show (i + 1) * k - k = i * k by rw [Nat.add_mul]; omega, flat_take hC l i]

section
variable {fb : Nat → Nat} {q : PA → Bool} {l : List PA} {w wr wr' : World} {g cap a b : Nat} {ys : List PA}
theorem DelInv.skip (h : DelInv fb q l w g cap wr a b ys) (hb : b < l.length) (hq : q l[b] = true) : DelInv fb q l w g cap wr a (b + 1) ys := by
  have e : (l.take (b + 1)).filter (nq q) = (l.take b).filter (nq q) := by
    rw [List.take_succ_eq_append_getElem hb, List.filter_append, List.filter_cons]
    unfold nq
    simp [hq]
  exact ⟨by have := h.ij; omega, hb, h.len, by rw [e]; exact h.kept, by rw [e]; exact h.il, by rw [← List.drop_drop, ← List.drop_drop, h.rest], h.row, h.frm⟩
theorem DelInv.put (h : DelInv fb q l w g cap wr a b ys) (hb : b < l.length) (hq : q l[b] = false) (hr : wr'.ownsRow 0 104 3 (.slice (some ⟨g, 0, none⟩) l.length cap) l.length ((ys.set a l[b]).flatMap (paC fb))) (hf : Frm (· = g) w wr') : DelInv fb q l w g cap wr' (a + 1) (b + 1) (ys.set a l[b]) := by
  have e : (l.take (b + 1)).filter (nq q) = (l.take b).filter (nq q) ++ [l[b]] := by
    rw [List.take_succ_eq_append_getElem hb, List.filter_append, List.filter_cons]
    unfold nq
    simp [hq]
  have hab := h.ij
  have hay : a < ys.length := by rw [h.len]; omega
  refine ⟨by omega, hb, by rw [List.length_set]; exact h.len, ?_, by rw [e, List.length_append, h.il]; rfl, ?_, hr, hf⟩
  · rw [e, ← h.kept, List.take_succ_eq_append_getElem (by rw [List.length_set]; exact hay), List.take_set_of_le (by omega)]
    simp
  · rw [List.drop_set_of_lt (by omega), ← List.drop_drop, ← List.drop_drop, h.rest]
theorem DelInv.stored (h : DelInv fb q l w g cap wr a b ys) (hb : b < l.length) (hq : q l[b] = false) {V0 V1 V2 : Value} (hV : paV fb l[b] = (V0, V1, V2)) :
    DelInv fb q l w g cap (((wr.setCell ⟨g, a * 3, none⟩ V0).setCell ⟨g, a * 3 + 1, none⟩ V1).setCell ⟨g, a * 3 + 2, none⟩ V2) (a + 1) (b + 1) (ys.set a l[b]) := by
  have hab := h.ij
  have hay : a < ys.length := by rw [h.len]; omega
  refine h.put hb hq ?_ (((h.frm.setCell (p := ⟨g, a * 3, none⟩) (fun _ => rfl) _).setCell (p := ⟨g, a * 3 + 1, none⟩) (fun _ => rfl) _).setCell (p := ⟨g, a * 3 + 2, none⟩) (fun _ => rfl) _)
  rw [← flat_set3 (paC_len fb) (x := l[b]) (a := V0) (b := V1) (c := V2) (by unfold paC; rw [hV]) ys a hay]
  exact row_set (row_set (row_set h.row _ _) _ _) _ _
end

theorem zero104 (w : World) : (zeroValue 104).run Try.prog w = .ok (.agg #[.pointer none, .int .i64 0, .nilFunc]) w := by kernel_rfl
theorem zeros_one (n : Nat) : ∀ v ∈ (Builtin.zeroCells (Value.agg #[.pointer none, .int .i64 0, .nilFunc]).cells n).toList, v.oneCell' = true := by
  intro v hv
  unfold Builtin.zeroCells at hv
  simp only [Array.toList_map, List.mem_map] at hv
  obtain ⟨i, _, rfl⟩ := hv
  have h3 : i % 3 = 0 ∨ i % 3 = 1 ∨ i % 3 = 2 := by omega
  show (#[Value.pointer none, .int .i64 0, .nilFunc][i % 3]!).oneCell' = true
  rcases h3 with h | h | h <;> rw [h] <;> rfl
theorem zeros_len (n : Nat) : (Builtin.zeroCells (Value.agg #[.pointer none, .int .i64 0, .nilFunc]).cells n).toList.length = n * 3 := by
  unfold Builtin.zeroCells
  simp
  rfl

/-- the rest is cleared -/
theorem clear_row {w : World} {g cap n a : Nat} {xs : List Value} (h : w.ownsRow 0 104 3 (.slice (some ⟨g, 0, none⟩) n cap) n xs) (ha : a < n) (ty : TypeId) :
    ∃ w', (Builtin.clear_ #[77] ty #[.slice (some ⟨g, a * 3, none⟩) (n - a) (cap - a)]).run Try.prog w = .ok (.tuple #[]) w' ∧ w'.ownsRow 0 104 3 (.slice (some ⟨g, 0, none⟩) a cap) a (xs.take (a * 3)) ∧ Frm (· = g) w w' := by
  rcases h.2 with ⟨h1, _⟩ | ⟨g', cap', cur, h1, _, hg, h2, h3, h4, h5⟩
  · cases h1
  · cases h1
    have hsz : a * 3 + 0 + (Builtin.zeroCells (Value.agg #[.pointer none, .int .i64 0, .nilFunc]).cells (n - a)).toList.length ≤ cur.size := by
      rw [zeros_len, h4]
      have : (a + (n - a)) * 3 ≤ cap * 3 := Nat.mul_le_mul_right _ (by omega)
      rw [Nat.add_mul] at this
      omega
    have hst := run_storeCells_at (P := Try.prog) g (a * 3) 104 _ 0 cur w hg hsz (zeros_one (n - a))
    have hzl := zeros_len (n - a)
    obtain ⟨m, hm⟩ : ∃ m, n - a = m + 1 := ⟨n - a - 1, by omega⟩
    generalize hZ : (Builtin.zeroCells (Value.agg #[.pointer none, .int .i64 0, .nilFunc]).cells (n - a)).toList = Z at hst hsz hzl
    generalize hR : (List.take (a * 3 + 0) cur.toList ++ Z ++ List.drop (a * 3 + 0 + Z.length) cur.toList).toArray = R at hst
    have hRl : R.toList = List.take (a * 3) cur.toList ++ Z ++ List.drop (a * 3 + Z.length) cur.toList := by rw [← hR]; simp
    have hal : (List.take (a * 3) cur.toList).length = a * 3 := by rw [List.length_take]; simp; omega
    refine ⟨w.setRow g R, ?_, ⟨?_, .inr ⟨g, cap, R, rfl, Nat.zero_le _, setRow_heap w g cur R 104 _ hg, by omega, h3, ?_, ?_⟩⟩, ⟨rfl, rfl, rfl, by simp, fun k hk hn => setRow_other w g k R hn⟩⟩
    · simp only [Builtin.clear_]
      rw [hm] at hZ ⊢
      simp only [Value.cells] at hZ
      simp [run_underlying Try.underlying77, zero104, Result.andThen, Value.cells, hZ, hst]
    · rw [← h5, List.take_take, Nat.min_eq_left (by omega), hal]
    · show R.size = cap * 3
      rw [← Array.length_toList, hRl, List.length_append, List.length_append, hal, List.length_drop]
      simp
      omega
    · rw [hRl, List.append_assoc, List.take_left' hal, ← h5, List.take_take, Nat.min_eq_left (by omega)]

set_option maxRecDepth 100000 in
set_option maxHeartbeats 1000000 in
theorem del_any (fb : Nat → Nat) (f : Nat) (caps : Array Value) (hcf : ∀ args w, (callFunc f args).run Try.prog w = .ok (Next.enter f args) w) (q : PA → Bool) (l : List PA) (v : Value) (w : World) (h : w.ownsRow 0 104 3 v l.length (l.flatMap (paC fb))) (hl : l.length ≤ 1000000) (hq : Tells fb f caps q l (fun b => v.ownBlock = some b) w) :
    Calls Try.prog 53 #[v, .func (.func f) #[] caps] w fun e w' => ∃ v', e = .returned v' ∧ w'.ownsRow 0 104 3 v' (l.filter (nq q)).length ((l.filter (nq q)).flatMap (paC fb)) ∧ (∀ b, v'.ownBlock = some b → v.ownBlock = some b) ∧ Frm (fun b => v.ownBlock = some b) w w' := by
  have H := Lib.hid h
  have Hq := Lib.hid hq
  obtain ⟨ao0, cap0, hv0, _⟩ := row_slice h
  clear h hq
  subst hv0
  go_enter Try.func53, Try.ntmps53
  go_wp2_with fail
  refine (dix_any fb f caps hcf q l _ _ w H.out hl Hq.out).mono ?_
  rintro e w1 ⟨rfl, hf1⟩
  cases hfi : l.findIdx? q with
  | none =>
    have hz : ixZ q l = -1 := by unfold ixZ; rw [hfi]
    have hall : l.filter (nq q) = l := by
      rw [List.filter_eq_self]
      intro x hx
      have := List.findIdx?_eq_none_iff.1 hfi x hx
      unfold nq; rw [this]; rfl
    rw [hz]
    have Hall := Lib.hid hall
    clear hz hfi hall
    go_wp2_with fail
    go_ret
    exact ⟨_, rfl, by rw [Hall.out]; exact row_frm H.out hf1 (fun _ _ h => h), fun _ h => h, hf1.mono (fun _ _ h => h.elim)⟩
  | some i0 =>
    have hz : ixZ q l = i0 := by unfold ixZ; rw [hfi]
    obtain ⟨hi0, hq0, hlt0⟩ := List.findIdx?_eq_some_iff_getElem.1 hfi
    obtain ⟨g, cap, hvv, hle⟩ := row_slice_at H.out (by omega)
    obtain ⟨rfl, rfl⟩ : ao0 = some ⟨g, 0, none⟩ ∧ cap0 = cap := by cases hvv; exact ⟨rfl, rfl⟩
    clear hvv
    rw [hz]
    have hkept : (l.take (i0 + 1)).filter (nq q) = l.take i0 := by
      rw [List.take_succ_eq_append_getElem hi0, List.filter_append]
      have e1 : (l.take i0).filter (nq q) = l.take i0 := by
        rw [List.filter_eq_self]
        intro x hx
        obtain ⟨j, hj, rfl⟩ := List.getElem_of_mem hx
        rw [List.length_take] at hj
        have := hlt0 j (by omega)
        rw [List.getElem_take]
        unfold nq
        simpa using this
      rw [e1, List.filter_cons]
      unfold nq
      simp [hq0]
    have hst : DelInv fb q l w g cap0 w1 i0 (i0 + 1) l := ⟨Nat.lt_succ_self _, hi0, rfl, by rw [hkept], (by rw [hkept, List.length_take, Nat.min_eq_left (Nat.le_of_lt hi0)]), rfl, row_frm H.out hf1 (fun _ _ h => h), hf1.mono (fun _ _ h => h.elim)⟩
    have Hst := Lib.hid hst
    have i1 : decide ((i0 : Int) = -1) = false := decide_eq_false (by omega)
    have i2 : ((i0 : Int) == -1) = false := by rw [beq_eq_false_iff_ne]; omega
    clear hz hfi hq0 hlt0 hkept hst hf1
    go_wp2_with fail
    go_loopw [5, 6] (fun i j wr => ∃ (a b : Nat) (ys : List PA), i = .int .i64 a ∧ j = .int .i64 b ∧ RowKit.Hid (DelInv fb q l w g cap0 wr a b ys)) (fun _ j _ => l.length - (intOf j).toNat)
    case atStart => exact ⟨i0, i0 + 1, l, rfl, by go_num, Hst⟩
    case round =>
      clear Hst i1 i2
      obtain ⟨a, b, ys, rfl, rfl, D⟩ := hrel
      have q1 := D.out.ij
      have q2 := D.out.jn
      by_cases hlt : b < l.length
      · have hrow := D.out.row
        rw [← D.out.len] at hrow
        have hR := rw_of_owns (paC_len fb) hrow rfl
        obtain ⟨_, _, e0, _, _, _, hc⟩ := hR
        cases e0
        have hby : b < ys.length := by rw [D.out.len]; exact hlt
        have hay : a < ys.length := by omega
        obtain ⟨_, e0, c1⟩ := hc b hby
        cases e0
        obtain ⟨_, e0, c2⟩ := hc a hay
        cases e0
        have hyb : ys[b] = l[b] := by
          have := D.out.rest
          rw [List.drop_eq_getElem_cons hby, List.drop_eq_getElem_cons hlt] at this
          exact (List.cons.inj this).1
        have r0 := c1 0 _ rfl
        have r1 := c1 1 _ rfl
        have r2 := c1 2 _ rfl
        rw [Nat.add_zero] at r0
        have u0 := c2 0 _ rfl
        have u1 := c2 1 _ rfl
        have u2 := c2 2 _ rfl
        rw [Nat.add_zero] at u0
        obtain ⟨x, hx⟩ : ∃ x, x = l[b] := ⟨_, rfl⟩
        rw [hyb, ← hx] at r0 r1 r2
        have Hx := Lib.hid (And.intro hx hyb)
        have fzr := (row_fz D.out.row rfl).frozen
        have i1 : (0 : Int) ≤ b := by omega
        have i2 : (b : Int) < l.length := by omega
        have i3 : (0 : Int) ≤ a := by omega
        have i4 : (a : Int) < l.length := by omega
        clear hc c1 c2 hx hyb hrow
        obtain ⟨o0, o1, o2⟩ := paV_one fb x
        generalize hV : paV fb x = V at *
        have HV := Lib.hid hV
        have hxm : x ∈ l := by rw [Hx.out.1]; exact List.getElem_mem _
        have hcall : ∀ W, Frm (· = g) w W → Calls Try.prog f (#[.agg #[V.1, V.2.1, V.2.2]] ++ caps) W fun e w2 => e = .returned (.bool (q x)) ∧ Frm (fun _ => False) W w2 := by
          intro W hW
          have := Hq.out x hxm W (hW.mono (fun b _ e => by rw [e]; rfl))
          unfold paA at this
          rwa [HV.out] at this
        have Hcall := Lib.hid hcall
        have hglt : g < wr.heap.size := (row_fz D.out.row rfl).elim fun c ⟨_, hc⟩ => lt_of_heap hc
        clear hcall hxm
        generalize hU : paV fb ys[a] = U at *
        obtain ⟨V0, V1, V2⟩ := V
        obtain ⟨U0, U1, U2⟩ := U
        clear hV hU
        have hs0 := fun (w : World) (a : Addr) (m : Mode) => run_store Try.prog w a V0 m o0
        have hs1 := fun (w : World) (a : Addr) (m : Mode) => run_store Try.prog w a V1 m o1
        have hs2 := fun (w : World) (a : Addr) (m : Mode) => run_store Try.prog w a V2 m o2
        go_wp2_with fail
        refine (Hcall.out _ (D.out.frm.alloc _)).mono ?_
        rintro e w2 ⟨rfl, hf2⟩
        have b0 : w2.cell? ⟨wr.heap.size, 0, none⟩ = some V0 := (hf2.cell (p := ⟨wr.heap.size, 0, none⟩) (by simp) (fun h => h)).trans (by simp)
        have b1 : w2.cell? ⟨wr.heap.size, 1, none⟩ = some V1 := (hf2.cell (p := ⟨wr.heap.size, 1, none⟩) (by simp) (fun h => h)).trans (by simp)
        have b2 : w2.cell? ⟨wr.heap.size, 2, none⟩ = some V2 := (hf2.cell (p := ⟨wr.heap.size, 2, none⟩) (by simp) (fun h => h)).trans (by simp)
        have hfw : Frm (fun _ => False) wr w2 := ((Frm.refl _ wr).alloc _).trans hf2
        have D2 : DelInv fb q l w g cap0 w2 a b ys := { D.out with row := row_frm D.out.row hfw (fun _ _ h => h), frm := D.out.frm.trans (hfw.mono (fun _ _ h => h.elim)) }
        have HD2 := Lib.hid D2
        clear r0 r1 r2 fzr hf2 D2
        cases hqx : q x with
        | true =>
          have Hqx := Lib.hid hqx
          clear hqx b0 b1 b2 u0 u1 u2
          go_wp2_with fail
          exact ⟨⟨a, b + 1, ys, rfl, by go_num, Lib.hid (HD2.out.skip hlt (by rw [← Hx.out.1]; exact Hqx.out))⟩, by simp [intOf]; omega⟩
        | false =>
          have Hqx := Lib.hid hqx
          have u0' := (hfw.cell (p := ⟨g, a * 3, none⟩) hglt (fun h => h)).trans u0
          have u1' := (hfw.cell (p := ⟨g, a * 3 + 1, none⟩) hglt (fun h => h)).trans u1
          have u2' := (hfw.cell (p := ⟨g, a * 3 + 2, none⟩) hglt (fun h => h)).trans u2
          have fz2 := (row_fz HD2.out.row rfl).frozen
          clear hqx u0 u1 u2 hfw
          go_wp2_with fail
          have hS := HD2.out.stored (V0 := V0) (V1 := V1) (V2 := V2) hlt (by rw [← Hx.out.1]; exact Hqx.out) (by rw [← Hx.out.1]; exact HV.out)
          exact ⟨⟨a + 1, b + 1, _, by go_num, by go_num, Lib.hid hS⟩, by simp [intOf]; omega⟩
      · have hlt' : decide ((b : Int) < l.length) = false := by simp; omega
        have hbl : b = l.length := by omega
        have i3 : (0 : Int) ≤ a := by omega
        have i4 : (a : Int) < l.length := by omega
        obtain ⟨w3, hcl, hro, hf3⟩ := clear_row (a := a) D.out.row (by omega) 0
        have H3 := Lib.hid (And.intro hro hf3)
        clear hro hf3
        have hall : (l.take b).filter (nq q) = l.filter (nq q) := by rw [hbl, List.take_length]
        have Hall := Lib.hid hall
        clear hall
        go_wp2_with fail
        go_ret
        have hk := D.out.kept
        have hil := D.out.il
        rw [Hall.out] at hk hil
        have hrow := H3.out.1
        rw [flat_take (paC_len fb), hk] at hrow
        exact ⟨_, rfl, by rw [hil]; exact hrow, fun _ h => h, (D.out.frm.trans H3.out.2).mono (fun b _ e => by rw [e]; rfl)⟩
end Go.Proofs.Ytngickhakedonaa

namespace Go.Proofs.Ytngickhakedonaa
open Go.RowKit Go.Tk Go.Dk

variable {w w' : World} {d : Nat} {L : PL} {s : DS} {B : Nat → Prop}

def qS (k : Nat) (p : PA) : Bool := match p.1 with | .put j _ => decide (j = k) | _ => false
def qD (p : PA) : Bool := !isPut p.1
theorem nqS (k : Nat) (p : PA) : nq (qS k) p = lsA k p.1 := by
  obtain ⟨a, x, y⟩ := p
  cases a with
  | put j n => rw [lsA_put]; rfl
  | _ => rw [lsA_dir k rfl]; rfl
theorem nqD (p : PA) : nq qD p = lsA (-1) p.1 := by
  rw [lsA_neg]; unfold nq qD; rw [Bool.not_not]
theorem filter_fst (q : PA → Bool) (p : DAct → Bool) (h : ∀ x, q x = p x.1) (l : List PA) : (l.filter q).map (·.1) = (l.map (·.1)).filter p := by
  rw [List.filter_map]
  congr 1
  exact List.filter_congr fun x _ => h x

theorem info100 : (Try.prog.info? 100).map (fun i => (i.zero, i.size, i.bytes)) = some (some (.agg #[.slice none 0 0, .int .i64 0]), 2, 32) := by kernel_rfl

theorem PD.fb_inj (h : PD w d L s) {j k : Nat} (hj : L.live j) (hk : L.live k) (e : L.fb j = L.fb k) : j = k := by
  have h1 := (h.files j hj).fr
  have h2 := (h.files k hk).fr
  rw [e, h2] at h1
  injection h1 with h3
  exact h3.symm

theorem eql98_nil (a : Addr) (w : World) : (binOp .eql 98 (.pointer none) (.pointer (some a))).run Try.prog w = .ok (.bool false) w := by
  have h : ∀ d : Nat, (Op.equalIn (d + 1) 98 (.pointer none) (.pointer (some a))).run Try.prog w = .ok false w := fun d => by
    simp [Op.equalIn, run_underlying Try.underlying98]
  simp only [binOp]
  simp [Op.equal, Op.maxDepth, h 9999]
theorem eql98 {a b : Nat} (ha : Fz w a) (hb : Fz w b) : (binOp .eql 98 (ptrV a) (ptrV b)).run Try.prog w = .ok (.bool (decide (a = b))) w := by
  obtain ⟨i0, hi, hz0, hz1, hz2⟩ := info_parts info100
  have := run_equal_ptr (P := Try.prog) (w := w) (tp := 98) Try.underlying98 hi (by rw [hz1]; decide) ha hb
  unfold ptrV at *
  simp only [binOp]
  simp [this]

theorem isf_any (f : Value) (a1 a2 : Value) (ha0 : f.oneCell' = true) (ha1 : a1.oneCell' = true) (ha2 : a2.oneCell' = true) (x k : Nat) (r : Bool) (w : World) (hx : w.cell? ⟨x, 0, none⟩ = some (ptrV k)) (hg : ∀ w1, (eqGuard .eql 98 (.tmp 5) (.tmp 6) f (ptrV k)).run Try.prog w1 = .ok () w1) (hr : ∀ w1, Frm (fun _ => False) w w1 → (binOp .eql 98 f (ptrV k)).run Try.prog w1 = .ok (.bool r) w1) :
    Calls Try.prog 54 #[.agg #[f, a1, a2], ptrV x] w fun e w' => e = .returned (.bool r) ∧ Frm (fun _ => False) w w' := by
  have hxl := World.block_lt_of_cell? _ _ hx
  have h1 := hr _ ((Frm.refl (fun _ => False) w).alloc (.cells #[f, a1, a2] 104))
  clear hr
  unfold ptrV at *
  go_enter Try.func54, Try.ntmps54
  go_wp2_with fail
  go_ret
  exact ⟨rfl, (Frm.refl _ _).alloc _⟩

theorem tells_sync (h : PD w d L s) {k : Nat} (hk : L.live k) {x : Nat} (hx : w.cell? ⟨x, 0, none⟩ = some (ptrV (L.fb k))) (hxr : L.role x ≠ .loose) : Tells L.fb 54 #[ptrV x] (qS k) L.pa (fun b => L.vl.ownBlock = some b) w := by
  intro p hp w1 hf
  have hS : ∀ b r, L.role b = r → r ≠ .loose → ¬ L.vl.ownBlock = some b := fun b r hb hr e => hr (by rw [← hb, h.rl b e])
  have hx1 := (hf.cell (p := ⟨x, 0, none⟩) (World.block_lt_of_cell? _ _ hx) (hS x _ rfl hxr)).trans hx
  have hfk := (h.files k hk).fz.frm hf (hS _ _ (h.files k hk).fr (by simp))
  obtain ⟨o0, o1, o2⟩ := paV_one L.fb p
  refine isf_any _ _ _ o0 o1 o2 x (L.fb k) _ w1 hx1 (fun w2 => by obtain ⟨a, y, z⟩ := p; cases a <;> rfl) (fun w2 hf2 => ?_)
  obtain ⟨a, y, z⟩ := p
  cases a with
  | put j n =>
    have hj : L.live j := h.la (.put j n) (by rw [← h.ap]; exact List.mem_map.2 ⟨_, hp, rfl⟩)
    have hfj := (h.files j hj).fz.frm hf (hS _ _ (h.files j hj).fr (by simp))
    have := eql98 (hfj.frm hf2 (fun h => h)) (hfk.frm hf2 (fun h => h))
    have e : decide (L.fb j = L.fb k) = decide (j = k) := by
      by_cases q : j = k
      · rw [q]; simp
      · rw [decide_eq_false q, decide_eq_false (fun e => q (h.fb_inj hj hk e))]
    rw [e] at this
    exact this
  | _ => exact eql98_nil _ w2

theorem neq102_nil (w : World) : (binOp .neq 102 .nilFunc .nilFunc).run Try.prog w = .ok (.bool false) w := by kernel_rfl
theorem neq102_func (f : Nat) (c : Array Value) (w : World) : (binOp .neq 102 (.func (.func f) #[] c) .nilFunc).run Try.prog w = .ok (.bool true) w := by kernel_rfl
theorem isd_any (f : Value) (a1 a2 : Value) (ha0 : f.oneCell' = true) (ha1 : a1.oneCell' = true) (ha2 : a2.oneCell' = true) (r : Bool) (w : World) (hg : ∀ w1, (eqGuard .neq 102 (.tmp 4) (.const .nilFunc) a2 .nilFunc).run Try.prog w1 = .ok () w1) (hr : ∀ w1, (binOp .neq 102 a2 .nilFunc).run Try.prog w1 = .ok (.bool r) w1) :
    Calls Try.prog 60 #[.agg #[f, a1, a2]] w fun e w' => e = .returned (.bool r) ∧ Frm (fun _ => False) w w' := by
  go_enter Try.func60, Try.ntmps60
  go_wp2_with fail
  go_ret
  exact ⟨rfl, (Frm.refl _ _).alloc _⟩
theorem tells_dir (fb : Nat → Nat) (l : List PA) (S : Nat → Prop) (w : World) : Tells fb 60 #[] qD l S w := by
  intro p hp w1 hf
  obtain ⟨o0, o1, o2⟩ := paV_one fb p
  refine isd_any _ _ _ o0 o1 o2 _ w1 (fun w2 => by obtain ⟨a, y, z⟩ := p; cases a <;> rfl) (fun w2 => ?_)
  obtain ⟨a, y, z⟩ := p
  cases a with
  | put j n => exact neq102_nil w2
  | _ => exact neq102_func _ _ w2
theorem run_c54 (args : Array Value) (w : World) : (callFunc 54 args).run Try.prog w = .ok (Next.enter 54 args) w := by kernel_rfl
theorem run_c60 (args : Array Value) (w : World) : (callFunc 60 args).run Try.prog w = .ok (Next.enter 60 args) w := by kernel_rfl
end Go.Proofs.Ytngickhakedonaa

namespace Go.Proofs.Ytngickhakedonaa
open Go.RowKit Go.Tk Go.Dk

set_option maxRecDepth 100000 in
set_option maxHeartbeats 1000000 in
theorem mclone_any {α : Type} [DecidableEq α] {K : Ky α} (b : Nat) (l : List (α × Value)) (w : World) (h : GMap K w b l) :
    Calls Try.prog 55 #[.map (some b)] w fun e w' => e = .returned (.map (some w.heap.size)) ∧ GMap K w' w.heap.size l ∧ ∃ o, w' = w.alloc o := by
  obtain ⟨es, clock, hb, hs, he⟩ := h
  have hq := fun w => run_eql_map_nil_sl (P := Try.prog) w 75 _ _ (some b) Try.underlying75
  go_enter Try.func55, Try.ntmps55
  go_wp2
  rw [run_callFunc_extern Try.func73 (by kernel_rfl) (by kernel_rfl) (by kernel_rfl) (e := Extern.MapsClone.clone) (by kernel_rfl), run_maps_clone_sl w 75 hb]
  simp only [Result.andThen]
  rw [Oper.upon_value]
  go_wp2
  rw [run_typeAssert_map_sl _ 75 20 _ _ _ Try.underlying75]
  simp only [Result.andThen]
  rw [Oper.upon_value]
  go_wp2
  go_ret
  exact ⟨rfl, ⟨es, clock, (MapKept.heap_alloc w _).1, hs, he⟩, _, rfl⟩

theorem info5 : (Try.prog.info? 5).map (fun i => (i.zero, i.size, i.bytes)) = some (some (.int .u8 0), 1, 1) := by kernel_rfl

theorem byC_one (x : ByteArray) : ∀ u ∈ byC x, u.oneCell' = true := by
  intro u hu
  unfold byC at hu
  obtain ⟨c, _, rfl⟩ := List.mem_map.1 hu
  rfl
/-- the cells of bytes -/
theorem bv_cells {w : World} {v : Value} {x : ByteArray} (h : BV w v x) {a : Addr} {n c : Nat} (hv : v = .slice (some a) n c) : ∀ j u, (byC x)[j]? = some u → w.cell? (a.add j) = some u := by
  intro j u hu
  obtain ⟨ao, cap, e, _, hg⟩ := row_slice h
  have hlt : 0 < x.size := by
    have := (List.getElem?_eq_some_iff.1 hu).1
    rw [byC_len] at this; omega
  obtain ⟨g, rfl⟩ := hg hlt
  have e2 := hv.symm.trans e
  injection e2 with e3
  injection e3 with e3
  subst e3
  rw [e] at h
  exact h.cells (g := g) rfl j u hu
set_option maxRecDepth 100000 in
set_option maxHeartbeats 1000000 in
theorem bclone_any (v : Value) (x : ByteArray) (w : World) (h : BV w v x) (hx : x.size ≤ 1000000000000) :
    Calls Try.prog 57 #[v] w fun e w' => ∃ v', e = .returned v' ∧ BV w' v' x ∧ (∀ b, bown v' = some b → w.heap.size ≤ b) ∧ Frm (fun _ => False) w w' := by
  obtain ⟨i0, hi0, hz0, hz1, hz2⟩ := info_parts info5
  obtain ⟨ao, cap, hv, hle⟩ := h.slice
  have hnil := fun w => Lib.run_eql_slice_nil (P := Try.prog) w 45 5 ao x.size cap 0 0 Try.underlying45
  have H := Lib.hid h
  cases ao with
  | none =>
    have hz : x.size = 0 ∧ cap = 0 := by
      rcases h.2 with ⟨e, h0⟩ | ⟨g, cap, cur, e, _⟩
      · rw [hv] at e; injection e with _ _ e3; exact ⟨h0, e3⟩
      · rw [hv] at e; injection e with e1; cases e1
    have Hz := Lib.hid hz
    subst hv
    clear h hz hle
    go_enter Try.func57, Try.ntmps57
    go_wp2_with fail
    go_ret
    exact ⟨_, rfl, (by have h := H.out; unfold BV at h ⊢; rw [Hz.out.1, Hz.out.2] at h; rw [Hz.out.1]; exact h), (fun b hb => by cases hb), Frm.refl _ _⟩
  | some a =>
    have hcells := bv_cells h hv
    have hrow : (w.alloc (.cells #[] 5)).ownsRow 0 5 1 (.slice (some ⟨w.heap.size, 0, none⟩) 0 0) 0 [] := ⟨rfl, .inr ⟨w.heap.size, 0, #[], rfl, Nat.zero_le _, heap_alloc_new w _, Nat.le_refl _, Nat.zero_le _, rfl, rfl⟩⟩
    have Hrow := Lib.hid hrow
    have Hv := Lib.hid hv
    subst hv
    have hlt : x.size ≠ 0 → a.block < w.heap.size := fun hne => by
      have hl := byC_len x
      have := hcells 0 _ (List.getElem?_eq_getElem (by omega))
      exact World.block_lt_of_cell? _ _ this
    have hcells' : ∀ j u, (byC x)[j]? = some u → (w.alloc (.cells #[] 5)).cell? (a.add j) = some u := by
      intro j u hu
      have h1 := hcells j u hu
      have h2 : (a.add j).block < w.heap.size := World.block_lt_of_cell? _ _ h1
      exact (((Frm.refl (fun _ => False) w).alloc _).cell h2 (fun h => h)).trans h1
    have Hc := Lib.hid hcells'
    have hmax : 0 + x.size ≤ maxLen := by unfold maxLen; omega
    have hby : (0 + x.size) * 1 ≤ 140737488355328 := by omega
    have Hm := Lib.hid (And.intro hmax (And.intro hby (show (byC x).length = x.size * 1 by rw [byC_len, Nat.mul_one])))
    clear h hcells hcells' hrow hlt hmax hby
    go_enter Try.func57, Try.ntmps57
    go_wp2_with (first | (at_builtin; refine wpList_append_own_at _ rfl _ _ 45 rfl 0 5 i0 _ 1 1 Try.underlying45 hi0 hz0 hz1 hz2 rfl (by decide) _ _ _ rfl Hrow.out a x.size cap (byC x) rfl Hm.out.2.2 Hc.out (byC_one x) Hm.out.1 Hm.out.2.1 (Nat.zero_le _) ?_; intro v' wa hown hgrow _ hat))
    go_ret
    rw [List.nil_append] at hown
    have hown2 : wa.ownsRow 0 5 1 v' x.size (byC x) := by rw [Nat.zero_add] at hown; exact hown
    refine ⟨v', rfl, hown2, fun b hb => ?_, ((Frm.refl _ w).alloc _).trans' (Frm.of_grown (S := fun b => b = w.heap.size) hgrow (fun k hk _ => by cases hk; rfl)) (fun b hb e => absurd e (Nat.ne_of_lt hb))⟩
    have hb2 : v'.ownBlock = some b := hb
    rcases hat with h1 | h1
    · rw [h1] at hb2; cases hb2; exact Nat.le_refl _
    · rw [h1] at hb2; cases hb2; simp
end Go.Proofs.Ytngickhakedonaa

namespace Go.Proofs.Ytngickhakedonaa
open Go.RowKit Go.Tk Go.Dk

variable {w w' : World} {d : Nat} {L : PL} {s : DS} {B : Nat → Prop}

theorem PD.loose_del (h : PD w d L s) {wa : World} {v : Value} {q : PA → Bool} {p : DAct → Bool} (hq : ∀ x, nq q x = p x.1) (ho : wa.ownsRow 0 104 3 v (L.pa.filter (nq q)).length ((L.pa.filter (nq q)).flatMap (paC L.fb))) (hs : ∀ b, v.ownBlock = some b → L.vl.ownBlock = some b)
    (hF : Frm (fun b => L.vl.ownBlock = some b) w wa) :
    wa.cell? ⟨d, 2, none⟩ = some L.vl ∧ (∀ o, wa.frozen? ⟨d, o, none⟩ = false) ∧ Frm (fun b => b = d ∨ L.vl.ownBlock = some b) w (wa.setCell ⟨d, 2, none⟩ v) ∧
    ∃ L', L'.live = L.live ∧ L'.fb = L.fb ∧ L'.vb = L.vb ∧ L'.dl = L.dl ∧ L'.bd = L.bd ∧ PD (wa.setCell ⟨d, 2, none⟩ v) d L' { s with acts := s.acts.filter p } ∧ PStep w (wa.setCell ⟨d, 2, none⟩ v) L L' := by
  have hdlt := h.rb d (by rw [h.r0]; simp)
  have hnd : ¬ L.vl.ownBlock = some d := fun e => by have := h.rl d e; rw [h.r0] at this; cases this
  have cc : ∀ o, wa.cell? ⟨d, o, none⟩ = w.cell? ⟨d, o, none⟩ := fun o => hF.cell (p := ⟨d, o, none⟩) hdlt hnd
  have fz : Fz wa d := h.fz.frm hF hnd
  have hvd : v.ownBlock ≠ some d := fun e => hnd (hs d e)
  have hset : Frm (· = d) wa (wa.setCell ⟨d, 2, none⟩ v) := PD.setFrm wa d 2 v
  have hFF : Frm (fun b => b = d ∨ L.vl.ownBlock = some b) w (wa.setCell ⟨d, 2, none⟩ v) := (hF.mono (fun b _ hb => .inr hb)).trans (hset.mono (fun b _ hb => .inl hb))
  have hsub : ∀ x ∈ L.pa.filter (nq q), x ∈ L.pa := fun x hx => (List.mem_filter.1 hx).1
  obtain ⟨L', e1, e2, e3, e4, e5, hpd, hnew⟩ := h.loose_step hFF (fun o ho => (Tk.set_off _ _ _ _ _ _ (Ne.symm ho)).trans (cc o)) (fz.set _ _) (v := v) (pa := L.pa.filter (nq q)) (set_same _ _ _ _ _ ((cc 2).trans h.c2))
    (row_frm ho hset (fun b hb e => hvd (e ▸ hb))) (fun b hb => .inl (hs b hb)) (fun x hx => h.caps x (hsub x hx)) (fun x hx => h.la _ (by rw [← h.ap]; exact List.mem_map.2 ⟨x, hsub x hx, rfl⟩))
  refine ⟨(cc 2).trans h.c2, fz.frozen, hFF, L', e2, e3, e4, e1, e5, ?_, hFF.mono (fun b _ hb => ?_), hnew⟩
  · rw [filter_fst (nq q) p hq, h.ap] at hpd; exact hpd
  · rcases hb with rfl | hb
    · rw [h.r0]; simp
    · rw [h.rl b hb]; simp

theorem PD.file_sure (h : PD w d L s) {k : Nat} (hk : L.live k) (n : Nat) :
    ∃ L', L'.live = L.live ∧ L'.fb = L.fb ∧ PD (w.setCell ⟨L.fb k, 1, none⟩ (.int .i64 n)) d L' { s with files := s.files.set k ((getF s k).1, n) } ∧ PStep w (w.setCell ⟨L.fb k, 1, none⟩ (.int .i64 n)) L L' := by
  have hf := h.files k hk
  have hF : Frm (fun b => b = L.fb k ∨ bown (L.vb k) = some b) w (w.setCell ⟨L.fb k, 1, none⟩ (.int .i64 n)) := (Frm.refl _ w).setCell (p := ⟨L.fb k, 1, none⟩) (fun _ => .inl rfl) _
  obtain ⟨L', e1, e2, e3, _, _, _, hpd, hnew⟩ := h.file_step hk hF (v := L.vb k) (f := ((getF s k).1, n)) ((Tk.set_off _ _ _ _ _ _ (by decide)).trans hf.f0) (set_same _ _ _ _ _ hf.f1) (hf.fz.set _ _)
    (hf.bv.frm (S := fun b => b = L.fb k) (PD.setFrm w (L.fb k) 1 _) (fun g hg e => by have := hf.br g hg; rw [e, hf.fr] at this; cases this)) (fun g hg => .inl hg)
  refine ⟨L', e2, e3, hpd, hF.mono (fun b _ hb => ?_), hnew⟩
  rcases hb with rfl | hb
  · rw [hf.fr]; simp
  · rw [hf.br b hb]; simp

theorem byC_extract (x : ByteArray) (m : Nat) (h : m ≤ x.size) : byC (x.extract 0 m) = (byC x).take m := by
  unfold byC
  rw [← List.map_take]
  congr 1
  rw [ByteArray.data_extract, Array.toList_extract]
  simp
theorem BV.cut {v : Value} {x : ByteArray} {ao : Option Addr} {cap m : Nat} (h : BV w v x) (hv : v = .slice ao x.size cap) (hm : m ≤ x.size) : BV w (.slice ao m cap) (x.extract 0 m) := by
  have hsz : (x.extract 0 m).size = m := by rw [ByteArray.size_extract]; omega
  unfold BV at *
  rw [hv] at h
  have := row_cut h hm
  rw [Nat.mul_one, ← byC_extract x m hm] at this
  rw [hsz]; exact this
theorem PD.file_cut (h : PD w d L s) {k : Nat} (hk : L.live k) {ao : Option Addr} {cap m : Nat} (hv : L.vb k = .slice ao (getF s k).1.size cap) (hm : m ≤ (getF s k).1.size) :
    ∃ L', L'.live = L.live ∧ L'.fb = L.fb ∧ PD (w.setCell ⟨L.fb k, 0, none⟩ (.slice ao m cap)) d L' { s with files := s.files.set k ((getF s k).1.extract 0 m, (getF s k).2) } ∧ PStep w (w.setCell ⟨L.fb k, 0, none⟩ (.slice ao m cap)) L L' := by
  have hf := h.files k hk
  have hF : Frm (fun b => b = L.fb k ∨ bown (L.vb k) = some b) w (w.setCell ⟨L.fb k, 0, none⟩ (.slice ao m cap)) := (Frm.refl _ w).setCell (p := ⟨L.fb k, 0, none⟩) (fun _ => .inl rfl) _
  have hown : ∀ g, bown (.slice ao m cap) = some g → bown (L.vb k) = some g := by
    intro g hg
    rw [hv]
    cases ao <;> first | (cases hg; done) | exact hg
  obtain ⟨L', e1, e2, e3, _, _, _, hpd, hnew⟩ := h.file_step hk hF (v := .slice ao m cap) (f := ((getF s k).1.extract 0 m, (getF s k).2)) (set_same _ _ _ _ _ hf.f0) ((Tk.set_off _ _ _ _ _ _ (by decide)).trans hf.f1) (hf.fz.set _ _)
    ((hf.bv.cut hv hm).frm (S := fun b => b = L.fb k) (PD.setFrm w (L.fb k) 0 _) (fun g hg e => by have := hf.br g (hown g hg); rw [e, hf.fr] at this; cases this)) (fun g hg => .inl (hown g hg))
  refine ⟨L', e2, e3, hpd, hF.mono (fun b _ hb => ?_), hnew⟩
  rcases hb with rfl | hb
  · rw [hf.fr]; simp
  · rw [hf.br b hb]; simp

/-! ### what 'starts' tells, and the document -/
theorem pre1 (s : DS) (name too b : ByteArray) (kind : Nat) (hk : kind = 1 ∨ kind = 2 ∨ kind = 5) :
    (∃ e : Int, e ≠ 0 ∧ startsE s true [name] = (false, e) ∧ doD s kind name too b = (⟨#[]⟩, e, startsS s)) ∨
    (∃ k, ofI s.dir name = some k ∧ startsS s = { s with n := s.n + 1 } ∧ (((s.n : Int) ∈ s.fails ∧ startsE s true [name] = (true, 0) ∧ doD s kind name too b = (⟨#[]⟩, 34, failD { s with n := s.n + 1 } kind k)) ∨
      (startsE s true [name] = (false, 0) ∧ doD s kind name too b = (outD s kind name, 0, doesD { s with n := s.n + 1 } kind name too b)))) := by
  have k3 : kind ≠ 3 := by omega
  have k4 : kind ≠ 4 := by omega
  have k0 : kind ≠ 0 := by omega
  have hall : [name].all okName = okName name := by simp
  have hd0 : ([name] : List ByteArray).getD 0 ⟨#[]⟩ = name := rfl
  by_cases hg : gone s = true
  · exact .inl ⟨35, by decide, if_pos hg, by unfold doD startsS; rw [if_pos hg, if_pos hg]⟩
  have hS : startsS s = { s with n := s.n + 1 } := if_neg hg
  rw [hS]
  cases ho : okName name with
  | false =>
    exact .inl ⟨30, by decide, by unfold startsE; rw [if_neg hg, hall, if_pos ho], by unfold doD; rw [if_neg hg, if_pos (.inl ⟨k3, ho⟩)]⟩
  | true =>
    have h1 : ¬ ([name].all okName = false) := by rw [hall, ho]; simp
    have h2 : ¬ ((kind ≠ 3 ∧ okName name = false) ∨ (kind = 4 ∧ okName too = false)) := by rw [ho]; simp [k4]
    cases hf : ofI s.dir name with
    | none =>
      exact .inl ⟨32, by decide, by unfold startsE; rw [if_neg hg, if_neg h1, if_pos ⟨rfl, by rw [hd0]; exact hf⟩], by unfold doD; rw [if_neg hg, if_neg h2, if_pos ⟨k3, k0, hf⟩]⟩
    | some k =>
      have h3 : ¬ (true = true ∧ ofI s.dir (([name] : List ByteArray).getD 0 ⟨#[]⟩) = none) := by rw [hd0, hf]; simp
      have h4 : ¬ (kind ≠ 3 ∧ kind ≠ 0 ∧ ofI s.dir name = none) := by rw [hf]; simp
      have h5 : ¬ (kind = 0 ∧ 0 < b.size ∧ s.room < used s + b.size) := by simp [k0]
      refine .inr ⟨k, rfl, rfl, ?_⟩
      by_cases hn : (s.n : Int) ∈ s.fails
      · exact .inl ⟨hn, by unfold startsE; rw [if_neg hg, if_neg h1, if_neg h3, decide_eq_true hn], by unfold doD; rw [if_neg hg, if_neg h2, if_neg h4, if_neg h5, if_pos hn, hf]; rfl⟩
      · exact .inr ⟨by unfold startsE; rw [if_neg hg, if_neg h1, if_neg h3, decide_eq_false hn], by unfold doD; rw [if_neg hg, if_neg h2, if_neg h4, if_neg h5, if_neg hn]⟩

/-- a row of one name, new -/
theorem rw_one (w : World) (n : ByteArray) (t : TypeId) : Rw strC 1 (w.alloc (.cells #[.string n] t)) (.slice (some ⟨w.heap.size, 0, none⟩) 1 1) [n] := by
  refine ⟨some ⟨w.heap.size, 0, none⟩, 1, rfl, Nat.le_refl _, (fun h => by cases h), fun a e => ?_, fun i hi => ?_⟩
  · cases e; exact ⟨rfl, rfl, by simp⟩
  · refine ⟨w.heap.size, rfl, fun j u hu => ?_⟩
    obtain rfl : i = 0 := by simpa using hi
    rw [World.cell?_alloc_new]
    simpa [strC] using hu
end Go.Proofs.Ytngickhakedonaa

namespace Go.Proofs.Ytngickhakedonaa
open Go.RowKit Go.Tk Go.Dk

variable {w w' : World} {d : Nat} {L : PL} {s : DS} {B : Nat → Prop}

theorem PStep.alloc (w : World) (L : PL) (o : Obj) : PStep w (w.alloc o) L L := ⟨(Frm.refl _ w).alloc o, fun _ h => .inl h⟩
theorem PStep.drew {w w' : World} {L L' : PL} (h : PStep w w' L L') : PStep w w'.drew L L' := ⟨h.frm.drew, h.new⟩
theorem PStep.head (h : PD w d L s) (hf : Frm (· = d) w w') : PStep w w' L L := PStep.of_frm hf (fun b e => by rw [e, h.r0]; simp) rfl

set_option maxRecDepth 100000 in
set_option maxHeartbeats 2000000 in
theorem sync_any (name too b : ByteArray) (w : World) (h : PD w d L s) (hi : Inv s) (hn : s.n ≤ 1000000) (hname : name.size ≤ 2305843009213693952) (hal : s.acts.length ≤ 100000) :
    Calls Try.prog 27 #[.pointer (some ⟨d, 0, none⟩), .string name] w fun e w' => e = .returned (.int .i64 (doD s 2 name too b).2.1) ∧ ∃ L', PD w' d L' (doD s 2 name too b).2.2 ∧ PStep w w' L L' := by
  obtain ⟨D, hD⟩ : ∃ D, doD s 2 name too b = D := ⟨_, rfl⟩
  rw [hD]
  have HD := Lib.hid hD
  have HI := Lib.hid hi
  have H := Lib.hid h
  have Hpre := Lib.hid (pre1 s name too b 2 (.inr (.inl rfl)))
  have Hfr := Lib.hid (h.new_free (Nat.le_refl w.heap.size))
  have hal2 : L.pa.length ≤ 100000 := by have := congrArg List.length h.ap; rw [List.length_map] at this; omega
  clear h hi hD
  go_enter Try.func27, Try.ntmps27
  go_wp2_with fail
  refine (starts_any true _ [name] _ (H.out.keep ((Frm.refl _ w).alloc _)) HI.out hn (rw_one w name 9) (fun b hb => by cases hb; exact Hfr.out) (by simp) (by simpa using hname) (fun _ => by simp)).mono ?_
  rintro e w1 ⟨rfl, hp1, hf1⟩
  have S1 : PStep w w1 L L := (PStep.alloc w L _).trans (PStep.of_frm hf1 (fun b e => by rw [e, hp1.r0]; simp) rfl)
  rcases Hpre.out with ⟨er, he0, he1, he2⟩ | ⟨k, hk, hs, hrest⟩
  · have hd : D = (⟨#[]⟩, er, startsS s) := HD.out.symm.trans he2
    rw [he1]
    have t1 : (er != 0) = true := by simpa using he0
    have t2 : (er == 0) = false := by simpa using he0
    have H1 := Lib.hid (And.intro hp1 S1)
    subst hd
    clear he0 he1 he2 hp1 S1 hf1
    go_wp2_with fail
    go_ret
    exact ⟨rfl, L, H1.out.1, H1.out.2⟩
  · rw [hs] at hp1
    have hlv : L.live k := hp1.live_of (s := { s with n := s.n + 1 }) hk
    have hlk := hp1.look0 (HI.out.of_same rfl rfl rfl rfl) name
    have hdv : dirV L { s with n := s.n + 1 } name = ptrV (L.fb k) := by unfold dirV; rw [show ofI ({ s with n := s.n + 1 } : DS).dir name = some k from hk]
    rw [hdv] at hlk
    have c0 := hp1.c0
    have c2 := hp1.c2
    have fz := hp1.fz.frozen
    have H1 := Lib.hid (And.intro hp1 S1)
    have Hk := Lib.hid (And.intro hk (And.intro hlv hs))
    have hE : ∃ r : Bool, startsE s true [name] = (r, 0) ∧ D = (if r = true then ((⟨#[]⟩, 34, failD { s with n := s.n + 1 } 2 k) : ByteArray × Int × DS) else (outD s 2 name, 0, doesD { s with n := s.n + 1 } 2 name too b)) := by
      rcases hrest with ⟨_, h1, h2⟩ | ⟨h1, h2⟩
      · exact ⟨true, h1, HD.out.symm.trans h2⟩
      · exact ⟨false, h1, HD.out.symm.trans h2⟩
    obtain ⟨r, hE1, hE2⟩ := hE
    rw [hE1]
    have HE := Lib.hid hE2
    clear hrest hp1 S1 hf1 hk hlv hs hdv hE1 hE2
    have hA := (Frm.refl (fun _ => False) w1).alloc (.cells #[ptrV (L.fb k)] 98)
    have hdlt := H1.out.1.rb d (by rw [H1.out.1.r0]; simp)
    have c2' := (hA.cell (p := ⟨d, 2, none⟩) hdlt (fun h => h)).trans c2
    have Hfr1 := Lib.hid (H1.out.1.new_free (Nat.le_refl w1.heap.size))
    have HA := Lib.hid (H1.out.1.keep hA)
    clear hA
    unfold ptrV at hlk c2'
    go_wp2_with fail
    refine (del_any L.fb 54 #[ptrV w1.heap.size] run_c54 (qS k) L.pa L.vl _ HA.out.loose (by omega) (tells_sync HA.out Hk.out.2.1 (by simp [ptrV]) (by rw [Hfr1.out]; simp))).mono ?_
    rintro e w2 ⟨v', rfl, hro, hsub, hf2⟩
    obtain ⟨c2b, fzb, hFF, L2, e1, e2, e3, _, _, hpd, hst⟩ := HA.out.loose_del (nqS k) hro hsub hf2
    obtain ⟨ao2, cap2, hv2, _⟩ := row_slice hro
    have H2 := Lib.hid (And.intro hpd (And.intro hst (And.intro e1 (And.intro e2 hFF))))
    subst hv2
    have hlv2 : L2.live k := by rw [e1]; exact Hk.out.2.1
    have hfile := hpd.files k hlv2
    obtain ⟨ao3, cap3, f0, hvb, hle3⟩ := hfile.bytes
    have f1 := hfile.f1
    have fzk := hfile.fz.frozen
    have hgf : getF { s with n := s.n + 1, acts := s.acts.filter (lsA k) } k = getF s k := rfl
    rw [hgf] at f0 f1 hvb hle3
    rw [e2] at f0 f1 fzk
    have hsum := HI.out.sums k (HI.out.dlt _ (mem_of_ofI Hk.out.1))
    have x0 : (w2.setCell ⟨d, 2, none⟩ (.slice ao2 (L.pa.filter (nq (qS k))).length cap2)).cell? ⟨w1.heap.size, 0, none⟩ = some (ptrV (L.fb k)) := by
      refine (hFF.cell (p := ⟨w1.heap.size, 0, none⟩) (by simp) ?_).trans (by simp)
      rintro (e | e)
      · have := H1.out.1.rb d (by rw [H1.out.1.r0]; simp); simp at e; omega
      · have := H1.out.1.rl _ e; rw [Hfr1.out] at this; cases this
    have Hfb := Lib.hid (And.intro e2 (And.intro hlv2 hvb))
    have hw3 := Lib.hid (show PStep w (w2.setCell ⟨d, 2, none⟩ (.slice ao2 (L.pa.filter (nq (qS k))).length cap2)) L L2 from (H1.out.2.trans (PStep.alloc w1 L _)).trans hst)
    have Hpd := Lib.hid hpd
    have i1 : (0 : Int) ≤ (getF s k).2 := by omega
    have i2 : ((getF s k).2 : Int) ≤ (getF s k).1.size := by omega
    clear c0 c2 c2' fz hlk hdlt hro hsub hf2 hpd hst e1 e2 e3 hFF hfile hgf hsum hlv2 hvb H2
    cases r with
    | false =>
      have hd : D = (⟨#[]⟩, 0, doesD { s with n := s.n + 1 } 2 name too b) := HE.out
      subst hd
      go_wp2_with fail
      generalize (w2.setCell ⟨d, 2, none⟩ (.slice ao2 (L.pa.filter (nq (qS k))).length cap2)) = w3 at *
      clear c2b fzb
      unfold ptrV at x0
      generalize hX : (getF s k).1 = X at *
      generalize hS : (getF s k).2 = Sx at *
      have HX := Lib.hid (And.intro hX hS)
      clear hX hS
      go_still_tail 8, (by kernel_rfl)
      go_wp2_with fail
      go_ret
      obtain ⟨L3, e1, e2, hpd3, hst3⟩ := Hpd.out.file_sure Hfb.out.2.1 X.size
      rw [Hfb.out.1] at hpd3 hst3
      refine ⟨rfl, L3, ?_, (hw3.out.trans hst3).drew⟩
      have hgoal : (doesD { s with n := s.n + 1 } 2 name too b) = { s with n := s.n + 1, acts := s.acts.filter (lsA k), files := s.files.set k ((getF s k).1, X.size) } := by
        show ({ s with n := s.n + 1, files := s.files.set ((ofI s.dir name).getD 0) ((getF s ((ofI s.dir name).getD 0)).1, (getF s ((ofI s.dir name).getD 0)).1.size), acts := s.acts.filter (lsA ((ofI s.dir name).getD 0 : Nat)) } : DS) = _
        rw [Hk.out.1, ← HX.out.1]; rfl
      show PD _ d L3 (doesD { s with n := s.n + 1 } 2 name too b)
      rw [hgoal]
      exact hpd3.keep (Frm.refl _ _).drew
    | true =>
      have hd : D = (⟨#[]⟩, 34, failD { s with n := s.n + 1 } 2 k) := HE.out
      subst hd
      go_wp2_with fail
      generalize (w2.setCell ⟨d, 2, none⟩ (.slice ao2 (L.pa.filter (nq (qS k))).length cap2)) = w3 at *
      clear c2b fzb
      unfold ptrV at x0
      generalize hX : (getF s k).1 = X at *
      generalize hS : (getF s k).2 = Sx at *
      have HX := Lib.hid (And.intro hX hS)
      have hle : Sx ≤ X.size := by omega
      have Hle := Lib.hid hle
      have i3 : (Sx : Int) ≤ cap3 := by omega
      clear hX hS hle
      go_still_tail 12, (by kernel_rfl)
      go_wp2_with fail
      go_ret
      obtain ⟨L3, e1, e2, hpd3, hst3⟩ := Hpd.out.file_cut Hfb.out.2.1 (ao := ao3) (cap := cap3) (m := Sx) (by rw [Hfb.out.2.2, ← HX.out.1]; rfl) (by show Sx ≤ (getF s k).1.size; rw [HX.out.1]; exact Hle.out)
      rw [Hfb.out.1] at hpd3 hst3
      refine ⟨rfl, L3, ?_, (hw3.out.trans hst3).drew⟩
      have hgoal : (failD { s with n := s.n + 1 } 2 k) = { s with n := s.n + 1, acts := s.acts.filter (lsA k), files := s.files.set k ((getF s k).1.extract 0 Sx, (getF s k).2) } := by
        show ({ s with n := s.n + 1, files := s.files.set k ((getF s k).1.extract 0 (getF s k).2, (getF s k).2), acts := s.acts.filter (lsA k) } : DS) = _
        rw [HX.out.2]
      show PD _ d L3 (failD { s with n := s.n + 1 } 2 k)
      rw [hgoal]
      exact hpd3.keep (Frm.refl _ _).drew
end Go.Proofs.Ytngickhakedonaa
