/- A text of a claim's proof: see the last text of the claim. -/
import Derived.Test.YtngickhakedonaaDp03
import Derived.Test.YtngickhakedonaaDp07
import Derived.Test.YtngickhakedonaaDp09
import Derived.Lib.MinMax
import Derived.Laws.OwnMore
import Derived.Lib.BufferRead
import Derived.Maps.AppendAt
set_option linter.all false
namespace Go.Proofs.Ytngickhakedonaa
open Go.RowKit Go.Tk Go.Dk

variable {r : Nat} {s : DS} {B C : Nat → Prop} {w w' : World}

/-! ### the crash, by definition: plain -/
def rf (s : DS) (f : Nat → Fl) : List Fl := (List.range s.files.length).map f
def mkD (room : Int) (files : List Fl) (dir sure : List Nm) : DS := { files := files, dir := dir, sure := sure, acts := [], room := room, n := 0, off := false, cut := -1, fails := [] }
def crX (s : DS) (keep torn : Int) (k : Nat) : DS := mkD s.room (rf s fun f => ((getF s f).1, (getF s f).2 + crG s keep torn k f)) [] (crR s keep k)
def crY (s : DS) (keep torn : Int) (m : Nat) : DS := mkD s.room (rf s fun f => (if f < m then (getF s f).1.extract 0 (sureC s keep torn f) else (getF s f).1, sureC s keep torn f)) [] (replay s.sure (s.acts.take keep.toNat))
theorem rf_len (s : DS) (f : Nat → Fl) : (rf s f).length = s.files.length := by simp [rf]
theorem rf_get (s : DS) (f : Nat → Fl) {k : Nat} (h : k < (rf s f).length) : (rf s f)[k] = f k := by simp [rf]
theorem rf_set (s : DS) (f g : Nat → Fl) (j : Nat) (hj : ∀ i, i ≠ j → g i = f i) : (rf s f).set j (g j) = rf s g := by
  refine List.ext_getElem (by rw [List.length_set, rf_len, rf_len]) fun i h1 h2 => ?_
  rw [List.getElem_set, rf_get]
  by_cases e : j = i
  · subst e; rw [if_pos rfl, rf_get]
  · rw [if_neg e, rf_get, hj i (fun h => e h.symm)]
theorem rf_same (s : DS) (f : Nat → Fl) (h : ∀ k, k < s.files.length → f k = getF s k) : rf s f = s.files := by
  refine List.ext_getElem (rf_len _ _) fun i h1 h2 => ?_
  rw [rf_get, h i h2, getF_eq h2]
theorem rf_congr (s : DS) {f g : Nat → Fl} (h : ∀ k, k < s.files.length → f k = g k) : rf s f = rf s g := by
  unfold rf
  exact List.map_congr_left fun k hk => h k (List.mem_range.1 hk)
theorem getF_rf (s : DS) (f : Nat → Fl) (t : DS) (ht : t.files = rf s f) {k : Nat} (h : k < s.files.length) : getF t k = f k := by
  have hk : k < t.files.length := by rw [ht, rf_len]; exact h
  rw [getF_eq hk]
  simp only [ht, rf_get]
theorem crX_zero (s : DS) (keep torn : Int) : crX s keep torn 0 = mkD s.room s.files [] s.sure := by
  unfold crX
  rw [crR_zero, crG_zero]
  exact congrArg (fun l => mkD s.room l [] s.sure) (rf_same s _ (fun k _ => rfl))
theorem crG_fin {s : DS} {keep torn : Int} {k : Nat} (hk : k ≤ s.acts.length) (h : k = s.acts.length ∨ keep.toNat < k) (f : Nat) : (getF s f).2 + crG s keep torn k f = sureC s keep torn f := by
  rcases h with rfl | h
  · exact crG_end f
  · unfold crG sureC
    rw [Nat.min_eq_right (by omega), if_pos h]; omega
theorem crR_fin {s : DS} {keep : Int} {k : Nat} (hk : k ≤ s.acts.length) (h : k = s.acts.length ∨ keep.toNat < k) : crR s keep k = replay s.sure (s.acts.take keep.toNat) := by
  rcases h with rfl | h
  · exact crR_end s keep
  · unfold crR; rw [Nat.min_eq_right (by omega)]
theorem crX_fin {s : DS} {keep torn : Int} {k : Nat} (hk : k ≤ s.acts.length) (h : k = s.acts.length ∨ keep.toNat < k) : crX s keep torn k = crY s keep torn 0 := by
  unfold crX crY
  rw [crR_fin hk h]
  refine congrArg (fun l => mkD s.room l [] _) (rf_congr s fun f _ => ?_)
  show ((getF s f).1, (getF s f).2 + crG s keep torn k f) = (if f < 0 then (getF s f).1.extract 0 (sureC s keep torn f) else (getF s f).1, sureC s keep torn f)
  rw [crG_fin hk h, if_neg (by omega)]
theorem crY_end (s : DS) (keep torn : Int) : { crY s keep torn s.files.length with dir := (crY s keep torn s.files.length).sure } = crashD s keep torn := by
  show mkD s.room _ _ _ = mkD s.room _ _ _
  refine congrArg (fun l => mkD s.room l _ _) (rf_congr s (g := crashF s keep torn) fun f hf => ?_)
  show (if f < s.files.length then (getF s f).1.extract 0 (sureC s keep torn f) else (getF s f).1, sureC s keep torn f) = _
  rw [if_pos hf]; rfl
theorem crX_put {s : DS} {keep torn : Int} {k j : Nat} {n : Nat} (hR : crR s keep (k + 1) = crR s keep k) (hG : ∀ f, crG s keep torn (k + 1) f = crG s keep torn k f + if j = f then n else 0) (hj : j < s.files.length) :
    { crX s keep torn k with files := (crX s keep torn k).files.set j ((getF (crX s keep torn k) j).1, (getF (crX s keep torn k) j).2 + n) } = crX s keep torn (k + 1) := by
  rw [getF_rf s _ (crX s keep torn k) rfl hj]
  have e := rf_set s (fun f => ((getF s f).1, (getF s f).2 + crG s keep torn k f)) (fun f => ((getF s f).1, (getF s f).2 + crG s keep torn (k + 1) f)) j (fun i hi => by
    show ((getF s i).1, (getF s i).2 + crG s keep torn (k + 1) i) = _
    rw [hG i, if_neg (fun e => hi e.symm)]; rfl)
  show mkD s.room _ [] (crR s keep k) = mkD s.room _ [] (crR s keep (k + 1))
  rw [hR]
  refine congrArg (fun l => mkD s.room l [] _) (Eq.trans ?_ e)
  show List.set _ j _ = List.set _ j _
  rw [hG j, if_pos rfl, ← Nat.add_assoc]; rfl
theorem crY_cut {s : DS} {keep torn : Int} {m : Nat} (hm : m < s.files.length) :
    { crY s keep torn m with files := (crY s keep torn m).files.set m ((getF s m).1.extract 0 (sureC s keep torn m), (getF (crY s keep torn m) m).2) } = crY s keep torn (m + 1) := by
  rw [getF_rf s _ (crY s keep torn m) rfl hm]
  have e := rf_set s (fun f => (if f < m then (getF s f).1.extract 0 (sureC s keep torn f) else (getF s f).1, sureC s keep torn f)) (fun f => (if f < m + 1 then (getF s f).1.extract 0 (sureC s keep torn f) else (getF s f).1, sureC s keep torn f)) m (fun i hi => by
    show (if i < m + 1 then _ else _, _) = (if i < m then _ else _, _)
    by_cases c : i < m
    · rw [if_pos c, if_pos (by omega)]
    · rw [if_neg c, if_neg (by omega)])
  refine congrArg (fun l => mkD s.room l [] _) (Eq.trans ?_ e)
  show List.set _ m _ = List.set _ m _
  rw [if_pos (Nat.lt_succ_self m)]; rfl

/-! ### what a disk by definition gives -/
theorem RX.cut (h : RX w r B s) : RX w r (fun b => B b ∧ b < w.heap.size) s := by
  obtain ⟨vf, vd, vs, va, vn, h, h0, h1, h2, h3, h4, h5⟩ := h
  exact ⟨vf, vd, vs, va, vn, h, ⟨h0, h.lt r (.inl rfl)⟩, fun b hb => ⟨h1 b hb, h.lt b (.inr hb)⟩, fun b hb => ⟨h2 b hb, h.dir.lt b hb⟩, fun b hb => ⟨h3 b hb, h.sure.lt b hb⟩, fun b hb => ⟨h4 b hb, h.acts.lt b hb⟩, fun b hb => ⟨h5 b hb, h.fails.lt b hb⟩⟩
/-- the sure directory, set to a row of its own, to the one there was, or to a new one -/
theorem RX.sure_any (h : RX w r B s) : ∃ vs, w.cell? ⟨r, 2, none⟩ = some vs ∧ Rw nmC 2 w vs s.sure ∧ (∀ o, w.frozen? ⟨r, o, none⟩ = false) ∧
    ∀ w1 v l, Frm (fun _ => False) w w1 → Rw nmC 2 w1 v l → (v = vs ∨ (∀ b, v.ownBlock = some b → w.heap.size ≤ b) ∨ (∀ b, v.ownBlock = some b → ¬ B b)) → (∀ b, B b → C b) → (∀ b, v.ownBlock = some b → C b) →
      RX (w1.setCell ⟨r, 2, none⟩ v) r C { s with sure := l } ∧ Frm B w (w1.setCell ⟨r, 2, none⟩ v) := by
  obtain ⟨vf, vd, vs, va, vn, h, h0, h1, h2, h3, h4, h5⟩ := h
  refine ⟨vs, h.c2, h.sure, h.fz.frozen, fun w1 v l hf hl hv hBC hC => ⟨⟨vf, vd, v, va, vn, (h.keep hf).set_sure hl (fun b hb hin => ?_), hBC _ h0, fun b hb => hBC _ (h1 b hb), fun b hb => hBC _ (h2 b hb), hC, fun b hb => hBC _ (h4 b hb), fun b hb => hBC _ (h5 b hb)⟩, ?_⟩⟩
  · have hB : B b := by
      rcases hin with rfl | hin
      · exact h0
      · exact h1 b hin
    rcases hv with rfl | hv | hv
    · exact h.ns b hb hin
    · have := hv b hb
      have := h.lt b hin
      omega
    · exact hv b hb hB
  · exact (hf.mono (fun _ _ h => h.elim)).setCell (p := ⟨r, 2, none⟩) (fun _ => h0) _
theorem RX.set_dir_sure (h : RX w r B s) : ∃ vs, w.cell? ⟨r, 2, none⟩ = some vs ∧ (∀ o, w.frozen? ⟨r, o, none⟩ = false) ∧ RX (w.setCell ⟨r, 1, none⟩ vs) r B { s with dir := s.sure } ∧ Frm B w (w.setCell ⟨r, 1, none⟩ vs) := by
  obtain ⟨vf, vd, vs, va, vn, h, h0, h1, h2, h3, h4, h5⟩ := h
  exact ⟨vs, h.c2, h.fz.frozen, ⟨vf, vs, vs, va, vn, h.set_dir h.sure h.ns, h0, h1, h3, h3, h4, h5⟩, (Frm.refl B w).setCell (p := ⟨r, 1, none⟩) (fun _ => h0) _⟩
end Go.Proofs.Ytngickhakedonaa

namespace Go.Proofs.Ytngickhakedonaa
open Go.RowKit Go.Tk Go.Dk

/-! ### how great a disk is, behind so many steps -/
def actN : DAct → Prop | .mk n _ => okName n = true | .mv _ b => okName b = true | _ => True
structure Sz (s : DS) (k M : Nat) : Prop where
  fl : s.files.length ≤ k
  al : s.acts.length ≤ 2 * k
  nl : s.fails.length ≤ 2 * k
  n : s.n ≤ k
  sz : ∀ j, (getF s j).1.size ≤ k * M
  room : 0 ≤ s.room
  dn : ∀ x ∈ s.dir, okName x.1 = true
  sn : ∀ x ∈ s.sure, okName x.1 = true
  an : ∀ a ∈ s.acts, actN a

variable {s t : DS} {k k' M n m : Nat}
theorem Sz.mono (h : Sz s k M) (hk : k ≤ k') : Sz s k' M :=
  ⟨Nat.le_trans h.fl hk, by have := h.al; omega, by have := h.nl; omega, Nat.le_trans h.n hk, fun j => Nat.le_trans (h.sz j) (Nat.mul_le_mul_right M hk), h.room, h.dn, h.sn, h.an⟩
theorem okName_size {b : ByteArray} (h : okName b = true) : b.size ≤ 80 := by
  unfold okName at h
  simp only [Bool.and_eq_true, decide_eq_true_eq] at h
  exact h.2
theorem wi_n {l : List Nm} {n : ByteArray} {j : Nat} (h : ∀ x ∈ l, okName x.1 = true) (hn : okName n = true) : ∀ x ∈ wi l n j, okName x.1 = true := by
  intro x hx
  rcases List.mem_cons.1 ((wi_perm _ _ _).mem_iff.1 hx) with rfl | hx
  · exact hn
  · exact h x hx
theorem wo_n {l : List Nm} {n : ByteArray} (h : ∀ x ∈ l, okName x.1 = true) : ∀ x ∈ wo l n, okName x.1 = true := fun x hx => h x ((wo_sub _ _).subset hx)
theorem doneD_n {l : List Nm} {a : DAct} (h : ∀ x ∈ l, okName x.1 = true) (ha : actN a) : ∀ x ∈ doneD l a, okName x.1 = true := by
  cases a with
  | mk n j => exact wi_n h ha
  | mv a b => exact wi_n (wo_n (wo_n h)) ha
  | rm n => exact wo_n h
  | put j n => exact h
theorem replay_n : ∀ (az : List DAct) (l : List Nm), (∀ x ∈ l, okName x.1 = true) → (∀ a ∈ az, actN a) → ∀ x ∈ replay l az, okName x.1 = true
  | [], _, h, _ => h
  | a :: az, _, h, ha => replay_n az _ (doneD_n h (ha a (by simp))) (fun b hb => ha b (List.mem_cons_of_mem _ hb))
theorem flen (p : DAct → Bool) (l : List DAct) (h : l.length ≤ n) : (l.filter p).length ≤ n := Nat.le_trans (List.length_filter_le _ _) h

theorem Sz.tick (h : Sz s k M) : Sz { s with n := s.n + 1 } (k + 1) M := by
  have h' := h.mono (Nat.le_succ k)
  exact ⟨h'.fl, h'.al, h'.nl, Nat.succ_le_succ h.n, h'.sz, h'.room, h'.dn, h'.sn, h'.an⟩
theorem Sz.off (h : Sz s k M) (b : Bool) : Sz { s with off := b } k M := ⟨h.fl, h.al, h.nl, h.n, h.sz, h.room, h.dn, h.sn, h.an⟩
theorem Sz.cut (h : Sz s k M) (b : Bool) (n : Int) : Sz { s with off := b, cut := n } k M := ⟨h.fl, h.al, h.nl, h.n, h.sz, h.room, h.dn, h.sn, h.an⟩
theorem Sz.setRoom (h : Sz s k M) (n : Int) : Sz { s with room := max n 0 } k M := ⟨h.fl, h.al, h.nl, h.n, h.sz, by show 0 ≤ max n 0; omega, h.dn, h.sn, h.an⟩
theorem Sz.addFails (h : Sz s k M) (a b : Int) : Sz { s with fails := s.fails ++ [a, b] } (k + 1) M := by
  have h' := h.mono (Nat.le_succ k)
  exact ⟨h'.fl, h'.al, by have := h.nl; show (s.fails ++ [a, b]).length ≤ _; simp; omega, h'.n, h'.sz, h'.room, h'.dn, h'.sn, h'.an⟩
theorem Sz.fresh (n : Int) (h : 0 ≤ n) : Sz (newDS n) k M :=
  ⟨Nat.zero_le _, Nat.zero_le _, Nat.zero_le _, Nat.zero_le _, fun j => (show (0 : Nat) ≤ _ from Nat.zero_le _), h, (fun _ h => by cases h), (fun _ h => by cases h), (fun _ h => by cases h)⟩
theorem getF_set_size {j : Nat} {x : Fl} {m : Nat} (e : t.files = s.files.set j x) (hx : x.1.size ≤ m) (h : ∀ i, (getF s i).1.size ≤ m) : ∀ i, (getF t i).1.size ≤ m := by
  intro i
  rcases Nat.lt_or_ge j s.files.length with hj | hj
  · rw [getF_set hj e]
    split
    · exact hx
    · exact h i
  · have e2 : t.files = s.files := by rw [e, List.set_eq_of_length_le hj]
    have : getF t i = getF s i := by unfold getF; rw [e2]
    rw [this]; exact h i
theorem Sz.setFile (h : Sz s k M) {j : Nat} {x : Fl} (hx : x.1.size ≤ k * M) : Sz { s with files := s.files.set j x } k M :=
  ⟨by show (s.files.set j x).length ≤ k; rw [List.length_set]; exact h.fl, h.al, h.nl, h.n, getF_set_size rfl hx h.sz, h.room, h.dn, h.sn, h.an⟩
theorem Sz.acts (h : Sz s k M) (p : DAct → Bool) : Sz { s with acts := s.acts.filter p } k M :=
  ⟨h.fl, flen p _ h.al, h.nl, h.n, h.sz, h.room, h.dn, h.sn, fun a ha => h.an a (List.mem_filter.1 ha).1⟩
theorem ex_size (b : ByteArray) (i j : Nat) (h : b.size ≤ n) : (b.extract i j).size ≤ n := by rw [ByteArray.size_extract]; omega
theorem Sz.fail (h : Sz s k M) (kind j : Nat) : Sz (failD s kind j) k M := by
  unfold failD
  split
  · exact (h.setFile (j := j) (ex_size _ _ _ (h.sz j))).acts _
  · split
    · have := h.acts (lsA (-1))
      exact ⟨this.fl, this.al, this.nl, this.n, this.sz, this.room, h.sn, this.sn, this.an⟩
    · exact h
theorem Sz.does (h : Sz s k M) (hk : s.files.length < k) (ha : s.acts.length + 2 ≤ 2 * k) (hs : ∀ j, (getF s j).1.size + M ≤ k * M) {kind : Nat} {name too b : ByteArray} (hb : b.size ≤ M) (hn : kind ≠ 3 → okName name = true) (ht : kind = 4 → okName too = true) : Sz (doesD s kind name too b) k M := by
  have hput : ∀ (s : DS) j, Sz s k M → s.acts.length + 1 ≤ 2 * k → (∀ j, (getF s j).1.size + M ≤ k * M) → Sz (putD s j b) k M := by
    intro s j h ha hs
    unfold putD
    split
    · exact h
    · refine ⟨by show (s.files.set _ _).length ≤ _; rw [List.length_set]; exact h.fl, by show (s.acts ++ [_]).length ≤ _; simp; omega, h.nl, h.n, getF_set_size (s := s) rfl ?_ h.sz, h.room, h.dn, h.sn, fun a ha => ?_⟩
      · show ((getF s j).1 ++ b).size ≤ _
        rw [ByteArray.size_append]
        have := hs j
        omega
      · rcases List.mem_append.1 ha with ha | ha
        · exact h.an a ha
        · simp at ha; rw [ha]; trivial
  unfold doesD
  match kind with
  | 0 =>
    cases hf : ofI s.dir name with
    | some j => exact hput s j h (by omega) hs
    | none =>
      refine hput _ _ ?_ (by show (s.acts ++ [_]).length + 1 ≤ _; simp; omega) (fun j => by rw [getF_newD]; exact hs j)
      refine ⟨by show (s.files ++ [_]).length ≤ k; simp; omega, by show (s.acts ++ [_]).length ≤ _; simp; omega, h.nl, h.n, fun j => by rw [getF_newD]; exact h.sz j, h.room, wi_n h.dn (hn (by decide)), h.sn, fun a ha => ?_⟩
      rcases List.mem_append.1 ha with ha | ha
      · exact h.an a ha
      · simp at ha; rw [ha]; exact hn (by decide)
  | 1 => exact h
  | 2 => exact (h.setFile (j := (ofI s.dir name).getD 0) (x := ((getF s ((ofI s.dir name).getD 0)).1, (getF s ((ofI s.dir name).getD 0)).1.size)) (h.sz _)).acts _
  | 3 =>
    have := h.acts (lsA (-1))
    exact ⟨this.fl, this.al, this.nl, this.n, this.sz, this.room, h.dn, h.dn, this.an⟩
  | 4 =>
    show Sz (if name = too then s else _) k M
    split
    · exact h
    · refine ⟨h.fl, by show (s.acts ++ [_]).length ≤ _; simp; omega, h.nl, h.n, h.sz, h.room, doneD_n (a := .mv name too) h.dn (ht rfl), h.sn, fun a ha => ?_⟩
      rcases List.mem_append.1 ha with ha | ha
      · exact h.an a ha
      · simp at ha; rw [ha]; exact ht rfl
  | 5 =>
    refine ⟨h.fl, by show (s.acts ++ [_]).length ≤ _; simp; omega, h.nl, h.n, h.sz, h.room, wo_n h.dn, h.sn, fun a ha => ?_⟩
    rcases List.mem_append.1 ha with ha | ha
    · exact h.an a ha
    · simp at ha; rw [ha]; trivial
  | (n + 6) => exact h
theorem Sz.do (h : Sz s k M) (kind : Nat) {name too b : ByteArray} (hb : b.size ≤ M) : Sz (doD s kind name too b).2.2 (k + 1) M := by
  unfold doD
  split
  · exact (h.mono (Nat.le_succ k)).off true
  split
  · exact h.tick
  rename_i hnm
  split
  · exact h.tick
  split
  · exact h.tick
  split
  · exact h.tick.fail _ _
  · refine h.tick.does (by have := h.fl; show s.files.length < _; omega) (by have := h.al; show s.acts.length + 2 ≤ _; omega) (fun j => by rw [Nat.succ_mul]; exact Nat.add_le_add_right (h.sz j) M) hb (fun e => ?_) (fun e => ?_)
    · cases ho : okName name with
      | true => rfl
      | false => exact absurd (.inl ⟨e, ho⟩) hnm
    · cases ho : okName too with
      | true => rfl
      | false => exact absurd (.inr ⟨e, ho⟩) hnm
theorem Sz.turn (h : Sz s k M) (name : ByteArray) (p : Int) (v : Nat) : Sz (turnD s name p v).2 k M := by
  unfold turnD
  split
  · exact h
  · split
    · exact h
    · exact h.setFile (by show (xorB _ _ _).size ≤ _; rw [xorB_size]; exact h.sz _)
theorem Sz.readAt (h : Sz s k M) (name : ByteArray) (p c : Int) : Sz (readAtD s name p c).2.2 (k + 1) M := by
  unfold readAtD
  split
  · exact (h.mono (Nat.le_succ k)).off true
  split
  · exact h.tick
  split
  · exact h.tick
  repeat' split
  all_goals exact h.tick
theorem Sz.crash (h : Sz s k M) (keep torn : Int) : Sz (crashD s keep torn) k M := by
  have hr : ∀ x ∈ replay s.sure (s.acts.take keep.toNat), okName x.1 = true := replay_n _ _ h.sn (fun a ha => h.an a (List.take_subset _ _ ha))
  refine ⟨by rw [crash_len]; exact h.fl, Nat.zero_le _, Nat.zero_le _, Nat.zero_le _, fun j => ?_, h.room, hr, hr, (fun a ha => by cases ha)⟩
  rcases Nat.lt_or_ge j s.files.length with hj | hj
  · rw [getF_crash keep torn hj]
    exact ex_size _ _ _ (h.sz j)
  · have : getF (crashD s keep torn) j = (⟨#[]⟩, 0) := by
      unfold getF; rw [List.getD_eq_getElem?_getD, List.getElem?_eq_none (by rw [crash_len]; exact hj)]; rfl
    rw [this]; exact Nat.zero_le _

theorem nodup_len : ∀ (n : Nat) (l : List Nat), l.Nodup → (∀ x ∈ l, x < n) → l.length ≤ n
  | n, l, hd, hl => by
    have := List.Nodup.length_le_of_subset hd (l₂ := List.range n) (fun x hx => List.mem_range.2 (hl x hx))
    simpa using this
theorem Inv.dirlen (h : Inv s) : s.dir.length ≤ s.files.length := by
  have := nodup_len s.files.length (s.dir.map (·.2)) h.dok.vals (fun x hx => by obtain ⟨y, hy, rfl⟩ := List.mem_map.1 hx; exact h.dlt y hy)
  simpa using this
theorem Inv.surelen (h : Inv s) : s.sure.length ≤ s.files.length := by
  have := nodup_len s.files.length (s.sure.map (·.2)) h.ok.vals (fun x hx => by obtain ⟨y, hy, rfl⟩ := List.mem_map.1 hx; exact h.slt y hy)
  simpa using this
theorem used_le (h : ∀ j, (getF s j).1.size ≤ m) : used s ≤ s.dir.length * m := by
  have : ∀ l : List Nm, (l.map fun x => fsize s x.2).sum ≤ l.length * m := by
    intro l
    induction l with
    | nil => exact Nat.zero_le _
    | cons x l ih =>
      rw [List.map_cons, List.sum_cons, List.length_cons, Nat.succ_mul]
      have : fsize s x.2 ≤ m := h x.2
      omega
  exact this _
theorem Inv.wf (h : Inv s) (hz : Sz s k M) (hk : k ≤ 210) (hM : M ≤ 1048576) : Wf s ∧ used s ≤ 100000000000 ∧ ∀ j, (getF s j).1.size ≤ 1000000000 := by
  have hkM : k * M ≤ 210 * 1048576 := Nat.mul_le_mul hk hM
  have hsz : ∀ j, (getF s j).1.size ≤ 210 * 1048576 := fun j => Nat.le_trans (hz.sz j) hkM
  have hdl := h.dirlen
  have hfl := hz.fl
  have hus : used s ≤ 100000000000 := by
    have h1 := used_le hsz
    have h2 : s.dir.length * (210 * 1048576) ≤ 210 * (210 * 1048576) := Nat.mul_le_mul_right _ (by omega)
    omega
  refine ⟨⟨by omega, by have := hz.al; omega, by omega, by have := hz.nl; omega, by have := hz.n; omega, h.dlt, hus, fun j => ⟨?_, by have := hsz j; omega⟩⟩, hus, fun j => by have := hsz j; omega⟩
  rcases Nat.lt_or_ge j s.files.length with hj | hj
  · have := h.sums j hj; omega
  · have : getF s j = (⟨#[]⟩, 0) := by
      unfold getF; rw [List.getD_eq_getElem?_getD, List.getElem?_eq_none hj]; rfl
    rw [this]; exact Nat.le_refl _
end Go.Proofs.Ytngickhakedonaa

namespace Go.Proofs.Ytngickhakedonaa
open Go.RowKit Go.Tk Go.Dk

/-! ### both disks, side by side -/
structure Two (base : Nat) (w : World) (d r : Nat) (L : PL) (B : Nat → Prop) (s t : DS) : Prop where
  p : PD w d L s
  q : RX w r B t
  lb : ∀ b, L.role b ≠ .free → base ≤ b ∧ ¬ B b
  bb : ∀ b, B b → base ≤ b ∧ b < w.heap.size
  hb : base ≤ w.heap.size

variable {base : Nat} {w w' w1 w2 : World} {d r : Nat} {L L' : PL} {B : Nat → Prop} {s s' t t' : DS}
theorem Two.keep (h : Two base w d r L B s t) (hf : Frm (fun _ => False) w w') : Two base w' d r L B s t :=
  ⟨h.p.keep hf, RX.keep h.q hf, h.lb, fun b hb => ⟨(h.bb b hb).1, Nat.lt_of_lt_of_le (h.bb b hb).2 hf.size⟩, Nat.le_trans h.hb hf.size⟩
theorem Two.pstep (h : Two base w d r L B s t) (hp : PD w' d L' s') (hs : PStep w w' L L') : Two base w' d r L' B s' t ∧ Frm (fun b => base ≤ b) w w' := by
  refine ⟨⟨hp, h.q.frm hs.frm (fun b hb hr => (h.lb b hr).2 hb), fun b hb => ?_, fun b hb => ⟨(h.bb b hb).1, Nat.lt_of_lt_of_le (h.bb b hb).2 hs.frm.size⟩, Nat.le_trans h.hb hs.frm.size⟩, hs.frm.mono (fun b _ hb => (h.lb b hb).1)⟩
  rcases hs.new b hb with h1 | h1
  · exact h.lb b h1
  · exact ⟨Nat.le_trans h.hb h1.1, fun hB => by have := (h.bb b hB).2; omega⟩
theorem Two.pd (h : Two base w d r L B s t) (hp : PD w' d L s') (hf : Frm (· = d) w w') : Two base w' d r L B s' t ∧ Frm (fun b => base ≤ b) w w' :=
  h.pstep hp (PStep.of_frm hf (fun b hb => by rw [hb, h.p.r0]; simp) rfl)
theorem Two.rsame (h : Two base w d r L B s t) (hq : RX w' r B t') (hf : Frm B w w') : Two base w' d r L B s t' ∧ Frm (fun b => base ≤ b) w w' :=
  ⟨⟨h.p.frm hf (fun b hb hB => (h.lb b hb).2 hB), hq, h.lb, fun b hb => ⟨(h.bb b hb).1, Nat.lt_of_lt_of_le (h.bb b hb).2 hf.size⟩, Nat.le_trans h.hb hf.size⟩, hf.mono (fun b _ hb => (h.bb b hb).1)⟩
theorem Two.rstep (h : Two base w d r L B s t) (hq : RX w' r (up w w' B) t') (hf : Frm B w w') : Two base w' d r L (up w w' B) s t' ∧ Frm (fun b => base ≤ b) w w' := by
  refine ⟨⟨h.p.frm hf (fun b hb hB => (h.lb b hb).2 hB), hq, fun b hb => ⟨(h.lb b hb).1, fun hu => ?_⟩, fun b hb => ?_, Nat.le_trans h.hb hf.size⟩, hf.mono (fun b _ hb => (h.bb b hb).1)⟩
  · rcases hu with hu | hu
    · exact (h.lb b hb).2 hu
    · have := h.p.rb b hb; omega
  · rcases hb with hb | hb
    · exact ⟨(h.bb b hb).1, Nat.lt_of_lt_of_le (h.bb b hb).2 hf.size⟩
    · exact ⟨Nat.le_trans h.hb hb.1, hb.2⟩
/-- one writes a block of its own -/
theorem Two.own (h : Two base w d r L B s t) {c : Nat} (hf : Frm (fun b => b = c) w w') (h1 : L.role c = .free) (h2 : ¬ B c) : Two base w' d r L B s t :=
  ⟨h.p.frm hf (fun b hb e => hb (e ▸ h1)), h.q.frm hf (fun b hb e => h2 (e ▸ hb)), h.lb, fun b hb => ⟨(h.bb b hb).1, Nat.lt_of_lt_of_le (h.bb b hb).2 hf.size⟩, Nat.le_trans h.hb hf.size⟩
theorem Two.freeL (h : Two base w d r L B s t) {c : Nat} (hc : w.heap.size ≤ c ∨ c < base) : L.role c = .free := by
  cases hr : L.role c with
  | free => rfl
  | _ =>
    have h1 := h.p.rb c (by rw [hr]; simp)
    have h2 := (h.lb c (by rw [hr]; simp)).1
    omega
theorem Two.freeB (h : Two base w d r L B s t) {c : Nat} (hc : w.heap.size ≤ c ∨ c < base) : ¬ B c := fun hB => by have := h.bb c hB; omega
theorem Two.crash {X x : Nat} {Lx : PL} (h : Two base w d r L B s t) (hf1 : Frm (fun _ => False) w w1) (hp : PD w1 X Lx s') (hl : ∀ b, Lx.role b ≠ .free → w.heap.size ≤ b) (hf2 : Frm (fun _ => False) w1 w2) (hq : RX w2 x (fun b => B b ∨ w1.heap.size ≤ b) t') :
    Two base w2 X x Lx (fun b => (B b ∨ w1.heap.size ≤ b) ∧ b < w2.heap.size) s' t' := by
  refine ⟨hp.keep hf2, RX.cut hq, fun b hb => ⟨Nat.le_trans h.hb (hl b hb), fun hB => ?_⟩, fun b hb => ⟨?_, hb.2⟩, Nat.le_trans h.hb (Nat.le_trans hf1.size hf2.size)⟩
  · have h1 := hl b hb
    have h2 := hp.rb b hb
    rcases hB.1 with hB | hB
    · have := (h.bb b hB).2; omega
    · omega
  · rcases hb.1 with hB | hB
    · exact (h.bb b hB).1
    · exact Nat.le_trans h.hb (Nat.le_trans hf1.size hB)

def Both (base : Nat) (w : World) (d r : Nat) (s : DS) : Prop := ∃ L B, Two base w d r L B s s

/-! ### an operation of the law's, and what it does -/
structure Op3 where
  kind : Int
  name : ByteArray
  too : ByteArray
  b : ByteArray
  n : Int
  torn : Int
  ba : Option Addr
  bc : Nat
def four (i : Int) : ByteArray := if i = 0 then ⟨#[97]⟩ else if i = 1 then ⟨#[98]⟩ else if i = 2 then ⟨#[99]⟩ else ⟨#[108, 111, 110, 103, 45, 110, 97, 109, 101, 126]⟩
def namedD (s : ByteArray) (c : Int) : ByteArray := if c.tmod 5 = 0 then s else four (pickI c 4)
def Op3.nm (o : Op3) : ByteArray := namedD o.name o.n
def Op3.to (o : Op3) : ByteArray := namedD o.too o.torn
def stepD (s : DS) (o : Op3) : DS :=
  if pickI o.kind 15 = 0 ∨ pickI o.kind 15 = 1 ∨ pickI o.kind 15 = 2 then (doD s 0 o.nm ⟨#[]⟩ o.b).2.2
  else if pickI o.kind 15 = 3 then (doD s 1 o.nm ⟨#[]⟩ ⟨#[]⟩).2.2
  else if pickI o.kind 15 = 4 ∨ pickI o.kind 15 = 5 then (doD s 2 o.nm ⟨#[]⟩ ⟨#[]⟩).2.2
  else if pickI o.kind 15 = 6 then (doD s 3 ⟨#[]⟩ ⟨#[]⟩ ⟨#[]⟩).2.2
  else if pickI o.kind 15 = 7 then (doD s 4 o.nm o.to ⟨#[]⟩).2.2
  else if pickI o.kind 15 = 8 then (doD s 5 o.nm ⟨#[]⟩ ⟨#[]⟩).2.2
  else if pickI o.kind 15 = 9 then { s with off := false, cut := if 0 ≤ o.n then s.n + o.n.tmod 20 else -1 }
  else if pickI o.kind 15 = 10 then { s with fails := s.fails ++ [s.n + pickI o.n 12, s.n + pickI o.n 12 + pickI o.torn 9] }
  else if pickI o.kind 15 = 11 then { s with room := max o.n 0 }
  else if pickI o.kind 15 = 12 then (turnD s o.nm o.n (o.torn % 256).toNat).2
  else if pickI o.kind 15 = 13 then crashD s o.n o.torn
  else (readAtD s o.nm o.n o.torn).2.2
theorem ite_P {P : DS → Prop} {p : Prop} [Decidable p] {a b : DS} (ha : P a) (hb : P b) : P (if p then a else b) := by
  by_cases h : p
  · rw [if_pos h]; exact ha
  · rw [if_neg h]; exact hb
theorem Inv.step {s : DS} (h : Inv s) (o : Op3) : Inv (stepD s o) := by
  have hc : ∀ (t : DS), t.files = s.files → t.dir = s.dir → t.sure = s.sure → t.acts = s.acts → Inv t := fun t e1 e2 e3 e4 => h.of_same e1 e2 e3 e4
  unfold stepD
  refine ite_P (P := Inv) (h.do _ _ _ _) (ite_P (P := Inv) (h.do _ _ _ _) (ite_P (P := Inv) (h.do _ _ _ _) (ite_P (P := Inv) (h.do _ _ _ _) (ite_P (P := Inv) (h.do _ _ _ _) (ite_P (P := Inv) (h.do _ _ _ _) (ite_P (P := Inv) (hc _ rfl rfl rfl rfl) (ite_P (P := Inv) (hc _ rfl rfl rfl rfl) (ite_P (P := Inv) (hc _ rfl rfl rfl rfl) (ite_P (P := Inv) (h.turn _ _ _) (ite_P (P := Inv) (h.crash _ _) ?_))))))))))
  unfold readAtD
  repeat' split
  all_goals exact hc _ rfl rfl rfl rfl
theorem Sz.step {s : DS} {k M : Nat} (h : Sz s k M) (o : Op3) (hb : o.b.size ≤ M) : Sz (stepD s o) (k + 1) M := by
  have h1 := h.mono (Nat.le_succ k)
  have hz : (⟨#[]⟩ : ByteArray).size ≤ M := Nat.zero_le _
  unfold stepD
  exact ite_P (P := fun t => Sz t (k + 1) M) (h.do _ hb) (ite_P (P := fun t => Sz t (k + 1) M) (h.do _ hz) (ite_P (P := fun t => Sz t (k + 1) M) (h.do _ hz) (ite_P (P := fun t => Sz t (k + 1) M) (h.do _ hz) (ite_P (P := fun t => Sz t (k + 1) M) (h.do _ hz) (ite_P (P := fun t => Sz t (k + 1) M) (h.do _ hz) (ite_P (P := fun t => Sz t (k + 1) M) (h1.cut _ _) (ite_P (P := fun t => Sz t (k + 1) M) (h.addFails _ _) (ite_P (P := fun t => Sz t (k + 1) M) (h1.setRoom _) (ite_P (P := fun t => Sz t (k + 1) M) (h1.turn _ _ _) (ite_P (P := fun t => Sz t (k + 1) M) (h1.crash _ _) (h.readAt _ _ _)))))))))))
end Go.Proofs.Ytngickhakedonaa

namespace Go.Proofs.Ytngickhakedonaa
open Go.RowKit Go.Tk Go.Dk

/-! ### bytes that came in, or that were made -/
theorem add_pl (b off i : Nat) : (⟨b, off, none⟩ : Addr).add i = ⟨b, off + i, none⟩ := by
  by_cases h : i = 0
  · subst h; rfl
  · simp [Addr.add, h]
theorem add_block (a : Addr) (j : Nat) : (a.add j).block = a.block := by unfold Addr.add; split <;> rfl
/-- a slice of bytes that reads x -/
def Reads (w : World) (ao : Option Addr) (x : ByteArray) : Prop := (ao = none → x.size = 0) ∧ ∀ a, ao = some a → ∀ j u, (byC x)[j]? = some u → w.cell? (a.add j) = some u
theorem Reads.frm {S : Nat → Prop} {w w' : World} {ao : Option Addr} {x : ByteArray} (h : Reads w ao x) (hf : Frm S w w') (hn : ∀ a, ao = some a → 0 < x.size → ¬ S a.block) : Reads w' ao x := by
  refine ⟨h.1, fun a ha j u hu => ?_⟩
  have h1 := h.2 a ha j u hu
  have hj := (List.getElem?_eq_some_iff.1 hu).1
  rw [byC_len] at hj
  exact (hf.cell (p := a.add j) (World.block_lt_of_cell? _ _ h1) (by rw [add_block]; exact hn a ha (by omega))).trans h1
theorem conv_reads {w : World} {ao : Option Addr} {x : ByteArray} (h : Reads w ao x) (cap : Nat) : (convert 45 9 (.slice ao x.size cap)).run Try.prog w = .ok (.string x) w := by
  cases ao with
  | none =>
    have h0 := h.1 rfl
    have e : x = ⟨#[]⟩ := by
      apply ByteArray.ext
      exact Array.eq_empty_of_size_eq_zero h0
    rw [h0, e]
    exact Lib.run_convert_nil_bytes (P := Try.prog) w 45 9 5 cap Try.underlying45 Try.underlying5 Try.underlying9
  | some a =>
    have hl : x.data.toList.length = x.size := by simp
    have := run_convert_bytes_back (P := Try.prog) w 45 9 5 a cap x.data.toList Try.underlying45 Try.underlying5 Try.underlying9 (fun j hj => h.2 a rfl j _ (byC_get x j hj))
    rw [hl] at this
    rw [this]
theorem wpList_append_run {P : Program} {ops : Array Oper} {rest : List Oper} {o : Oper} {a : Act} {w : World} {Q : Exit → Act → World → Prop} (hgd : o.guard = none) (s x : Operand) (t : TypeId)
    (ho : o.op = .call { callee := .builtin .append, args := #[s, x], argTypes := #[t, t] }) {v u v' : Value} {w' : World} (hs : a.eval s = v) (hx : a.eval x = u) (hr : (Builtin.append_ #[t, t] o.type #[v, u]).run P w = .ok v' w')
    (h : wpList P ops Q rest (a.put o.dst v') w') : wpList P ops Q (o :: rest) a w := by
  refine wpList_plain hgd fun K hK => ?_
  unfold Oper.wp execOp
  simp only [ho, resolve, invoke, builtin, Sem.run_bind, Sem.run_pure, Result.andThen_ok, List.map_toArray, List.map_cons, List.map_nil, hs, hx, hr]
  exact hK _ _ h
theorem bytes_copy {w : World} {ao : Option Addr} {x : ByteArray} (h : Reads w ao x) (cap : Nat) (hc : x.size ≤ cap) (hx : x.size ≤ 1000000000000) :
    ∃ bo bc w', (Builtin.append_ #[45, 45] 45 #[.slice none 0 0, .slice ao x.size cap]).run Try.prog w = .ok (.slice bo x.size bc) w' ∧ BV w' (.slice bo x.size bc) x ∧ Frm (fun _ => False) w w' ∧ (∀ b, (Value.slice bo x.size bc).ownBlock = some b → w.heap.size ≤ b) ∧ x.size ≤ bc := by
  obtain ⟨i0, hi, hz0, hz1, hz2⟩ := info_parts info5
  cases ao with
  | none =>
    have h0 := h.1 rfl
    have e : x = ⟨#[]⟩ := by
      apply ByteArray.ext
      exact Array.eq_empty_of_size_eq_zero h0
    subst e
    obtain rfl | hcap := Nat.eq_zero_or_pos cap
    · exact ⟨none, 0, w, run_append_owned_none (P := Try.prog) w 0 45 45 5 i0 1 Try.underlying45 hi _ 0 [] (World.ownsRow_nil _ _ _ _), World.ownsRow_nil _ _ _ _, Frm.refl _ _, (fun b hb => by cases hb), Nat.le_refl _⟩
    · refine ⟨none, 0, w, ?_, World.ownsRow_nil _ _ _ _, Frm.refl _ _, (fun b hb => by cases hb), Nat.le_refl _⟩
      show (Builtin.append_ #[45, 45] 45 #[.slice none 0 0, .slice none 0 cap]).run Try.prog w = .ok (.slice none 0 0) w
      simp [Builtin.append_, run_underlying Try.underlying45, sizeOf, typeInfo, hi, Builtin.lenOf, Builtin.firstCells, loadCells, loadCellsFrom]
  | some a =>
    obtain ⟨v', w', h1, h2, h3, h4, h5⟩ := run_append_own_at (P := Try.prog) w 0 45 45 5 i0 _ 1 1 Try.underlying45 hi hz0 hz1 hz2 rfl (by decide) (.slice none 0 0) 0 [] (World.ownsRow_nil _ _ _ _) a x.size cap (byC x) (by rw [byC_len, Nat.mul_one]) (h.2 a rfl) (byC_one x) (by unfold maxLen; omega) (by omega) (Nat.zero_le _)
    rw [Nat.zero_add, List.nil_append] at h2
    obtain ⟨bo, bc, e', hle, _⟩ := row_slice h2
    subst e'
    refine ⟨bo, bc, w', h1, h2, Frm.of_grown (S := fun _ => False) h3 (fun k hk _ => by cases hk), fun b hb => ?_, hle⟩
    rcases h5 with h5 | h5
    · rw [h5] at hb; cases hb
    · rw [h5] at hb; cases hb; exact Nat.le_refl _
theorem BV.reads {w : World} {ao : Option Addr} {n c : Nat} {x : ByteArray} (h : BV w (.slice ao n c) x) : Reads w ao x := by
  refine ⟨fun e => ?_, fun a ha => bv_cells h (by rw [ha])⟩
  rcases h.2 with ⟨_, h0⟩ | ⟨g, cap, cur, e1, _⟩
  · exact h0
  · injection e1 with e2; rw [e] at e2; cases e2
/-- its cells may be written: one is -/
structure Own (w : World) (ao : Option Addr) (n : Nat) : Prop where
  at_ : 0 < n → ∃ g, ao = some ⟨g, 0, none⟩ ∧ (∀ o, w.frozen? ⟨g, o, none⟩ = false) ∧ ∀ j, j < n → ∃ u, w.cell? ⟨g, j, none⟩ = some u
theorem BV.own {w : World} {ao : Option Addr} {n c : Nat} {x : ByteArray} (h : BV w (.slice ao n c) x) (hn : n = x.size) : Own w ao n := by
  refine ⟨fun hp => ?_⟩
  rcases h.2 with ⟨_, h0⟩ | ⟨g, cap, cur, e1, _, hg, _⟩
  · omega
  · injection e1 with e2
    subst e2
    refine ⟨g, rfl, fun o => by simp [World.frozen?, hg], fun j hj => ?_⟩
    have := bv_cells h rfl j _ (List.getElem?_eq_getElem (by rw [byC_len]; omega))
    rw [add_pl, Nat.zero_add] at this
    exact ⟨_, this⟩
theorem Own.set {w : World} {ao : Option Addr} {n : Nat} (h : Own w ao n) (a : Addr) (v : Value) : Own (w.setCell a v) ao n := by
  refine ⟨fun hp => ?_⟩
  obtain ⟨g, e, h1, h2⟩ := h.at_ hp
  refine ⟨g, e, fun o => by rw [set_fz]; exact h1 o, fun j hj => ?_⟩
  obtain ⟨u, hu⟩ := h2 j hj
  exact set_some w a v hu
theorem Own.frm {S : Nat → Prop} {w w' : World} {ao : Option Addr} {n c : Nat} (h : Own w ao n) (hf : Frm S w w') (hn : ∀ b, (Value.slice ao n c).ownBlock = some b → ¬ S b) : Own w' ao n := by
  refine ⟨fun hp => ?_⟩
  obtain ⟨g, e, h1, h2⟩ := h.at_ hp
  subst e
  have hS := hn g rfl
  obtain ⟨u0, hu0⟩ := h2 0 hp
  have hlt := World.block_lt_of_cell? _ _ hu0
  refine ⟨g, rfl, fun o => (hf.frozen (p := ⟨g, o, none⟩) hlt hS).trans (h1 o), fun j hj => ?_⟩
  obtain ⟨u, hu⟩ := h2 j hj
  exact ⟨u, (hf.cell (p := ⟨g, j, none⟩) hlt hS).trans hu⟩
end Go.Proofs.Ytngickhakedonaa

namespace Go.Proofs.Ytngickhakedonaa
open Go.RowKit Go.Tk Go.Dk

abbrev fourA : Array Value := #[.string ⟨#[97]⟩, .string ⟨#[98]⟩, .string ⟨#[99]⟩, .string ⟨#[108, 111, 110, 103, 45, 110, 97, 109, 101, 126]⟩]
theorem run_four0 (w : World) : (Instr.index 115 (.agg fourA) (.int .i64 0)).run Try.prog w = .ok (.string ⟨#[97]⟩) w := by simp [Instr.index, run_underlying Try.underlying115, asIntOf, go_sem]
theorem run_four1 (w : World) : (Instr.index 115 (.agg fourA) (.int .i64 1)).run Try.prog w = .ok (.string ⟨#[98]⟩) w := by simp [Instr.index, run_underlying Try.underlying115, asIntOf, go_sem]
theorem run_four2 (w : World) : (Instr.index 115 (.agg fourA) (.int .i64 2)).run Try.prog w = .ok (.string ⟨#[99]⟩) w := by simp [Instr.index, run_underlying Try.underlying115, asIntOf, go_sem]
theorem run_four3 (w : World) : (Instr.index 115 (.agg fourA) (.int .i64 3)).run Try.prog w = .ok (.string ⟨#[108, 111, 110, 103, 45, 110, 97, 109, 101, 126]⟩) w := by simp [Instr.index, run_underlying Try.underlying115, asIntOf, go_sem]

set_option maxRecDepth 100000 in
set_option maxHeartbeats 1000000 in
theorem named_any (s : ByteArray) (c : Int) (w : World) (hc : -9223372036854775808 ≤ c) (hc' : c ≤ 9223372036854775807) :
    Calls Try.prog 42 #[.string s, .int .i64 c] w fun e w' => e = .returned (.string (namedD s c)) ∧ w = w' := by
  by_cases h : c.tmod 5 = 0
  · have e1 : namedD s c = s := if_pos h
    rw [e1]
    have E1 := Lib.hid e1
    clear e1
    go_enter Try.func42, Try.ntmps42
    go_wp2_with fail
    go_ret
    exact ⟨rfl, rfl⟩
  · have e1 : namedD s c = four (pickI c 4) := if_neg h
    rw [e1]
    have E1 := Lib.hid e1
    have h2 : (c.tmod 5 == 0) = false := by simpa using h
    have p1 := pickI_lo c 4 (by decide)
    have p2 := pickI_hi c 4 (by decide)
    have hpk : ∀ w, Calls Try.prog 15 #[.int .i64 c, .int .i64 4] w fun e w' => e = .returned (.int .i64 (pickI c 4)) ∧ w = w' := fun w => pick03_any c 4 w hc hc' (by decide) (by decide)
    have HP := Lib.hid hpk
    clear e1 h hpk E1
    generalize pickI c 4 = i at *
    have q0 := run_four0 w
    have q1 := run_four1 w
    have q2 := run_four2 w
    have q3 := run_four3 w
    unfold fourA at q0 q1 q2 q3
    obtain rfl | rfl | rfl | rfl : i = 0 ∨ i = 1 ∨ i = 2 ∨ i = 3 := by omega
    all_goals
      go_enter Try.func42, Try.ntmps42
      go_wp2_with fail
      refine (HP.out _).mono ?_
      rintro e _ ⟨rfl, rfl⟩
      go_wp2_with fail
      go_ret
      exact ⟨rfl, rfl⟩

theorem BV.le {w : World} {v : Value} {x : ByteArray} (h : BV w v x) : x.size ≤ 9223372036854775807 := by
  rcases h.2 with ⟨_, h0⟩ | ⟨g, cap, cur, e1, _, hg, hnc, hcm, _⟩
  · omega
  · unfold maxLen at hcm; omega
abbrev opV (o : Op3) : Value := .agg #[.int .i64 o.kind, .string o.name, .string o.too, .slice o.ba o.b.size o.bc, .int .i64 o.n, .int .i64 o.torn]
/-- the operation, in memory below base -/
structure OpOk (base M : Nat) (w : World) (o : Op3) : Prop where
  kind : -9223372036854775808 ≤ o.kind ∧ o.kind ≤ 9223372036854775807
  n : -9223372036854775808 ≤ o.n ∧ o.n ≤ 9223372036854775807
  torn : -9223372036854775808 ≤ o.torn ∧ o.torn ≤ 9223372036854775807
  name : o.name.size ≤ 1000000000
  too : o.too.size ≤ 1000000000
  b : o.b.size ≤ M
  bc : o.b.size ≤ o.bc
  reads : Reads w o.ba o.b
  low : ∀ a, o.ba = some a → 0 < o.b.size → a.block < base
theorem OpOk.frm {base M : Nat} {w w' : World} {o : Op3} (h : OpOk base M w o) (hf : Frm (fun b => base ≤ b) w w') : OpOk base M w' o :=
  { h with reads := h.reads.frm hf (fun a ha hp hb => by have := h.low a ha hp; omega) }
/-- the copy of it that 'does' makes -/
structure Box6 (w : World) (b : Nat) (o : Op3) : Prop where
  b0 : w.cell? ⟨b, 0, none⟩ = some (.int .i64 o.kind)
  b1 : w.cell? ⟨b, 1, none⟩ = some (.string o.name)
  b2 : w.cell? ⟨b, 2, none⟩ = some (.string o.too)
  b3 : w.cell? ⟨b, 3, none⟩ = some (.slice o.ba o.b.size o.bc)
  b4 : w.cell? ⟨b, 4, none⟩ = some (.int .i64 o.n)
  b5 : w.cell? ⟨b, 5, none⟩ = some (.int .i64 o.torn)
theorem Box6.new (w : World) (o : Op3) : Box6 (w.alloc (.cells #[.int .i64 o.kind, .string o.name, .string o.too, .slice o.ba o.b.size o.bc, .int .i64 o.n, .int .i64 o.torn] 47)) w.heap.size o :=
  ⟨al_new _ _ _ 0, al_new _ _ _ 1, al_new _ _ _ 2, al_new _ _ _ 3, al_new _ _ _ 4, al_new _ _ _ 5⟩
theorem Box6.frm {S : Nat → Prop} {w w' : World} {b : Nat} {o : Op3} (h : Box6 w b o) (hf : Frm S w w') (hn : ¬ S b) : Box6 w' b o := by
  have hb := World.block_lt_of_cell? _ _ h.b0
  exact ⟨(hf.cell (p := ⟨b, 0, none⟩) hb hn).trans h.b0, (hf.cell (p := ⟨b, 1, none⟩) hb hn).trans h.b1, (hf.cell (p := ⟨b, 2, none⟩) hb hn).trans h.b2, (hf.cell (p := ⟨b, 3, none⟩) hb hn).trans h.b3, (hf.cell (p := ⟨b, 4, none⟩) hb hn).trans h.b4, (hf.cell (p := ⟨b, 5, none⟩) hb hn).trans h.b5⟩

/-- the head of 'does': both disks, the operation, its copy -/
structure Head (base M : Nat) (w0 w : World) (d r : Nat) (L : PL) (B : Nat → Prop) (s t : DS) (o : Op3) (c : Nat) : Prop where
  two : Two base w d r L B s t
  op : OpOk base M w o
  box : Box6 w c o
  frm : Frm (fun b => base ≤ b) w0 w
  cl : L.role c = .free
  cb : ¬ B c
theorem four_size (i : Int) : (four i).size ≤ 1000000000 := by unfold four; split <;> (try split) <;> (try split) <;> decide
theorem namedD_size {s : ByteArray} (c : Int) (h : s.size ≤ 1000000000) : (namedD s c).size ≤ 1000000000 := by
  unfold namedD
  split
  · exact h
  · exact four_size _
section
variable {base M c : Nat} {w0 w w' : World} {d r : Nat} {L L' : PL} {B : Nat → Prop} {s s' t t' : DS} {o : Op3}
theorem Head.new (h : Two base w d r L B s s) (ho : OpOk base M w o) :
    Head base M w (w.alloc (.cells #[.int .i64 o.kind, .string o.name, .string o.too, .slice o.ba o.b.size o.bc, .int .i64 o.n, .int .i64 o.torn] 47)) d r L B s s o w.heap.size := by
  have hf : Frm (fun _ => False) w (w.alloc (.cells #[.int .i64 o.kind, .string o.name, .string o.too, .slice o.ba o.b.size o.bc, .int .i64 o.n, .int .i64 o.torn] 47)) := (Frm.refl _ w).alloc _
  exact ⟨h.keep hf, ho.frm (hf.mono (fun _ _ h => h.elim)), Box6.new w o, hf.mono (fun _ _ h => h.elim), h.freeL (.inl (Nat.le_refl _)), h.freeB (.inl (Nat.le_refl _))⟩
theorem Head.clt (h : Head base M w0 w d r L B s t o c) : c < w.heap.size := World.block_lt_of_cell? _ _ h.box.b0
theorem Head.keep (h : Head base M w0 w d r L B s t o c) (hf : Frm (fun _ => False) w w') : Head base M w0 w' d r L B s t o c :=
  ⟨h.two.keep hf, h.op.frm (hf.mono (fun _ _ h => h.elim)), h.box.frm hf (fun h => h), h.frm.trans (hf.mono (fun _ _ h => h.elim)), h.cl, h.cb⟩
theorem Head.own {S : Nat → Prop} (h : Head base M w0 w d r L B s t o c) (hf : Frm S w w') (hS : ∀ b, S b → base ≤ b ∧ L.role b = .free ∧ ¬ B b ∧ b ≠ c) : Head base M w0 w' d r L B s t o c := by
  have hf2 : Frm (fun b => base ≤ b) w w' := hf.mono (fun b _ hb => (hS b hb).1)
  refine ⟨⟨h.two.p.frm hf (fun b hb e => hb (hS b e).2.1), h.two.q.frm hf (fun b hb e => (hS b e).2.2.1 hb), h.two.lb, fun b hb => ⟨(h.two.bb b hb).1, Nat.lt_of_lt_of_le (h.two.bb b hb).2 hf.size⟩, Nat.le_trans h.two.hb hf.size⟩, h.op.frm hf2, h.box.frm hf (fun e => (hS c e).2.2.2 rfl), h.frm.trans hf2, h.cl, h.cb⟩
theorem Head.pstep (h : Head base M w0 w d r L B s t o c) (hp : PD w' d L' s') (hs : PStep w w' L L') : Head base M w0 w' d r L' B s' t o c := by
  obtain ⟨h1, h2⟩ := h.two.pstep hp hs
  have hclt := h.clt
  refine ⟨h1, h.op.frm h2, h.box.frm hs.frm (fun e => e h.cl), h.frm.trans h2, ?_, h.cb⟩
  cases hr : L'.role c with
  | free => rfl
  | _ =>
    rcases hs.new c (by rw [hr]; simp) with h3 | h3
    · exact absurd h.cl h3
    · omega
theorem Head.pd (h : Head base M w0 w d r L B s t o c) (hp : PD w' d L s') (hf : Frm (· = d) w w') : Head base M w0 w' d r L B s' t o c :=
  h.pstep hp (PStep.of_frm hf (fun b hb => by rw [hb, h.two.p.r0]; simp) rfl)
theorem Head.rsame (h : Head base M w0 w d r L B s t o c) (hq : RX w' r B t') (hf : Frm B w w') : Head base M w0 w' d r L B s t' o c := by
  obtain ⟨h1, h2⟩ := h.two.rsame hq hf
  exact ⟨h1, h.op.frm h2, h.box.frm hf h.cb, h.frm.trans h2, h.cl, h.cb⟩
theorem Head.rstep (h : Head base M w0 w d r L B s t o c) (hq : RX w' r (up w w' B) t') (hf : Frm B w w') : Head base M w0 w' d r L (up w w' B) s t' o c := by
  obtain ⟨h1, h2⟩ := h.two.rstep hq hf
  have hclt := h.clt
  refine ⟨h1, h.op.frm h2, h.box.frm hf h.cb, h.frm.trans h2, h.cl, fun e => ?_⟩
  rcases e with e | e
  · exact h.cb e
  · omega
/-- a new block that is neither's -/
theorem Head.spare (h : Head base M w0 w d r L B s t o c) {b : Nat} (hb : w.heap.size ≤ b) : base ≤ b ∧ L.role b = .free ∧ ¬ B b ∧ b ≠ c :=
  ⟨Nat.le_trans h.two.hb hb, h.two.freeL (.inl hb), h.two.freeB (.inl hb), fun e => by have := h.clt; omega⟩
theorem spare_step {b : Nat} (h : base ≤ b ∧ L.role b = .free ∧ ¬ B b ∧ b ≠ c) (hs : PStep w w' L L') (hb : b < w.heap.size) : base ≤ b ∧ L'.role b = .free ∧ ¬ B b ∧ b ≠ c := by
  refine ⟨h.1, ?_, h.2.2⟩
  cases hr : L'.role b with
  | free => rfl
  | _ =>
    rcases hs.new b (by rw [hr]; simp) with h3 | h3
    · exact absurd h.2.1 h3
    · omega
theorem spare_up {b : Nat} (h : base ≤ b ∧ L.role b = .free ∧ ¬ B b ∧ b ≠ c) (hb : b < w.heap.size) : base ≤ b ∧ L.role b = .free ∧ ¬ up w w' B b ∧ b ≠ c :=
  ⟨h.1, h.2.1, fun e => by rcases e with e | e; exact h.2.2.1 e; omega, h.2.2.2⟩
end
def DoesQ (base : Nat) (w : World) (s : DS) (o : Op3) (e : Ending) (w' : World) : Prop :=
  ∃ d' r', e = .returned (.tuple #[.pointer (some ⟨d', 0, none⟩), .pointer (some ⟨r', 0, none⟩), .bool true]) ∧ Both base w' d' r' (stepD s o) ∧ Frm (fun b => base ≤ b) w w'
theorem Head.done {base M c : Nat} {w0 w : World} {d r : Nat} {L : PL} {B : Nat → Prop} {s S : DS} {o : Op3} (h : Head base M w0 w d r L B S S o c) (hs : stepD s o = S) : DoesQ base w0 s o (.returned (.tuple #[.pointer (some ⟨d, 0, none⟩), .pointer (some ⟨r, 0, none⟩), .bool true])) w :=
  ⟨d, r, rfl, by rw [hs]; exact ⟨L, B, h.two⟩, h.frm⟩
/-- what is known of the disk ahead of a step -/
structure Fit (s : DS) (M : Nat) : Prop where
  inv : Inv s
  wf : Wf s
  us : used s ≤ 100000000000
  fs : ∀ k, (getF s k).1.size ≤ 1000000000
  room : 0 ≤ s.room
  al : s.acts.length ≤ 1000
  nl : s.fails.length ≤ 1000
  fl : s.files.length ≤ 1000
  n : s.n ≤ 1000
  dl : s.dir.length ≤ 1000
  sl : s.sure.length ≤ 1000
  dn : ∀ x ∈ s.dir, okName x.1 = true
  M : M ≤ 1048576
theorem Fit.of {s : DS} {k M : Nat} (h : Inv s) (hz : Sz s k M) (hk : k ≤ 201) (hM : M ≤ 1048576) : Fit s M := by
  obtain ⟨h1, h2, h3⟩ := h.wf hz (by omega) hM
  have := h.dirlen
  have := h.surelen
  have := hz.fl
  exact ⟨h, h1, h2, h3, hz.room, by have := hz.al; omega, by have := hz.nl; omega, by omega, by have := hz.n; omega, by omega, by omega, hz.dn, hM⟩
end Go.Proofs.Ytngickhakedonaa
