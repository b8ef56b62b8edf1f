/- A text of a claim's proof: see the last text of the claim. -/
import Derived.Test.YteecdpdidhjdlaaTk
import Derived.WalkKit
set_option linter.all false

namespace Go.Lru
open Go Go.Tk

abbrev KV := ByteArray × ByteArray

def Link (w : World) (p n : Nat) : Prop :=
  w.cell? ⟨p, 3, none⟩ = some (.pointer (some ⟨n, 0, none⟩)) ∧ w.cell? ⟨n, 2, none⟩ = some (.pointer (some ⟨p, 0, none⟩))

def Chain (w : World) : Nat → List Nat → Nat → Prop
  | p, [], n => Link w p n
  | p, x :: xs, n => Link w p x ∧ Chain w x xs n

theorem chain_append {w : World} {xs : List Nat} {a y b : Nat} {ys : List Nat} : Chain w a (xs ++ y :: ys) b ↔ Chain w a xs y ∧ Chain w y ys b := by
  induction xs generalizing a with
  | nil => rfl
  | cons x xs ih => simp only [List.cons_append, Chain, ih, and_assoc]

theorem chain_last {w : World} {xs : List Nat} {a y : Nat} (h : Chain w a xs y) : Link w (xs.getLastD a) y := by
  induction xs generalizing a with
  | nil => exact h
  | cons x xs ih => rw [List.getLastD_cons]; exact ih h.2

theorem chain_head {w : World} {xs : List Nat} {a y : Nat} (h : Chain w a xs y) : Link w a (xs.headD y) := by
  cases xs with
  | nil => exact h
  | cons x xs => exact h.1

/-- what a chain reads -/
theorem chain_frame {w w' : World} {xs : List Nat} {a y : Nat} (h : Chain w a xs y)
    (h3 : ∀ u ∈ a :: xs, w'.cell? ⟨u, 3, none⟩ = w.cell? ⟨u, 3, none⟩) (h2 : ∀ v, v ∈ xs ∨ v = y → w'.cell? ⟨v, 2, none⟩ = w.cell? ⟨v, 2, none⟩) : Chain w' a xs y := by
  induction xs generalizing a with
  | nil => exact ⟨(h3 a (by simp)).trans h.1, (h2 y (by simp)).trans h.2⟩
  | cons x xs ih =>
    refine ⟨⟨(h3 a (by simp)).trans h.1.1, (h2 x (by simp)).trans h.1.2⟩, ih h.2 (fun u hu => h3 u (List.mem_cons_of_mem _ hu)) (fun v hv => h2 v ?_)⟩
    rcases hv with hv | hv
    · exact .inl (List.mem_cons_of_mem _ hv)
    · exact .inr hv

/-- the last link is bent to another place -/
theorem chain_bend {w w' : World} {xs : List Nat} {a y n : Nat} (h : Chain w a xs y) (hl : Link w' (xs.getLastD a) n)
    (h3 : ∀ u ∈ a :: xs, u ≠ xs.getLastD a → w'.cell? ⟨u, 3, none⟩ = w.cell? ⟨u, 3, none⟩) (h2 : ∀ v ∈ xs, w'.cell? ⟨v, 2, none⟩ = w.cell? ⟨v, 2, none⟩) (hnd : (a :: xs).Nodup) : Chain w' a xs n := by
  induction xs generalizing a with
  | nil => exact hl
  | cons x xs ih =>
    rw [List.getLastD_cons] at hl h3
    have hne : a ≠ xs.getLastD x := by
      intro e
      have : xs.getLastD x ∈ x :: xs := by
        cases xs with
        | nil => simp
        | cons z zs => rw [List.getLastD_eq_getLast?, List.getLast?_eq_some_getLast (List.cons_ne_nil _ _)]; exact List.mem_cons_of_mem _ (List.getLast_mem _)
      exact (List.nodup_cons.1 hnd).1 (e ▸ this)
    exact ⟨⟨(h3 a (by simp) hne).trans h.1.1, (h2 x (by simp)).trans h.1.2⟩,
      ih h.2 hl (fun u hu => h3 u (List.mem_cons_of_mem _ hu)) (fun v hv => h2 v (List.mem_cons_of_mem _ hv)) (List.nodup_cons.1 hnd).2⟩

theorem getLastD_mem (xs : List Nat) (a : Nat) : xs.getLastD a ∈ a :: xs := by
  cases xs with
  | nil => simp
  | cons z zs => rw [List.getLastD_eq_getLast?, List.getLast?_eq_some_getLast (List.cons_ne_nil _ _)]; exact List.mem_cons_of_mem _ (List.getLast_mem _)
theorem headD_mem (xs : List Nat) (a : Nat) : xs.headD a ∈ xs ∨ xs.headD a = a := by
  cases xs <;> simp

/-- the ring behind a head: the items, the one used last first -/
structure Ring (w : World) (cb : Nat) (l : List (Nat × KV)) : Prop where
  chain : Chain w cb (l.map (·.1)) cb
  key : ∀ x ∈ l, w.cell? ⟨x.1, 0, none⟩ = some (.string x.2.1)
  val : ∀ x ∈ l, w.cell? ⟨x.1, 1, none⟩ = some (.string x.2.2)
  fz : ∀ b, b ∈ cb :: l.map (·.1) → Fz w b
  nodup : (cb :: l.map (·.1)).Nodup

theorem nd_parts {cb x : Nat} {l1 l2 : List Nat} (h : (cb :: (l1 ++ x :: l2)).Nodup) :
    (cb :: l1).Nodup ∧ (cb :: (l1 ++ l2)).Nodup ∧ x ∉ cb :: l1 ∧ x ∉ l2 ∧ cb ∉ l2 ∧ l2.Nodup ∧ (∀ u ∈ l1, u ∉ l2) := by
  simp only [List.nodup_cons, List.nodup_append, List.mem_append, List.mem_cons, not_or] at h ⊢
  obtain ⟨⟨a1, a2, a3⟩, b1, ⟨c1, c2⟩, d⟩ := h
  refine ⟨⟨a1, b1⟩, ⟨⟨a1, a3⟩, b1, c2, fun a ha b hb => d a ha b (.inr hb)⟩, ⟨fun e => a2 e.symm, fun hx => d x hx x (.inl rfl) rfl⟩, c1, a3, c2, fun u hu hu2 => d u hu u (.inr hu2) rfl⟩

/-- x is taken out: p, n: who stands ahead of it and behind it -/
theorem Ring.loose {w : World} {cb : Nat} {l1 l2 : List (Nat × KV)} {x : Nat × KV} (h : Ring w cb (l1 ++ x :: l2)) {p n : Nat} (hp : p = (l1.map (·.1)).getLastD cb) (hn : n = (l2.map (·.1)).headD cb) :
    Link w p x.1 ∧ Link w x.1 n ∧ Ring (((w.setCell ⟨p, 3, none⟩ (.pointer (some ⟨n, 0, none⟩))).setCell ⟨n, 2, none⟩ (.pointer (some ⟨p, 0, none⟩))).drew) cb (l1 ++ l2) := by
  have hc := h.chain
  have hnd := h.nodup
  simp only [List.map_append, List.map_cons] at hc hnd
  obtain ⟨hc1, hc2⟩ := chain_append.1 hc
  obtain ⟨n1, n2, n3, n4, n5, n6, n7⟩ := nd_parts hnd
  have hL1 := chain_last hc1
  have hL2 := chain_head hc2
  rw [← hp] at hL1
  rw [← hn] at hL2
  have hpm : p ∈ cb :: l1.map (·.1) := hp ▸ getLastD_mem _ _
  have hnm : n ∈ l2.map (·.1) ∨ n = cb := hn ▸ headD_mem _ _
  refine ⟨hL1, hL2, ?_⟩
  generalize hv1 : Value.pointer (some ⟨n, 0, none⟩) = v1
  generalize hv2 : Value.pointer (some ⟨p, 0, none⟩) = v2
  have c3 : ∀ u, u ≠ p → (((w.setCell ⟨p, 3, none⟩ v1).setCell ⟨n, 2, none⟩ v2).drew).cell? ⟨u, 3, none⟩ = w.cell? ⟨u, 3, none⟩ := by
    intro u hu
    rw [World.cell?_drew, set_off _ _ _ _ _ _ (by decide), set_blk _ _ _ _ _ _ hu.symm]
  have c2 : ∀ u, u ≠ n → (((w.setCell ⟨p, 3, none⟩ v1).setCell ⟨n, 2, none⟩ v2).drew).cell? ⟨u, 2, none⟩ = w.cell? ⟨u, 2, none⟩ := by
    intro u hu
    rw [World.cell?_drew, set_blk _ _ _ _ _ _ hu.symm, set_off _ _ _ _ _ _ (by decide)]
  have co : ∀ u o, o ≠ 2 → o ≠ 3 → (((w.setCell ⟨p, 3, none⟩ v1).setCell ⟨n, 2, none⟩ v2).drew).cell? ⟨u, o, none⟩ = w.cell? ⟨u, o, none⟩ := by
    intro u o h2 h3
    rw [World.cell?_drew, set_off _ _ _ _ _ _ h2.symm, set_off _ _ _ _ _ _ h3.symm]
  have hlink : Link (((w.setCell ⟨p, 3, none⟩ v1).setCell ⟨n, 2, none⟩ v2).drew) p n := by
    constructor
    · rw [World.cell?_drew, set_off _ _ _ _ _ _ (by decide), set_same _ _ _ _ _ hL1.1, hv1]
    · rw [World.cell?_drew, set_same _ _ _ _ _ ((set_off _ _ _ _ _ _ (by decide)).trans hL2.2), hv2]
  have hmem : ∀ y, y ∈ l1 ++ l2 → y ∈ l1 ++ x :: l2 := by intro y hy; simp at hy ⊢; grind
  refine ⟨?_, fun y hy => ?_, fun y hy => ?_, fun b hb => ?_, by simpa using n2⟩
  · have hA : Chain (((w.setCell ⟨p, 3, none⟩ v1).setCell ⟨n, 2, none⟩ v2).drew) cb (l1.map (·.1)) n := by
      refine chain_bend hc1 (by rw [← hp]; exact hlink) (fun u _ hu => c3 u (hp ▸ hu)) (fun v hv => c2 v ?_) n1
      rintro rfl
      rcases hnm with hnm | hnm
      · exact n7 _ hv hnm
      · subst hnm; exact (List.nodup_cons.1 n1).1 hv
    cases l2 with
    | nil => simp at hn; subst hn; simpa using hA
    | cons y l2 =>
      simp at hn
      subst hn
      rw [List.map_append, List.map_cons]
      refine chain_append.2 ⟨hA, chain_frame hc2.2 (fun u hu => c3 u ?_) (fun v hv => c2 v ?_)⟩
      · rintro rfl
        have hu' : u ∈ (y :: l2).map (·.1) := by simpa using hu
        rcases List.mem_cons.1 hpm with e | e
        · exact n5 (e ▸ hu')
        · exact n7 _ e hu'
      · rintro rfl
        rcases hv with hv | hv
        · exact (List.nodup_cons.1 (by simpa using n6)).1 hv
        · exact n5 (by simp [← hv])
  · rw [co _ _ (by decide) (by decide)]; exact h.key y (hmem y hy)
  · rw [co _ _ (by decide) (by decide)]; exact h.val y (hmem y hy)
  · refine (((h.fz b ?_).set _ _).set _ _).drew
    simp at hb ⊢
    grind

/-- x is laid at the beginning; f: who stood there -/
theorem Ring.use {w : World} {cb : Nat} {l : List (Nat × KV)} (h : Ring w cb l) {x : Nat × KV} {f : Nat} (hf : f = (l.map (·.1)).headD cb) (hx : x.1 ∉ cb :: l.map (·.1))
    (hk : w.cell? ⟨x.1, 0, none⟩ = some (.string x.2.1)) (hv : w.cell? ⟨x.1, 1, none⟩ = some (.string x.2.2)) (u1 u2 : Value) (h2 : w.cell? ⟨x.1, 2, none⟩ = some u1) (h3 : w.cell? ⟨x.1, 3, none⟩ = some u2)
    (hz : Fz w x.1) :
    Link w cb f ∧ cb ≠ x.1 ∧ f ≠ x.1 ∧ Ring (((((w.setCell ⟨x.1, 2, none⟩ (.pointer (some ⟨cb, 0, none⟩))).setCell ⟨x.1, 3, none⟩ (.pointer (some ⟨f, 0, none⟩))).setCell ⟨cb, 3, none⟩ (.pointer (some ⟨x.1, 0, none⟩))).setCell ⟨f, 2, none⟩ (.pointer (some ⟨x.1, 0, none⟩))).drew.drew) cb (x :: l) := by
  have hc := h.chain
  have hnd := h.nodup
  have hL := chain_head hc
  rw [← hf] at hL
  have hfm : f ∈ l.map (·.1) ∨ f = cb := hf ▸ headD_mem _ _
  have hcx : cb ≠ x.1 := fun e => hx (by simp [e])
  have hfx : f ≠ x.1 := by
    rintro rfl
    rcases hfm with e | e
    · exact hx (List.mem_cons_of_mem _ e)
    · exact hcx e.symm
  refine ⟨hL, hcx, hfx, ?_⟩
  generalize hv1 : Value.pointer (some ⟨cb, 0, none⟩) = v1
  generalize hv2 : Value.pointer (some ⟨f, 0, none⟩) = v2
  generalize hv3 : Value.pointer (some ⟨x.1, 0, none⟩) = v3
  generalize hw' : (((((w.setCell ⟨x.1, 2, none⟩ v1).setCell ⟨x.1, 3, none⟩ v2).setCell ⟨cb, 3, none⟩ v3).setCell ⟨f, 2, none⟩ v3).drew.drew) = w'
  have c3 : ∀ u, u ≠ cb → u ≠ x.1 → w'.cell? ⟨u, 3, none⟩ = w.cell? ⟨u, 3, none⟩ := by
    intro u hu hu2
    rw [← hw', World.cell?_drew, World.cell?_drew, set_off _ _ _ _ _ _ (by decide), set_blk _ _ _ _ _ _ hu.symm, set_blk _ _ _ _ _ _ hu2.symm, set_off _ _ _ _ _ _ (by decide)]
  have c2 : ∀ u, u ≠ f → u ≠ x.1 → w'.cell? ⟨u, 2, none⟩ = w.cell? ⟨u, 2, none⟩ := by
    intro u hu hu2
    rw [← hw', World.cell?_drew, World.cell?_drew, set_blk _ _ _ _ _ _ hu.symm, set_off _ _ _ _ _ _ (by decide), set_off _ _ _ _ _ _ (by decide), set_blk _ _ _ _ _ _ hu2.symm]
  have co : ∀ u o, o ≠ 2 → o ≠ 3 → w'.cell? ⟨u, o, none⟩ = w.cell? ⟨u, o, none⟩ := by
    intro u o e2 e3
    rw [← hw', World.cell?_drew, World.cell?_drew, set_off _ _ _ _ _ _ e2.symm, set_off _ _ _ _ _ _ e3.symm, set_off _ _ _ _ _ _ e3.symm, set_off _ _ _ _ _ _ e2.symm]
  have lk1 : Link w' cb x.1 := by
    constructor
    · rw [← hw', World.cell?_drew, World.cell?_drew, set_off _ _ _ _ _ _ (by decide), set_same _ _ _ _ _ (((set_blk _ _ _ _ _ _ hcx.symm).trans (set_off _ _ _ _ _ _ (by decide))).trans hL.1), hv3]
    · rw [← hw', World.cell?_drew, World.cell?_drew, set_blk _ _ _ _ _ _ hfx, set_off _ _ _ _ _ _ (by decide), set_off _ _ _ _ _ _ (by decide), set_same _ _ _ _ _ h2, hv1]
  have lk2 : Link w' x.1 f := by
    constructor
    · rw [← hw', World.cell?_drew, World.cell?_drew, set_off _ _ _ _ _ _ (by decide), set_blk _ _ _ _ _ _ hcx, set_same _ _ _ _ _ ((set_off _ _ _ _ _ _ (by decide)).trans h3), hv2]
    · rw [← hw', World.cell?_drew, World.cell?_drew, set_same _ _ _ _ _ (((set_off _ _ _ _ _ _ (by decide)).trans ((set_off _ _ _ _ _ _ (by decide)).trans (set_blk _ _ _ _ _ _ hfx.symm))).trans hL.2), hv3]
  refine ⟨?_, fun y hy => ?_, fun y hy => ?_, fun b hb => ?_, ?_⟩
  · refine ⟨lk1, ?_⟩
    cases l with
    | nil => simp at hf; subst hf; exact lk2
    | cons y l =>
      simp at hf
      subst hf
      simp only [List.map_cons] at hnd hx hc ⊢
      simp only [List.nodup_cons, List.mem_cons, not_or] at hnd hx
      refine ⟨lk2, chain_frame hc.2 (fun u hu => c3 u ?_ ?_) (fun v hv => c2 v ?_ ?_)⟩
      · rintro rfl; rcases List.mem_cons.1 hu with e | e
        · exact hnd.1.1 e
        · exact hnd.1.2 e
      · rintro rfl; rcases List.mem_cons.1 hu with e | e
        · exact hx.2.1 e
        · exact hx.2.2 e
      · rintro rfl; rcases hv with e | e
        · exact hnd.2.1 e
        · exact hnd.1.1 e.symm
      · rintro rfl; rcases hv with e | e
        · exact hx.2.2 e
        · exact hcx e.symm
  · rw [co _ _ (by decide) (by decide)]
    rcases List.mem_cons.1 hy with rfl | hy
    · exact hk
    · exact h.key y hy
  · rw [co _ _ (by decide) (by decide)]
    rcases List.mem_cons.1 hy with rfl | hy
    · exact hv
    · exact h.val y hy
  · rw [← hw']
    refine (Fz.set (Fz.set (Fz.set (Fz.set ?_ _ _) _ _) _ _) _ _).drew.drew
    simp only [List.map_cons, List.mem_cons] at hb
    rcases hb with rfl | rfl | hb
    · exact h.fz _ (by simp)
    · exact hz
    · exact h.fz b (List.mem_cons_of_mem _ hb)
  · simp only [List.map_cons, List.nodup_cons, List.mem_cons, not_or] at hnd hx ⊢
    exact ⟨⟨hcx, hnd.1⟩, hx.2, hnd.2⟩
end Go.Lru

namespace Go.Lru
open Go Go.Tk

def wt (x : KV) : Nat := x.1.size + x.2.size
def tot (l : List KV) : Nat := (l.map wt).sum
theorem tot_nil : tot [] = 0 := rfl
theorem tot_cons (x : KV) (l : List KV) : tot (x :: l) = wt x + tot l := by simp [tot]
theorem tot_append (l m : List KV) : tot (l ++ m) = tot l + tot m := by simp [tot]

def woI (k : ByteArray) (l : List (Nat × KV)) : List (Nat × KV) := l.filter fun x => !decide (x.2.1 = k)
def dropI (ks : List ByteArray) (l : List (Nat × KV)) : List (Nat × KV) := ks.foldl (fun l k => woI k l) l
def kvs (l : List (Nat × KV)) : List KV := l.map (·.2)
def fp (cb mb : Nat) (l : List (Nat × KV)) : List Nat := mb :: cb :: l.map (·.1)
def findI (k : ByteArray) (l : List (Nat × KV)) : Option (Nat × KV) := l.find? fun x => decide (x.2.1 = k)

/-- a cache: cb its block, mb the block of its map -/
structure Lru (w : World) (cb mb bud : Nat) (l : List (Nat × KV)) : Prop where
  ring : Ring w cb l
  c4 : w.cell? ⟨cb, 4, none⟩ = some (.map (some mb))
  c5 : w.cell? ⟨cb, 5, none⟩ = some (.int .i64 bud)
  c6 : w.cell? ⟨cb, 6, none⟩ = some (.int .i64 (tot (kvs l)))
  map : ∃ m, GMap strKy w mb m ∧ ∀ k, assoc k m = (findI k l).map fun x => Value.pointer (some ⟨x.1, 0, none⟩)
  keys : (l.map (·.2.1)).Nodup

theorem mb_not {w : World} {cb mb bud : Nat} {l : List (Nat × KV)} (h : Lru w cb mb bud l) : mb ∉ cb :: l.map (·.1) := by
  obtain ⟨m, ⟨es, c, hm, _⟩, _⟩ := h.map
  intro hin
  rcases List.mem_cons.1 hin with rfl | hin
  · have := h.c4; simp [World.cell?, hm] at this
  · obtain ⟨x, hx, rfl⟩ := List.mem_map.1 hin
    have := h.ring.key x hx; simp [World.cell?, hm] at this

theorem findI_none {k : ByteArray} {l : List (Nat × KV)} (h : findI k l = none) : woI k l = l := by
  unfold findI at h
  rw [List.find?_eq_none] at h
  exact List.filter_eq_self.2 fun x hx => by have := h x hx; simpa using this

theorem findI_some {k : ByteArray} {l : List (Nat × KV)} {x : Nat × KV} (hn : (l.map (·.2.1)).Nodup) (h : findI k l = some x) :
    x.2.1 = k ∧ ∃ l1 l2, l = l1 ++ x :: l2 ∧ woI k l = l1 ++ l2 := by
  unfold findI at h
  obtain ⟨hk, l1, l2, rfl, h1⟩ := List.find?_eq_some_iff_append.1 h
  have hk : x.2.1 = k := by simpa using hk
  refine ⟨hk, l1, l2, rfl, ?_⟩
  unfold woI
  rw [List.filter_append, List.filter_cons]
  simp only [hk, decide_true, Bool.not_true, Bool.false_eq_true, if_false]
  congr 1
  · exact List.filter_eq_self.2 fun y hy => by have := h1 y hy; simpa using this
  · refine List.filter_eq_self.2 fun y hy => ?_
    simp only [List.map_append, List.map_cons, List.nodup_append, List.nodup_cons] at hn
    have : x.2.1 ≠ y.2.1 := fun e => hn.2.1.1 (by rw [e]; exact List.mem_map.2 ⟨y, hy, rfl⟩)
    simp [← hk, this.symm]

theorem find_del {k : ByteArray} {l : List (Nat × KV)} {m : List (ByteArray × Value)} (h : ∀ k, assoc k m = (findI k l).map fun x => Value.pointer (some ⟨x.1, 0, none⟩)) :
    ∀ k', assoc k' (del k m) = (findI k' (woI k l)).map fun x => Value.pointer (some ⟨x.1, 0, none⟩) := by
  intro k'
  have e1 : assoc k' (del k m) = if k' = k then none else assoc k' m := by
    unfold assoc del
    rw [List.find?_filter]
    split
    · rename_i e
      rw [List.find?_eq_none.2]; · rfl
      intro x _; simp; intro h1 h2; exact absurd (h2.trans e) h1
    · rename_i e
      congr 2
      funext x
      by_cases hx : x.1 = k' <;> simp [hx, e]
  have e2 : findI k' (woI k l) = if k' = k then none else findI k' l := by
    unfold findI woI
    rw [List.find?_filter]
    split
    · rename_i e
      rw [List.find?_eq_none.2]
      intro x _; simp; intro h1 h2; exact absurd (h2.trans e) h1
    · rename_i e
      congr 1
      funext x
      by_cases hx : x.2.1 = k' <;> simp [hx, e]
  rw [e1, e2]
  split
  · rfl
  · exact h k'

/-- a []string that is read: ks -/
def StrSl (w : World) (v : Value) (ks : List ByteArray) : Prop :=
  ∃ ao cap, v = .slice ao ks.length cap ∧ ks.length ≤ cap ∧ ∀ i (h : i < ks.length), ∃ b off, ao = some ⟨b, off, none⟩ ∧ w.cell? ⟨b, off + i, none⟩ = some (.string ks[i])
def Off (v : Value) (S : Nat → Prop) : Prop := ∀ b, v.ownBlock = some b → ¬ S b

theorem StrSl.frm {S : Nat → Prop} {w w' : World} {v : Value} {ks : List ByteArray} (h : StrSl w v ks) (hf : Frm S w w') (ho : ks ≠ [] → Off v S) : StrSl w' v ks := by
  obtain ⟨ao, cap, rfl, hle, h⟩ := h
  refine ⟨ao, cap, rfl, hle, fun i hi => ?_⟩
  obtain ⟨b, off, rfl, hc⟩ := h i hi
  exact ⟨b, off, rfl, (hf.cell (p := ⟨b, off + i, none⟩) (World.block_lt_of_cell? _ _ hc) (ho (by rintro rfl; simp at hi) b rfl)).trans hc⟩
theorem StrSl.take {w : World} {ao : Option Addr} {n cap : Nat} {ks : List ByteArray} (h : StrSl w (.slice ao ks.length cap) ks) (hn : n ≤ ks.length) : StrSl w (.slice ao n cap) (ks.take n) := by
  obtain ⟨_, _, e, hle, h⟩ := h
  cases e
  refine ⟨ao, cap, by rw [List.length_take, Nat.min_eq_left hn], by rw [List.length_take]; omega, fun i hi => ?_⟩
  rw [List.length_take] at hi
  obtain ⟨b, off, e, hc⟩ := h i (by omega)
  exact ⟨b, off, e, by rw [hc, List.getElem_take]⟩
end Go.Lru

namespace Go.Lru
open Go Go.Tk

theorem Ring.lt {w : World} {cb : Nat} {l : List (Nat × KV)} (h : Ring w cb l) : ∀ b ∈ cb :: l.map (·.1), b < w.heap.size := by
  intro b hb
  rcases List.mem_cons.1 hb with rfl | hb
  · exact World.block_lt_of_cell? _ _ (chain_head h.chain).1
  · obtain ⟨x, hx, rfl⟩ := List.mem_map.1 hb
    exact World.block_lt_of_cell? _ _ (h.key x hx)
/-- what a ring reads, in another world -/
theorem Ring.of_cells {w w' : World} {cb : Nat} {l : List (Nat × KV)} (h : Ring w cb l) (hc : ∀ b ∈ cb :: l.map (·.1), ∀ o, o < 4 → w'.cell? ⟨b, o, none⟩ = w.cell? ⟨b, o, none⟩)
    (hz : ∀ b ∈ cb :: l.map (·.1), Fz w b → Fz w' b) : Ring w' cb l := by
  refine ⟨chain_frame h.chain (fun u hu => hc u hu 3 (by decide)) (fun v hv => hc v ?_ 2 (by decide)), fun x hx => ?_, fun x hx => ?_, fun b hb => hz b hb (h.fz b hb), h.nodup⟩
  · rcases hv with hv | rfl
    · exact List.mem_cons_of_mem _ hv
    · exact List.mem_cons_self
  · exact (hc x.1 (List.mem_cons_of_mem _ (List.mem_map.2 ⟨x, hx, rfl⟩)) 0 (by decide)).trans (h.key x hx)
  · exact (hc x.1 (List.mem_cons_of_mem _ (List.mem_map.2 ⟨x, hx, rfl⟩)) 1 (by decide)).trans (h.val x hx)
theorem Ring.frm {S : Nat → Prop} {w w' : World} {cb : Nat} {l : List (Nat × KV)} (h : Ring w cb l) (hf : Frm S w w') (hn : ∀ b ∈ cb :: l.map (·.1), ¬ S b) : Ring w' cb l :=
  h.of_cells (fun b hb o _ => hf.cell (p := ⟨b, o, none⟩) (h.lt b hb) (hn b hb)) (fun b hb h => h.frm hf (hn b hb))

theorem Lru.lt {w : World} {cb mb bud : Nat} {l : List (Nat × KV)} (h : Lru w cb mb bud l) : ∀ b ∈ fp cb mb l, b < w.heap.size := by
  intro b hb
  rcases List.mem_cons.1 hb with rfl | hb
  · obtain ⟨m, hm, _⟩ := h.map; exact hm.lt
  · exact h.ring.lt b hb
theorem Lru.frm {S : Nat → Prop} {w w' : World} {cb mb bud : Nat} {l : List (Nat × KV)} (h : Lru w cb mb bud l) (hf : Frm S w w') (hn : ∀ b ∈ fp cb mb l, ¬ S b) : Lru w' cb mb bud l := by
  have hcb : cb ∈ fp cb mb l := by simp [fp]
  have hlt := h.lt cb hcb
  refine ⟨h.ring.frm hf (fun b hb => hn b (List.mem_cons_of_mem _ hb)), (hf.cell (p := ⟨cb, 4, none⟩) hlt (hn cb hcb)).trans h.c4, (hf.cell (p := ⟨cb, 5, none⟩) hlt (hn cb hcb)).trans h.c5, (hf.cell (p := ⟨cb, 6, none⟩) hlt (hn cb hcb)).trans h.c6, ?_, h.keys⟩
  obtain ⟨m, hm, hf'⟩ := h.map
  exact ⟨m, hm.frm hf (hn mb (by simp [fp])), hf'⟩
theorem Lru.drew {w : World} {cb mb bud : Nat} {l : List (Nat × KV)} (h : Lru w cb mb bud l) : Lru w.drew cb mb bud l := h.frm (S := fun _ => False) (Frm.refl _ _).drew (fun _ _ h => h)
theorem Lru.alloc {w : World} {cb mb bud : Nat} {l : List (Nat × KV)} (h : Lru w cb mb bud l) (o : Obj) : Lru (w.alloc o) cb mb bud l := h.frm (S := fun _ => False) ((Frm.refl _ _).alloc o) (fun _ _ h => h)

/-- the head's last three cells, and what is not touched by 'loose' and 'use' -/
theorem loose_keeps {w w1 : World} {cb mb bud : Nat} {l1 l2 : List (Nat × KV)} {x : Nat × KV} {m : List (ByteArray × Value)} (h : Lru w cb mb bud (l1 ++ x :: l2)) (hm : GMap strKy w mb m) {p n : Nat} (hp : p = (l1.map (·.1)).getLastD cb) (hn : n = (l2.map (·.1)).headD cb)
    (hw : w1 = ((w.setCell ⟨p, 3, none⟩ (.pointer (some ⟨n, 0, none⟩))).setCell ⟨n, 2, none⟩ (.pointer (some ⟨p, 0, none⟩))).drew) :
    Ring w1 cb (l1 ++ l2) ∧ w1.cell? ⟨cb, 4, none⟩ = some (.map (some mb)) ∧ w1.cell? ⟨cb, 5, none⟩ = some (.int .i64 bud) ∧ w1.cell? ⟨cb, 6, none⟩ = some (.int .i64 (tot (kvs (l1 ++ x :: l2)))) ∧
      w1.cell? ⟨x.1, 0, none⟩ = some (.string x.2.1) ∧ w1.cell? ⟨x.1, 1, none⟩ = some (.string x.2.2) ∧ GMap strKy w1 mb m ∧ Frm (· ∈ fp cb mb (l1 ++ x :: l2)) w w1 ∧ w1.frozen? ⟨cb, 6, none⟩ = false ∧ (∃ u, w1.cell? ⟨x.1, 2, none⟩ = some u) ∧ (∃ u, w1.cell? ⟨x.1, 3, none⟩ = some u) ∧ Fz w1 x.1 := by
  obtain ⟨k1, k2, hr⟩ := h.ring.loose hp hn
  have co : ∀ u o, o ≠ 2 → o ≠ 3 → w1.cell? ⟨u, o, none⟩ = w.cell? ⟨u, o, none⟩ := by
    intro u o e2 e3
    rw [hw, World.cell?_drew, set_off _ _ _ _ _ _ e2.symm, set_off _ _ _ _ _ _ e3.symm]
  have hx : x ∈ l1 ++ x :: l2 := by simp
  have hpm : p ∈ cb :: (l1 ++ x :: l2).map (·.1) := by
    have := getLastD_mem (l1.map (·.1)) cb
    rw [← hp] at this
    simp only [List.map_append, List.mem_cons, List.mem_append] at this ⊢
    grind
  have hnm : n ∈ cb :: (l1 ++ x :: l2).map (·.1) := by
    have := headD_mem (l2.map (·.1)) cb
    rw [← hn] at this
    simp only [List.map_append, List.map_cons, List.mem_cons, List.mem_append] at this ⊢
    grind
  have hf : Frm (· ∈ cb :: (l1 ++ x :: l2).map (·.1)) w w1 := by
    rw [hw]
    exact (((Frm.refl _ _).setCell (fun _ => hpm) _).setCell (fun _ => hnm) _).drew
  refine ⟨hw ▸ hr, (co _ _ (by decide) (by decide)).trans h.c4, (co _ _ (by decide) (by decide)).trans h.c5, (co _ _ (by decide) (by decide)).trans h.c6, (co _ _ (by decide) (by decide)).trans (h.ring.key x hx), (co _ _ (by decide) (by decide)).trans (h.ring.val x hx), hm.frm hf (mb_not h), hf.mono (fun _ _ hb => List.mem_cons_of_mem _ hb), ?_, ?_, ?_, ?_⟩
  · rw [hw, World.frozen?_drew, set_fz, set_fz]
    exact (h.ring.fz cb (by simp)).frozen 6
  · rw [hw]; obtain ⟨v, hv⟩ := set_some w ⟨p, 3, none⟩ (.pointer (some ⟨n, 0, none⟩)) k1.2; exact set_some _ _ _ hv
  · rw [hw]; obtain ⟨v, hv⟩ := set_some w ⟨p, 3, none⟩ (.pointer (some ⟨n, 0, none⟩)) k2.1; exact set_some _ _ _ hv
  · rw [hw]; exact (((h.ring.fz x.1 (List.mem_cons_of_mem _ (List.mem_map.2 ⟨x, hx, rfl⟩))).set _ _).set _ _).drew

/-- the weight is laid, and it is a cache -/
theorem lru_close {w : World} {cb mb bud : Nat} {L : List (Nat × KV)} {m : List (ByteArray × Value)} {t : Int} (hr : Ring w cb L) (c4 : w.cell? ⟨cb, 4, none⟩ = some (.map (some mb))) (c5 : w.cell? ⟨cb, 5, none⟩ = some (.int .i64 bud)) {u : Value} (c6 : w.cell? ⟨cb, 6, none⟩ = some u)
    (hm : GMap strKy w mb m) (hfind : ∀ k, assoc k m = (findI k L).map fun x => Value.pointer (some ⟨x.1, 0, none⟩)) (hk : (L.map (·.2.1)).Nodup) (ht : t = tot (kvs L)) : Lru (w.setCell ⟨cb, 6, none⟩ (.int .i64 t)) cb mb bud L := by
  have hmb : mb ≠ cb := by
    obtain ⟨es, c, hb, _⟩ := hm
    rintro rfl
    simp [World.cell?, hb] at c4
  refine ⟨hr.of_cells (fun b _ o ho => set_off _ _ _ _ _ _ (by omega)) (fun b _ h => h.set _ _), (set_off _ _ _ _ _ _ (by decide)).trans c4, (set_off _ _ _ _ _ _ (by decide)).trans c5, by rw [set_same _ _ _ _ _ c6, ht], ?_, hk⟩
  exact ⟨m, hm.frm ((Frm.refl (· = cb) w).setCell (fun _ => rfl) _) hmb, hfind⟩
end Go.Lru

namespace Go.Lru
open Go Go.Tk

theorem use_keeps {w w1 : World} {cb mb bud : Nat} {t : Int} {L : List (Nat × KV)} {x : Nat × KV} {m : List (ByteArray × Value)} (hr : Ring w cb L) (c4 : w.cell? ⟨cb, 4, none⟩ = some (.map (some mb))) (c5 : w.cell? ⟨cb, 5, none⟩ = some (.int .i64 bud)) (c6 : w.cell? ⟨cb, 6, none⟩ = some (.int .i64 t))
    (hm : GMap strKy w mb m) (hmb : mb ∉ cb :: L.map (·.1)) (hmx : mb ≠ x.1) (hx : x.1 ∉ cb :: L.map (·.1))
    (hk : w.cell? ⟨x.1, 0, none⟩ = some (.string x.2.1)) (hv : w.cell? ⟨x.1, 1, none⟩ = some (.string x.2.2)) (u1 u2 : Value) (h2 : w.cell? ⟨x.1, 2, none⟩ = some u1) (h3 : w.cell? ⟨x.1, 3, none⟩ = some u2)
    (hz : Fz w x.1) {f : Nat} (hf : f = (L.map (·.1)).headD cb)
    (hw : w1 = ((((w.setCell ⟨x.1, 2, none⟩ (.pointer (some ⟨cb, 0, none⟩))).setCell ⟨x.1, 3, none⟩ (.pointer (some ⟨f, 0, none⟩))).setCell ⟨cb, 3, none⟩ (.pointer (some ⟨x.1, 0, none⟩))).setCell ⟨f, 2, none⟩ (.pointer (some ⟨x.1, 0, none⟩))).drew.drew) :
    Ring w1 cb (x :: L) ∧ w1.cell? ⟨cb, 4, none⟩ = some (.map (some mb)) ∧ w1.cell? ⟨cb, 5, none⟩ = some (.int .i64 bud) ∧ w1.cell? ⟨cb, 6, none⟩ = some (.int .i64 t) ∧ GMap strKy w1 mb m ∧ Frm (· ∈ x.1 :: cb :: L.map (·.1)) w w1 ∧ w1.frozen? ⟨cb, 6, none⟩ = false := by
  obtain ⟨_, hcx, hfx, hR⟩ := hr.use hf hx hk hv u1 u2 h2 h3 hz
  have co : ∀ u o, o ≠ 2 → o ≠ 3 → w1.cell? ⟨u, o, none⟩ = w.cell? ⟨u, o, none⟩ := by
    intro u o e2 e3
    rw [hw, World.cell?_drew, World.cell?_drew, set_off _ _ _ _ _ _ e2.symm, set_off _ _ _ _ _ _ e3.symm, set_off _ _ _ _ _ _ e3.symm, set_off _ _ _ _ _ _ e2.symm]
  have hfm : f ∈ x.1 :: cb :: L.map (·.1) := by
    have := headD_mem (L.map (·.1)) cb
    rw [← hf] at this
    simp only [List.mem_cons]
    grind
  have hF : Frm (· ∈ x.1 :: cb :: L.map (·.1)) w w1 := by
    rw [hw]
    exact (((((Frm.refl (· ∈ x.1 :: cb :: L.map (·.1)) w).setCell (p := ⟨x.1, 2, none⟩) (fun _ => List.mem_cons_self) _).setCell (p := ⟨x.1, 3, none⟩) (fun _ => List.mem_cons_self) _).setCell (p := ⟨cb, 3, none⟩) (fun _ => List.mem_cons_of_mem _ List.mem_cons_self) _).setCell (p := ⟨f, 2, none⟩) (fun _ => hfm) _).drew.drew
  refine ⟨hw ▸ hR, (co _ _ (by decide) (by decide)).trans c4, (co _ _ (by decide) (by decide)).trans c5, (co _ _ (by decide) (by decide)).trans c6, hm.frm hF (by simp only [List.mem_cons] at hmb ⊢; grind), hF, ?_⟩
  rw [hw, World.frozen?_drew, World.frozen?_drew, set_fz, set_fz, set_fz, set_fz]
  exact (hr.fz cb List.mem_cons_self).frozen 6

theorem find_upd {k : ByteArray} {x : Nat × KV} {l : List (Nat × KV)} {m : List (ByteArray × Value)} (h : ∀ k, assoc k m = (findI k l).map fun x => Value.pointer (some ⟨x.1, 0, none⟩)) (hx : x.2.1 = k) :
    ∀ k', assoc k' (upd k (.pointer (some ⟨x.1, 0, none⟩)) m) = (findI k' (x :: l)).map fun x => Value.pointer (some ⟨x.1, 0, none⟩) := by
  intro k'
  have e1 : assoc k' (upd k (.pointer (some ⟨x.1, 0, none⟩)) m) = if k = k' then some (.pointer (some ⟨x.1, 0, none⟩)) else assoc k' m := by
    clear h hx
    unfold upd
    split
    · rename_i ha
      unfold assoc
      rw [List.find?_map]
      split
      · rename_i e
        subst e
        have : (List.find? ((fun p : ByteArray × Value => decide (p.1 = k)) ∘ fun p => if p.1 = k then (k, Value.pointer (some ⟨x.1, 0, none⟩)) else p) m) = List.find? (fun p => decide (p.1 = k)) m := by
          congr 1; funext p; simp only [Function.comp]; split <;> simp_all
        rw [this]
        obtain ⟨q, hq1, hq2⟩ := List.any_eq_true.1 ha
        cases hf : List.find? (fun p : ByteArray × Value => decide (p.1 = k)) m with
        | none => exact absurd hq2 (by simpa using List.find?_eq_none.1 hf q hq1)
        | some q =>
          have := List.find?_some hf
          simp at this
          simp [this]
      · rename_i e
        have : (List.find? ((fun p : ByteArray × Value => decide (p.1 = k')) ∘ fun p => if p.1 = k then (k, Value.pointer (some ⟨x.1, 0, none⟩)) else p) m) = List.find? (fun p => decide (p.1 = k')) m := by
          congr 1; funext p; simp only [Function.comp]; split
          · rename_i hp; simp [e, hp]
          · rfl
        rw [this]
        cases hf : List.find? (fun p : ByteArray × Value => decide (p.1 = k')) m with
        | none => rfl
        | some q =>
          have := List.find?_some hf
          simp at this
          have hq : q.1 ≠ k := fun h => e (h.symm.trans this)
          simp [hq]
    · rename_i ha
      unfold assoc
      rw [List.find?_append]
      split
      · rename_i e
        subst e
        have : List.find? (fun p : ByteArray × Value => decide (p.1 = k)) m = none := by
          rw [List.find?_eq_none]; intro q hq hq2; exact ha (List.any_eq_true.2 ⟨q, hq, hq2⟩)
        simp [this]
      · rename_i e
        simp [e]
  rw [e1]
  unfold findI
  rw [List.find?_cons, hx]
  split
  · rename_i e; simp [e]
  · rename_i e; simp only [e, decide_false]; exact h k'
theorem find_nil : ∀ k, assoc k ([] : List (ByteArray × Value)) = (findI k []).map fun x => Value.pointer (some ⟨x.1, 0, none⟩) := fun _ => rfl

/-- the last ones go till the weight fits -/
def evictI (b : Nat) (l : List (Nat × KV)) : List (Nat × KV) := if _h : tot (kvs l) ≤ b ∨ l = [] then l else evictI b l.dropLast
termination_by l.length
decreasing_by
  have : l ≠ [] := fun e => _h (.inr e)
  have := List.length_pos_iff.2 this
  simp; omega
theorem evictI_fits {b : Nat} {l : List (Nat × KV)} (h : tot (kvs l) ≤ b) : evictI b l = l := by rw [evictI]; simp [h]
theorem evictI_snoc {b : Nat} {l : List (Nat × KV)} {x : Nat × KV} (h : b < tot (kvs (l ++ [x]))) : evictI b (l ++ [x]) = evictI b l := by
  rw [evictI, dif_neg (by simp; omega), List.dropLast_concat]
theorem woI_last {l : List (Nat × KV)} {x : Nat × KV} (hn : ((l ++ [x]).map (·.2.1)).Nodup) : woI x.2.1 (l ++ [x]) = l := by
  unfold woI
  rw [List.filter_append, List.filter_cons]
  simp only [decide_true, Bool.not_true, Bool.false_eq_true, if_false, List.filter_nil, List.append_nil]
  refine List.filter_eq_self.2 fun y hy => ?_
  simp only [List.map_append, List.nodup_append, List.map_cons, List.map_nil, List.mem_singleton] at hn
  have := hn.2.2 y.2.1 (List.mem_map.2 ⟨y, hy, rfl⟩) x.2.1 rfl
  simp [this]
theorem keys_woI {k : ByteArray} {l : List (Nat × KV)} (h : (l.map (·.2.1)).Nodup) : ((woI k l).map (·.2.1)).Nodup := by
  unfold woI
  exact (List.Pairwise.sublist ((List.filter_sublist).map _) h)
theorem not_mem_woI {k : ByteArray} {l : List (Nat × KV)} : k ∉ (woI k l).map (·.2.1) := by
  intro h
  obtain ⟨x, hx, rfl⟩ := List.mem_map.1 h
  have := (List.mem_filter.1 hx).2
  simp at this
end Go.Lru
namespace Go.Lru
open Go Go.Tk
/-- what the last one is -/
theorem Lru.last {w : World} {cb mb bud : Nat} {c : List (Nat × KV)} {x : Nat × KV} (h : Lru w cb mb bud (c ++ [x])) : w.cell? ⟨cb, 2, none⟩ = some (.pointer (some ⟨x.1, 0, none⟩)) ∧ w.cell? ⟨x.1, 0, none⟩ = some (.string x.2.1) := by
  refine ⟨?_, h.ring.key x (by simp)⟩
  have := (chain_last h.ring.chain).2
  simpa using this
theorem strSl_of_owns {w : World} {base e : Nat} {v : Value} {n : Nat} {ks : List ByteArray} (h : w.ownsRow base e 1 v n (ks.map Value.string)) : StrSl w v ks ∧ ∀ b, v.ownBlock = some b → base ≤ b := by
  refine ⟨?_, fun b hb => (h.lt b hb).1⟩
  have hl : ks.length = n := by have := h.1; simpa using this
  rcases h.2 with ⟨rfl, hn⟩ | ⟨g, cap, cur, rfl, hb, hg, hc, _, _, htake⟩
  · rw [hn] at hl
    have : ks = [] := List.length_eq_zero_iff.1 hl
    subst this
    exact ⟨none, 0, rfl, Nat.le_refl _, fun i hi => by simp at hi⟩
  · refine ⟨some ⟨g, 0, none⟩, cap, by rw [hl], by omega, fun i hi => ⟨g, 0, rfl, ?_⟩⟩
    have h1 : (ks.map Value.string)[i]? = some (.string ks[i]) := by simp [hi]
    rw [← htake, List.getElem?_take] at h1
    split at h1
    · rw [Nat.zero_add, cell_of_row w g i cur e (0, 0) hg]
      simpa using h1
    · cases h1
end Go.Lru
namespace Go.Lru
open Go Go.Tk
theorem owns_frm {w w' : World} {base e size : Nat} {v : Value} {n : Nat} {xs : List Value} {S : Nat → Prop} (h : w.ownsRow base e size v n xs) (hf : Frm S w w') (hs : ∀ b, base ≤ b → ¬ S b) : w'.ownsRow base e size v n xs := by
  refine ⟨h.1, ?_⟩
  rcases h.2 with hn | ⟨g, cap, cur, rfl, hb, hgg, rest⟩
  · exact .inl hn
  · exact .inr ⟨g, cap, cur, rfl, hb, hf.at hgg (hs g hb), rest⟩
end Go.Lru

namespace Go.Lru
open Go Go.Tk
/-! the plain law: lists of (key, val), the one used last first -/
def without (k : ByteArray) (l : List KV) : List KV := l.filter fun x => !decide (x.1 = k)
def evict (b : Nat) (l : List KV) : List KV := if _h : tot l ≤ b ∨ l = [] then l else evict b l.dropLast
termination_by l.length
decreasing_by
  have : l ≠ [] := fun e => _h (.inr e)
  have := List.length_pos_iff.2 this
  simp; omega
theorem tot_prefix {l m : List KV} (h : l <+: m) : tot l ≤ tot m := by
  obtain ⟨t, rfl⟩ := h; rw [tot_append]; omega
theorem evict_le (b : Nat) (l : List KV) : tot (evict b l) ≤ b := by
  induction hn : l.length generalizing l with
  | zero => have : l = [] := List.length_eq_zero_iff.1 hn; subst this; rw [evict]; simp [tot_nil]
  | succ n ih =>
    rw [evict]
    split
    · rename_i h
      rcases h with h | h
      · exact h
      · subst h; simp [tot_nil]
    · exact ih _ (by simp; omega)
theorem evict_prefix (b : Nat) (l : List KV) : evict b l <+: l := by
  induction hn : l.length generalizing l with
  | zero => have : l = [] := List.length_eq_zero_iff.1 hn; subst this; rw [evict]; simp
  | succ n ih =>
    rw [evict]
    split
    · exact List.prefix_refl _
    · exact (ih _ (by simp; omega)).trans (List.dropLast_prefix l)
theorem prefix_dropLast {l m : List KV} (h : l <+: m) (hne : l ≠ m) : l <+: m.dropLast := by
  obtain ⟨t, rfl⟩ := h
  have ht : t ≠ [] := fun e => hne (by simp [e])
  rw [List.dropLast_append_of_ne_nil ht]
  exact List.prefix_append _ _
/-- of the beginnings that fit it is the longest -/
theorem prefix_evict (b : Nat) (l m : List KV) (h : l <+: m) (hl : tot l ≤ b) : l <+: evict b m := by
  induction hn : m.length generalizing m with
  | zero => have : m = [] := List.length_eq_zero_iff.1 hn; subst this; rw [evict]; simpa using h
  | succ n ih =>
    rw [evict]
    split
    · exact h
    · rename_i hh
      refine ih _ (prefix_dropLast h ?_) (by simp; omega)
      rintro rfl
      exact hh (.inl hl)
theorem prefix_put {b1 b2 : Nat} (hb : b1 ≤ b2) {l m : List KV} (k v : ByteArray) (h : l <+: m) : evict b1 ((k, v) :: without k l) <+: evict b2 ((k, v) :: without k m) := by
  refine prefix_evict _ _ _ ((evict_prefix _ _).trans ?_) (Nat.le_trans (evict_le _ _) hb)
  exact List.cons_prefix_cons.2 ⟨rfl, h.filter _⟩
theorem kvs_woI (k : ByteArray) (l : List (Nat × KV)) : kvs (woI k l) = without k (kvs l) := by
  unfold kvs woI without
  rw [List.filter_map]; rfl
theorem kvs_evictI (b : Nat) (l : List (Nat × KV)) : kvs (evictI b l) = evict b (kvs l) := by
  induction hn : l.length generalizing l with
  | zero => have : l = [] := List.length_eq_zero_iff.1 hn; subst this; rw [evictI, evict]; simp [kvs]
  | succ n ih =>
    rw [evictI, evict]
    have e : kvs l = [] ↔ l = [] := by simp [kvs]
    by_cases h : tot (kvs l) ≤ b ∨ l = []
    · rw [dif_pos h, dif_pos (h.imp id e.2)]
    · rw [dif_neg h, dif_neg (fun h' => h (h'.imp id e.1)), ih _ (by simp; omega)]
      congr 1
      simp [kvs, List.map_dropLast]
theorem pre_put {b1 b2 : Nat} (hb : b1 ≤ b2) {l m : List (Nat × KV)} (x y : Nat) (k v : ByteArray) (h : kvs l <+: kvs m) :
    kvs (evictI b1 ((x, (k, v)) :: woI k l)) <+: kvs (evictI b2 ((y, (k, v)) :: woI k m)) := by
  rw [kvs_evictI, kvs_evictI]
  have e : ∀ (z : Nat) (q : List (Nat × KV)), kvs ((z, (k, v)) :: woI k q) = (k, v) :: without k (kvs q) := fun z q => by rw [← kvs_woI]; rfl
  rw [e, e]
  exact prefix_put hb k v h
theorem pre_drop (ks : List ByteArray) {l m : List (Nat × KV)} (h : kvs l <+: kvs m) : kvs (dropI ks l) <+: kvs (dropI ks m) := by
  unfold dropI
  induction ks generalizing l m with
  | nil => exact h
  | cons k ks ih => exact ih (by rw [kvs_woI, kvs_woI]; exact h.filter _)
theorem fp_put {cb mb b bud x : Nat} {kv : KV} {k : ByteArray} {l : List (Nat × KV)} (h : b ∈ fp cb mb (evictI bud ((x, kv) :: woI k l))) (hs : ∀ y ∈ evictI bud ((x, kv) :: woI k l), y ∈ (x, kv) :: woI k l) : b ∈ fp cb mb l ∨ b = x := by
  simp only [fp, List.mem_cons, List.mem_map] at h ⊢
  rcases h with h | h | ⟨y, hy, rfl⟩
  · exact .inl (.inl h)
  · exact .inl (.inr (.inl h))
  · rcases List.mem_cons.1 (hs y hy) with rfl | hy
    · exact .inr rfl
    · exact .inl (.inr (.inr ⟨y, sub_woI' y hy, rfl⟩))
where
  sub_woI' {k : ByteArray} {l : List (Nat × KV)} (y : Nat × KV) (h : y ∈ woI k l) : y ∈ l := (List.mem_filter.1 h).1
theorem keys_take {l m : List (Nat × KV)} (h : kvs l <+: kvs m) : l.map (·.2.1) = (m.map (·.2.1)).take l.length ∧ l.length ≤ m.length := by
  have e : ∀ q : List (Nat × KV), q.map (·.2.1) = (kvs q).map (·.1) := fun q => by simp [kvs]
  refine ⟨?_, by have := h.length_le; simpa [kvs] using this⟩
  rw [e, e, ← List.map_take]
  congr 1
  rw [List.prefix_iff_eq_take.1 h]
  simp [kvs]
end Go.Lru
