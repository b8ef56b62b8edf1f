/- A text of a claim's proof: see the last text of the claim. -/
import Derived.WalkKit
import Derived.MapKept
import Derived.Maps.OwnSet
import Derived.Deep.Quiet
import Derived.LaidEqlPtr
set_option linter.all false
namespace Go.Tk
open Go Go.MapKept

/-! ### what may have turned: the blocks of S, and new ones -/
structure Frm (S : Nat → Prop) (w w' : World) : Prop where
  os : w'.os = w.os
  tape : w'.tape = w.tape
  output : w'.output = w.output
  size : w.heap.size ≤ w'.heap.size
  block : ∀ k, k < w.heap.size → ¬ S k → w'.heap[k]? = w.heap[k]?

theorem Frm.refl (S : Nat → Prop) (w : World) : Frm S w w := ⟨rfl, rfl, rfl, Nat.le_refl _, fun _ _ _ => rfl⟩
theorem Frm.mono {S T : Nat → Prop} {w w' : World} (h : Frm S w w') (hst : ∀ k, k < w.heap.size → S k → T k) : Frm T w w' :=
  ⟨h.os, h.tape, h.output, h.size, fun k hk hn => h.block k hk fun hs => hn (hst k hk hs)⟩
theorem Frm.trans' {S T : Nat → Prop} {a b c : World} (h : Frm S a b) (k : Frm T b c) (hst : ∀ x, x < a.heap.size → T x → S x) : Frm S a c :=
  ⟨k.os.trans h.os, k.tape.trans h.tape, k.output.trans h.output, Nat.le_trans h.size k.size,
    fun i hi hn => (k.block i (Nat.lt_of_lt_of_le hi h.size) fun ht => hn (hst i hi ht)).trans (h.block i hi hn)⟩
theorem Frm.trans {S : Nat → Prop} {a b c : World} (h : Frm S a b) (k : Frm S b c) : Frm S a c := h.trans' k fun _ _ h => h
theorem Frm.drew {S : Nat → Prop} {a w : World} (h : Frm S a w) : Frm S a w.drew := ⟨h.os, h.tape, h.output, h.size, h.block⟩
theorem Frm.drewN {S : Nat → Prop} {a w : World} (h : Frm S a w) (n : Nat) : Frm S a (w.drewN n) := ⟨h.os, h.tape, h.output, h.size, h.block⟩
theorem Frm.alloc {S : Nat → Prop} {a w : World} (h : Frm S a w) (o : Obj) : Frm S a (w.alloc o) :=
  h.trans ⟨rfl, rfl, rfl, by simp, fun k hk _ => Go.RowKit.Below.heap_alloc _ _ _ hk⟩
theorem Frm.setCell {S : Nat → Prop} {a w : World} (h : Frm S a w) {p : Addr} (hp : p.block < a.heap.size → S p.block) (u : Value) : Frm S a (w.setCell p u) :=
  ⟨h.os, h.tape, h.output, by simpa using h.size, fun k hk hn => by
    rw [Go.RowKit.Below.heap_setCell _ _ _ _ (fun e => hn (by rw [e]; exact hp (by rw [← e]; exact hk)))]; exact h.block k hk hn⟩
theorem Frm.below {S : Nat → Prop} {w w' : World} (h : Frm S w w') (hs : ∀ k, k < w.heap.size → ¬ S k) : Go.RowKit.Below w.heap.size w w' :=
  ⟨h.os, h.tape, h.output, h.size, fun k hk => h.block k hk (hs k hk)⟩
theorem Frm.of_below {S : Nat → Prop} {w w' : World} (h : Go.RowKit.Below w.heap.size w w') : Frm S w w' := ⟨h.os, h.tape, h.output, h.size, fun k hk _ => h.block k hk⟩
theorem Frm.of_grown {S : Nat → Prop} {w w' : World} {row : Option Nat} (h : w.grownBy w' row) (hs : ∀ k, row = some k → k < w.heap.size → S k) : Frm S w w' :=
  ⟨h.os, h.tape, h.output, h.size, fun k hk hn => h.block k hk fun e => hn (hs k e.symm hk)⟩
theorem Frm.cell {S : Nat → Prop} {w w' : World} (h : Frm S w w') {p : Addr} (hp : p.block < w.heap.size) (hn : ¬ S p.block) : w'.cell? p = w.cell? p :=
  World.cell?_of_block (h.block p.block hp hn)
theorem Frm.frozen {S : Nat → Prop} {w w' : World} (h : Frm S w w') {p : Addr} (hp : p.block < w.heap.size) (hn : ¬ S p.block) : w'.frozen? p = w.frozen? p :=
  World.frozen?_of_block (h.block p.block hp hn)
theorem Frm.at {S : Nat → Prop} {w w' : World} (h : Frm S w w') {b : Nat} {o : Obj} (hb : w.heap[b]? = some o) (hn : ¬ S b) : w'.heap[b]? = some o :=
  (h.block b (Array.getElem?_eq_some_iff.1 hb).1 hn).trans hb

theorem set_off (w : World) (b b' o o' : Nat) (v : Value) (h : o ≠ o') : (w.setCell ⟨b, o, none⟩ v).cell? ⟨b', o', none⟩ = w.cell? ⟨b', o', none⟩ :=
  World.cell?_setCell_other _ _ _ _ (fun e => h (congrArg Addr.off e))
theorem set_blk (w : World) (b b' o o' : Nat) (v : Value) (h : b ≠ b') : (w.setCell ⟨b, o, none⟩ v).cell? ⟨b', o', none⟩ = w.cell? ⟨b', o', none⟩ :=
  World.cell?_setCell_other _ _ _ _ (fun e => h (congrArg Addr.block e))
theorem set_same (w : World) (b o : Nat) (v u : Value) (h : w.cell? ⟨b, o, none⟩ = some u) : (w.setCell ⟨b, o, none⟩ v).cell? ⟨b, o, none⟩ = some v :=
  World.cell?_setCell_same _ _ _ h
theorem set_some (w : World) (a : Addr) (v : Value) {b : Addr} {u : Value} (h : w.cell? b = some u) : ∃ u', (w.setCell a v).cell? b = some u' := by
  by_cases e : a = b
  · subst e; exact ⟨v, World.cell?_setCell_same _ _ _ h⟩
  · exact ⟨u, by rw [World.cell?_setCell_other _ _ _ _ e]; exact h⟩
theorem set_fz (w : World) (a b : Addr) (v : Value) : (w.setCell a v).frozen? b = w.frozen? b := World.frozen?_setCell _ _ _ _

/-- a block of cells that may be written -/
def Fz (w : World) (b : Nat) : Prop := ∃ c T, w.heap[b]? = some (.cells c T (0, 0))
theorem Fz.frozen {w : World} {b : Nat} (h : Fz w b) (o : Nat) : w.frozen? ⟨b, o, none⟩ = false := by
  obtain ⟨c, T, h⟩ := h
  simp [World.frozen?, h]
theorem Fz.set {w : World} {b : Nat} (h : Fz w b) (a : Addr) (v : Value) : Fz (w.setCell a v) b := by
  obtain ⟨c, T, h⟩ := h
  by_cases e : b = a.block
  · subst e
    refine ⟨if a.spot.isSome then c else c.setIfInBounds a.off v, T, ?_⟩
    simp only [World.setCell, Array.getElem?_modify, h]
    simp
  · exact ⟨c, T, (Go.RowKit.Below.heap_setCell _ _ _ _ e).trans h⟩
theorem Fz.drew {w : World} {b : Nat} (h : Fz w b) : Fz w.drew b := h
theorem Fz.frm {S : Nat → Prop} {w w' : World} {b : Nat} (h : Fz w b) (hf : Frm S w w') (hn : ¬ S b) : Fz w' b := by
  obtain ⟨c, T, h⟩ := h
  exact ⟨c, T, hf.at h hn⟩
theorem Fz.new (w : World) (c : Array Value) (T : TypeId) : Fz (w.alloc (.cells c T)) w.heap.size := ⟨c, T, heap_alloc_new w _⟩

theorem lt_of_heap {w : World} {b : Nat} {o : Obj} (hb : w.heap[b]? = some o) : b < w.heap.size := (Array.getElem?_eq_some_iff.1 hb).1

/-! ### maps, as lists -/
/-- the keys of a kind -/
structure Ky (α : Type) where
  f : α → Value
  d : TypeDesc
  inj : ∀ {a b : α}, f a = f b → a = b
  key : ∀ a, IsKey d (f a)
def strKy : Ky ByteArray := ⟨.string, .string, fun h => by injection h, fun _ => trivial⟩
def i64Ky : Ky Int := ⟨.int .i64, .int .i64, fun h => by injection h, fun _ => rfl⟩

variable {α : Type} [DecidableEq α] {K : Ky α}

def assoc (k : α) (l : List (α × Value)) : Option Value := (l.find? fun p => decide (p.1 = k)).map (·.2)
def upd (k : α) (v : Value) (l : List (α × Value)) : List (α × Value) :=
  if l.any (fun p => decide (p.1 = k)) then l.map (fun p => if p.1 = k then (k, v) else p) else l ++ [(k, v)]
def del (k : α) (l : List (α × Value)) : List (α × Value) := l.filter fun p => !decide (p.1 = k)

def GMap (K : Ky α) (w : World) (b : Nat) (l : List (α × Value)) : Prop :=
  ∃ es clock, w.heap[b]? = some (.map es clock) ∧ Stamped es clock ∧ es.toList.map (fun e => (e.key, e.val)) = l.map (fun p => (K.f p.1, p.2))

theorem GMap.lt {w : World} {b : Nat} {l : List (α × Value)} (h : GMap K w b l) : b < w.heap.size := by
  obtain ⟨es, c, hb, _⟩ := h; exact lt_of_heap hb
theorem GMap.of_block {w w' : World} {b : Nat} {l : List (α × Value)} (h : GMap K w b l) (hb : w'.heap[b]? = w.heap[b]?) : GMap K w' b l := by
  obtain ⟨es, c, h1, h2⟩ := h; exact ⟨es, c, hb.trans h1, h2⟩
theorem GMap.frm {S : Nat → Prop} {w w' : World} {b : Nat} {l : List (α × Value)} (h : GMap K w b l) (hf : Frm S w w') (hn : ¬ S b) : GMap K w' b l := h.of_block (hf.block b h.lt hn)
theorem GMap.made (w : World) : GMap K (w.alloc (.map #[] 0)) w.heap.size [] := ⟨#[], 0, (heap_alloc w _).1, stamped_empty 0, rfl⟩

theorem GMap.nodup {w : World} {b : Nat} {l : List (α × Value)} (h : GMap K w b l) : (l.map (·.1)).Nodup := by
  obtain ⟨es, c, _, ⟨_, _, h3⟩, he⟩ := h
  have e1 : es.toList.map (·.key) = (l.map (·.1)).map K.f := by
    have := congrArg (List.map (·.1)) he
    simp only [List.map_map] at this ⊢
    exact this
  rw [e1] at h3
  exact (List.pairwise_map.1 h3).imp (fun {a b} hab e => hab (by rw [e]))

theorem isKey_of {es : Array MapEntry} {l : List (α × Value)} (he : es.toList.map (fun e => (e.key, e.val)) = l.map (fun p => (K.f p.1, p.2))) : ∀ x ∈ es.toList, IsKey K.d x.key := by
  intro x hx
  have : (x.key, x.val) ∈ l.map (fun p => (K.f p.1, p.2)) := by rw [← he]; exact List.mem_map.2 ⟨x, hx, rfl⟩
  obtain ⟨p, _, hp⟩ := List.mem_map.1 this
  have e1 : K.f p.1 = x.key := congrArg (·.1) hp
  rw [← e1]; exact K.key _

theorem getElem_of {es : Array MapEntry} {l : List (α × Value)} (he : es.toList.map (fun e => (e.key, e.val)) = l.map (fun p => (K.f p.1, p.2))) (j : Nat) {e : MapEntry} (hj : es.toList[j]? = some e) :
    ∃ p, l[j]? = some p ∧ e.key = K.f p.1 ∧ e.val = p.2 := by
  have h1 := congrArg (·[j]?) he
  simp only [List.getElem?_map, hj, Option.map_some] at h1
  cases hl : l[j]? with
  | none => rw [hl] at h1; cases h1
  | some p =>
    rw [hl] at h1
    simp at h1
    exact ⟨p, rfl, h1.1, h1.2⟩

theorem assoc_of_getElem {l : List (α × Value)} (hn : (l.map (·.1)).Nodup) {j : Nat} {p : α × Value} (hj : l[j]? = some p) : assoc p.1 l = some p.2 := by
  unfold assoc
  induction l generalizing j with
  | nil => simp at hj
  | cons x l ih =>
    rw [List.find?_cons]
    cases j with
    | zero => simp at hj; subst hj; simp
    | succ j =>
      simp at hj
      simp only [List.map_cons, List.nodup_cons] at hn
      have hne : x.1 ≠ p.1 := fun e => hn.1 (by rw [e]; exact List.mem_map.2 ⟨p, List.mem_of_getElem? hj, rfl⟩)
      simp only [hne, decide_false]
      exact ih hn.2 hj

theorem assoc_none {k : α} {l : List (α × Value)} (h : ∀ p ∈ l, p.1 ≠ k) : assoc k l = none := by
  unfold assoc
  rw [List.find?_eq_none.2 (fun p hp => by simp [h p hp])]; rfl

section
variable {P : Program} {t k e : TypeId} {w : World} {b : Nat} {l : List (α × Value)}

/-- which entry a key has -/
theorem GMap.find (h : GMap K w b l) (hk : P.underlying k = some K.d) (s : α) :
    ∃ es clock, w.heap[b]? = some (.map es clock) ∧ Stamped es clock ∧ es.toList.map (fun e => (e.key, e.val)) = l.map (fun p => (K.f p.1, p.2)) ∧
      (((Instr.findKey k (K.f s) es.toList).run P w = .ok none w ∧ assoc s l = none ∧ (∀ p ∈ l, p.1 ≠ s) ∧ ∀ x ∈ es.toList, x.key ≠ K.f s) ∨
       ∃ j x v, (Instr.findKey k (K.f s) es.toList).run P w = .ok (some (j, v)) w ∧ es.toList[j]? = some x ∧ l[j]? = some (s, v) ∧ x.key = K.f s ∧ x.val = v ∧ assoc s l = some v) := by
  have hn := h.nodup
  obtain ⟨es, c, hb, hs, he⟩ := h
  refine ⟨es, c, hb, hs, he, ?_⟩
  rcases findNow_spec (d := K.d) (k := K.f s) (K.key s) es.toList 0 (isKey_of he) with ⟨h1, h2⟩ | ⟨j, x, h1, h2, h3⟩
  · refine .inl ⟨MapKept.run_findKey hk h1, ?_⟩
    have hno : ∀ p ∈ l, p.1 ≠ s := by
      intro p hp hps
      have : (K.f p.1, p.2) ∈ es.toList.map (fun e => (e.key, e.val)) := by rw [he]; exact List.mem_map.2 ⟨p, hp, rfl⟩
      obtain ⟨x, hx, hxe⟩ := List.mem_map.1 this
      simp at hxe
      exact h2 x hx (by rw [hxe.1, hps])
    exact ⟨assoc_none hno, hno, h2⟩
  · obtain ⟨p, hp, hk1, hv1⟩ := getElem_of he j h2
    rw [h3] at hk1
    have hk1 := K.inj hk1
    have hps : p = (s, x.val) := by rw [hv1, hk1]
    subst hps
    refine .inr ⟨j, x, x.val, by simpa using MapKept.run_findKey hk h1, h2, hp, h3, rfl, ?_⟩
    exact assoc_of_getElem hn hp

theorem GMap.run_lookup (h : GMap K w b l) (ht : P.underlying t = some (.map k e)) (hk : P.underlying k = some K.d) {z : Value} (hz : (zeroValue e).run P w = .ok z w) (s : α) :
    (Instr.lookup t (.map (some b)) (K.f s) false).run P w = .ok ((assoc s l).getD z) w := by
  obtain ⟨es, c, hb, _, _, h⟩ := h.find hk s
  rcases h with ⟨h1, h2, _⟩ | ⟨j, x, v, h1, _, _, _, _, h2⟩ <;>
  simp [Instr.lookup, run_underlying ht, MapKept.run_getObj_map hb, MapKept.run_checkKey hk (k := K.f s) (K.key s), h1, h2, hz, Result.andThen]

theorem GMap.run_lookup_ok (h : GMap K w b l) (ht : P.underlying t = some (.map k e)) (hk : P.underlying k = some K.d) {z : Value} (hz : (zeroValue e).run P w = .ok z w) (s : α) :
    (Instr.lookup t (.map (some b)) (K.f s) true).run P w = .ok (.tuple #[(assoc s l).getD z, .bool (assoc s l).isSome]) w := by
  obtain ⟨es, c, hb, _, _, h⟩ := h.find hk s
  rcases h with ⟨h1, h2, _⟩ | ⟨j, x, v, h1, _, _, _, _, h2⟩ <;>
  simp [Instr.lookup, run_underlying ht, MapKept.run_getObj_map hb, MapKept.run_checkKey hk (k := K.f s) (K.key s), h1, h2, hz, Result.andThen]

theorem heap_setObj {b : Nat} {o o' : Obj} (hb : w.heap[b]? = some o) : Frm (· = b) w { w with heap := w.heap.setIfInBounds b o' } :=
  ⟨rfl, rfl, rfl, by simp, fun k _ hn => (heap_set hb).2 k hn⟩

theorem GMap.run_update (h : GMap K w b l) (ht : P.underlying t = some (.map k e)) (hk : P.underlying k = some K.d) (s : α) (v : Value) :
    ∃ w', (Instr.mapUpdate t (.map (some b)) (K.f s) v).run P w = .ok () w' ∧ GMap K w' b (upd s v l) ∧ Frm (· = b) w w' := by
  have hn := h.nodup
  obtain ⟨es, c, hb, hs, he, h⟩ := h.find hk s
  rcases h with ⟨h1, h2, h3, h4⟩ | ⟨j, x, u, h1, h2, h3, h4, h5, h6⟩
  · refine ⟨_, by simp [Instr.mapUpdate, run_underlying ht, MapKept.run_getObj_map hb, MapKept.run_checkKey hk (k := K.f s) (K.key s), h1, MapKept.run_setObj_map _ hb, Result.andThen]; rfl, ?_, heap_setObj hb⟩
    refine ⟨_, _, (heap_set hb).1, stamped_push hs h4, ?_⟩
    have : l.any (fun p => decide (p.1 = s)) = false := by rw [List.any_eq_false]; exact fun p hp => by simp [h3 p hp]
    simp only [upd, this]
    simp [he]
  · have hj : es[j]? = some x := by simpa using h2
    refine ⟨_, by simp [Instr.mapUpdate, run_underlying ht, MapKept.run_getObj_map hb, MapKept.run_checkKey hk (k := K.f s) (K.key s), h1, hj, h4, MapKept.run_keyThatStays (d := K.d) (k := K.f s) (K.key s), MapKept.run_setObj_map _ hb, Result.andThen]; rfl, ?_, heap_setObj hb⟩
    refine ⟨_, _, (heap_set hb).1, stamped_modify hs j _ (fun _ _ => rfl) (fun e0 _ h0 => by rw [hj] at h0; cases h0; exact h4.symm), ?_⟩
    have : l.any (fun p => decide (p.1 = s)) = true := List.any_eq_true.2 ⟨_, List.mem_of_getElem? h3, by simp⟩
    simp only [upd, this, if_true]
    apply List.ext_getElem?
    intro i
    have hi := congrArg (·[i]?) he
    simp only [List.getElem?_map] at hi
    simp only [List.getElem?_map, Array.getElem?_toList, Array.getElem?_modify]
    by_cases hij : j = i
    · subst hij
      simp [hj, h3]
    · rw [if_neg hij]
      rw [Array.getElem?_toList] at hi
      rw [hi]
      cases hl : l[i]? with
      | none => rfl
      | some p =>
        have hne : p.1 ≠ s := by
          intro hp
          have hi1 : i < l.length := (List.getElem?_eq_some_iff.1 hl).1
          have hj1 : j < l.length := (List.getElem?_eq_some_iff.1 h3).1
          have e1 : (l.map (·.1))[j]'(by simpa using hj1) = (l.map (·.1))[i]'(by simpa using hi1) := by
            simp [(List.getElem?_eq_some_iff.1 hl).2, (List.getElem?_eq_some_iff.1 h3).2, hp]
          exact hij ((List.getElem_inj hn).1 e1)
        simp [hne]

theorem GMap.run_delete (hG : GMap K w b l) (ht : P.underlying t = some (.map k e)) (hk : P.underlying k = some K.d) (s : α) (t2 ty : TypeId) :
    ∃ w', (Builtin.delete_ #[t, t2] ty #[.map (some b), K.f s]).run P w = .ok (.tuple #[]) w' ∧ GMap K w' b (del s l) ∧ Frm (· = b) w w' := by
  have hn := hG.nodup
  obtain ⟨es, c, hb, hs, he, h⟩ := hG.find hk s
  clear hG
  rcases h with ⟨h1, h2, h3, h4⟩ | ⟨j, x, u, h1, h2, h3, h4, h5, h6⟩
  · refine ⟨_, by simp [Builtin.delete_, run_underlying ht, MapKept.run_getObj_map hb, MapKept.run_checkKey hk (k := K.f s) (K.key s), h1, MapKept.run_setObj_map _ hb, Result.andThen]; rfl, ?_, heap_setObj hb⟩
    refine ⟨_, _, (heap_set hb).1, hs, ?_⟩
    have : del s l = l := List.filter_eq_self.2 (fun p hp => by simp [h3 p hp])
    rw [this]; exact he
  · refine ⟨_, by simp [Builtin.delete_, run_underlying ht, MapKept.run_getObj_map hb, MapKept.run_checkKey hk (k := K.f s) (K.key s), h1, MapKept.run_setObj_map _ hb, Result.andThen]; rfl, ?_, heap_setObj hb⟩
    refine ⟨_, _, (heap_set hb).1, stamped_erase hs j, ?_⟩
    have hj1 : j < l.length := (List.getElem?_eq_some_iff.1 h3).1
    have e1 : del s l = l.eraseIdx j := by
      have hlj : l[j] = (s, u) := (List.getElem?_eq_some_iff.1 h3).2
      unfold del
      clear h2 h1 he hb hs h6
      induction l generalizing j with
      | nil => simp at hj1
      | cons p l ih =>
        simp only [List.map_cons, List.nodup_cons] at hn
        cases j with
        | zero =>
          simp at hlj
          subst hlj
          rw [List.filter_cons]
          simp
          refine fun a v ha => fun e => ?_
          subst e
          exact hn.1 (List.mem_map.2 ⟨(a, v), ha, rfl⟩)
        | succ j =>
          simp at hlj hj1 h3
          have hne : p.1 ≠ s := fun e => hn.1 (by rw [e]; exact List.mem_map.2 ⟨(s, u), List.mem_of_getElem? h3, rfl⟩)
          rw [List.filter_cons]
          simp only [hne, decide_false, Bool.not_false, if_true, List.eraseIdx_cons_succ]
          rw [ih hn.2 j h3 hj1 hlj]
    rw [e1]
    have hme : ∀ {β γ : Type} (g : β → γ) (m : List β) (i : Nat), (m.eraseIdx i).map g = (m.map g).eraseIdx i := by
      intro β γ g m
      induction m with
      | nil => intro i; rfl
      | cons x m ih => intro i; cases i <;> simp [ih]
    rw [hme, ← he, ← hme]
    simp

theorem GMap.run_len (h : GMap K w b l) (ht : P.underlying t = some (.map k e)) (ty : TypeId) : (Builtin.len_ #[t] ty #[.map (some b)]).run P w = .ok (.int .i64 l.length) w := by
  obtain ⟨es, c, hb, _, he⟩ := h
  have : es.size = l.length := by have := congrArg List.length he; simpa using this
  simp [Builtin.len_, Builtin.lenOf, run_underlying ht, MapKept.run_getObj_map hb, Result.andThen, this, goInt]
end

/-! ### the same at an operation of a walk -/
section
variable {P : Program} {t k e : TypeId} {w : World} {b : Nat} {l : List (α × Value)} {ops : Array Oper} {rest : List Oper} {o : Oper} {a : Act} {Q : Exit → Act → World → Prop}

theorem wpList_lookup_g (h : GMap K w b l) (ht : P.underlying t = some (.map k e)) (hk : P.underlying k = some K.d) {z : Value} (hz : ∀ w, (zeroValue e).run P w = .ok z w) (s : α)
    (hg : o.guard = none) (m x : Operand) (hop : o.op = Op.lookup t m x false) (hm : a.eval m = .map (some b)) (hx : a.eval x = K.f s)
    (hK : wpList P ops Q rest (a.put o.dst ((assoc s l).getD z)) w) : wpList P ops Q (o :: rest) a w := by
  refine wpList_plain hg fun K' hK' => ?_
  unfold Oper.wp
  simp [execOp, hop, hm, hx, h.run_lookup ht hk (hz w) s, Result.andThen]
  exact hK' _ _ hK
theorem wpList_lookup_ok_g (h : GMap K w b l) (ht : P.underlying t = some (.map k e)) (hk : P.underlying k = some K.d) {z : Value} (hz : ∀ w, (zeroValue e).run P w = .ok z w) (s : α)
    (hg : o.guard = none) (m x : Operand) (hop : o.op = Op.lookup t m x true) (hm : a.eval m = .map (some b)) (hx : a.eval x = K.f s)
    (hK : wpList P ops Q rest (a.put o.dst (.tuple #[(assoc s l).getD z, .bool (assoc s l).isSome])) w) : wpList P ops Q (o :: rest) a w := by
  refine wpList_plain hg fun K' hK' => ?_
  unfold Oper.wp
  simp [execOp, hop, hm, hx, h.run_lookup_ok ht hk (hz w) s, Result.andThen]
  exact hK' _ _ hK
theorem wpList_update_g (h : GMap K w b l) (ht : P.underlying t = some (.map k e)) (hk : P.underlying k = some K.d) (s : α) (v : Value)
    (hg : o.guard = none) (m x y : Operand) (hop : o.op = Op.mapUpdate t m x y) (hm : a.eval m = .map (some b)) (hx : a.eval x = K.f s) (hy : a.eval y = v)
    (hK : ∀ w', GMap K w' b (upd s v l) → Frm (· = b) w w' → wpList P ops Q rest (a.put o.dst undef) w') : wpList P ops Q (o :: rest) a w := by
  refine wpList_plain hg fun K' hK' => ?_
  obtain ⟨w', hrun, r1, r2⟩ := h.run_update ht hk s v
  unfold Oper.wp
  simp [execOp, hop, hm, hx, hy, hrun, Result.andThen]
  exact hK' _ _ (hK w' r1 r2)
theorem wpList_delete_g (h : GMap K w b l) (ht : P.underlying t = some (.map k e)) (hk : P.underlying k = some K.d) (s : α) (t2 : TypeId)
    (hg : o.guard = none) (m x : Operand) (hop : o.op = Op.call { callee := Callee.builtin Builtin.delete, args := #[m, x], argTypes := #[t, t2] }) (hm : a.eval m = .map (some b)) (hx : a.eval x = K.f s)
    (hK : ∀ w', GMap K w' b (del s l) → Frm (· = b) w w' → wpList P ops Q rest (a.put o.dst (.tuple #[])) w') : wpList P ops Q (o :: rest) a w := by
  refine wpList_plain hg fun K' hK' => ?_
  obtain ⟨w', hrun, r1, r2⟩ := h.run_delete ht hk s t2 o.type
  unfold Oper.wp
  simp [execOp, hop, resolve, invoke, builtin, hm, hx, hrun, Result.andThen]
  exact hK' _ _ (hK w' r1 r2)
theorem wpList_len_g (h : GMap K w b l) (ht : P.underlying t = some (.map k e))
    (hg : o.guard = none) (m : Operand) (hop : o.op = Op.call { callee := Callee.builtin Builtin.len, args := #[m], argTypes := #[t] }) (hm : a.eval m = .map (some b))
    (hK : wpList P ops Q rest (a.put o.dst (.int .i64 l.length)) w) : wpList P ops Q (o :: rest) a w := by
  refine wpList_plain hg fun K' hK' => ?_
  unfold Oper.wp
  simp [execOp, hop, resolve, invoke, builtin, hm, h.run_len ht o.type, Result.andThen]
  exact hK' _ _ hK
end
end Go.Tk

namespace Go.Tk
open Go
section
variable {P : Program} (w : World)
theorem run_neq_ptr_same {tp te : TypeId} {j : TypeInfo} (a : Addr) (hp : P.underlying tp = some (.pointer te)) (hte : P.info? te = some j) :
    (binOp .neq tp (.pointer (some a)) (.pointer (some a))).run P w = .ok (.bool false) w := by
  have h : ∀ d : Nat, (Op.equalIn (d + 1) tp (.pointer (some a)) (.pointer (some a))).run P w = .ok true w := fun d => by
    simp [Op.equalIn, run_underlying hp, sizeOf, typeInfo, hte, run_sameAddr_same]
  simp only [binOp]
  simp [Op.equal, Op.maxDepth, h 9999]
theorem run_neq_ptr_other {tp te : TypeId} {j : TypeInfo} {a b : Nat} (hp : P.underlying tp = some (.pointer te)) (hte : P.info? te = some j) (hsz : j.size ≠ 0)
    (hne : a ≠ b) (ha : Fz w a) (hb : Fz w b) :
    (binOp .neq tp (.pointer (some ⟨a, 0, none⟩)) (.pointer (some ⟨b, 0, none⟩))).run P w = .ok (.bool true) w := by
  obtain ⟨ca, ta, ha⟩ := ha
  obtain ⟨cb, tb, hb⟩ := hb
  have h : ∀ d : Nat, (Op.equalIn (d + 1) tp (.pointer (some ⟨a, 0, none⟩)) (.pointer (some ⟨b, 0, none⟩))).run P w = .ok false w := fun d => by
    simp [Op.equalIn, run_underlying hp, sizeOf, typeInfo, hte, hsz, run_sameAddr_other w (a := ⟨a, 0, none⟩) (b := ⟨b, 0, none⟩) (fun e => hne (congrArg Addr.block e)) ha hb]
  simp only [binOp]
  simp [Op.equal, Op.maxDepth, h 9999]
theorem run_eql_ptr_other' {tp te : TypeId} {j : TypeInfo} {a b : Nat} (hp : P.underlying tp = some (.pointer te)) (hte : P.info? te = some j) (hsz : j.size ≠ 0)
    (hne : a ≠ b) (ha : Fz w a) (hb : Fz w b) :
    (binOp .eql tp (.pointer (some ⟨a, 0, none⟩)) (.pointer (some ⟨b, 0, none⟩))).run P w = .ok (.bool false) w := by
  obtain ⟨ca, ta, ha⟩ := ha
  obtain ⟨cb, tb, hb⟩ := hb
  exact run_eql_ptr_other w hp hte hsz (fun e => hne (congrArg Addr.block e)) ha hb
end
end Go.Tk
