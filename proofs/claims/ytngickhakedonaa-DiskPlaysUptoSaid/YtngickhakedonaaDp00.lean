/- A text of a claim's proof: see the last text of the claim. -/
import Derived.WalkKit
import Derived.MapKept
import Derived.Maps.OwnSet
import Derived.Deep.Quiet
import Derived.LaidEqlPtr
import Derived.Maps.RangeRun
import Derived.Lib.SliceRun
import Derived.ArgAppend
import Derived.OwnWalk
import Derived.Test.YtngickhakedonaaRows
import Derived.WalkSpells
import Derived.RegionTactic
import Derived.ChangeAlike
import Derived.BigRegion
import Derived.Deep.QuietTactic
import Derived.BigQuiet
import Derived.Lib.Hide
import Derived.Lib.SlicesS
import Derived.Deep.LoopGhost
import Derived.Maps.AppendAt
set_option linter.all false
namespace Go.Tk
open Go Go.MapKept

/-! ### what may have turned: the blocks of S, and new ones -/
structure Frm (S : Nat → Prop) (w w' : World) : Prop where
  os : w'.os = w.os
  tape : w'.tape = w.tape
  output : w'.output = w.output
  size : w.heap.size ≤ w'.heap.size
  block : ∀ k, k < w.heap.size → ¬ S k → w'.heap[k]? = w.heap[k]?

theorem Frm.refl (S : Nat → Prop) (w : World) : Frm S w w := ⟨rfl, rfl, rfl, Nat.le_refl _, fun _ _ _ => rfl⟩
theorem Frm.mono {S T : Nat → Prop} {w w' : World} (h : Frm S w w') (hst : ∀ k, k < w.heap.size → S k → T k) : Frm T w w' :=
  ⟨h.os, h.tape, h.output, h.size, fun k hk hn => h.block k hk fun hs => hn (hst k hk hs)⟩
theorem Frm.trans' {S T : Nat → Prop} {a b c : World} (h : Frm S a b) (k : Frm T b c) (hst : ∀ x, x < a.heap.size → T x → S x) : Frm S a c :=
  ⟨k.os.trans h.os, k.tape.trans h.tape, k.output.trans h.output, Nat.le_trans h.size k.size,
    fun i hi hn => (k.block i (Nat.lt_of_lt_of_le hi h.size) fun ht => hn (hst i hi ht)).trans (h.block i hi hn)⟩
theorem Frm.trans {S : Nat → Prop} {a b c : World} (h : Frm S a b) (k : Frm S b c) : Frm S a c := h.trans' k fun _ _ h => h
theorem Frm.drew {S : Nat → Prop} {a w : World} (h : Frm S a w) : Frm S a w.drew := ⟨h.os, h.tape, h.output, h.size, h.block⟩
theorem Frm.drewN {S : Nat → Prop} {a w : World} (h : Frm S a w) (n : Nat) : Frm S a (w.drewN n) := ⟨h.os, h.tape, h.output, h.size, h.block⟩
theorem Frm.alloc {S : Nat → Prop} {a w : World} (h : Frm S a w) (o : Obj) : Frm S a (w.alloc o) :=
  h.trans ⟨rfl, rfl, rfl, by simp, fun k hk _ => Go.RowKit.Below.heap_alloc _ _ _ hk⟩
theorem Frm.setCell {S : Nat → Prop} {a w : World} (h : Frm S a w) {p : Addr} (hp : p.block < a.heap.size → S p.block) (u : Value) : Frm S a (w.setCell p u) :=
  ⟨h.os, h.tape, h.output, by simpa using h.size, fun k hk hn => by
    rw [Go.RowKit.Below.heap_setCell _ _ _ _ (fun e => hn (by rw [e]; exact hp (by rw [← e]; exact hk)))]; exact h.block k hk hn⟩
theorem Frm.below {S : Nat → Prop} {w w' : World} (h : Frm S w w') (hs : ∀ k, k < w.heap.size → ¬ S k) : Go.RowKit.Below w.heap.size w w' :=
  ⟨h.os, h.tape, h.output, h.size, fun k hk => h.block k hk (hs k hk)⟩
theorem Frm.of_below {S : Nat → Prop} {w w' : World} (h : Go.RowKit.Below w.heap.size w w') : Frm S w w' := ⟨h.os, h.tape, h.output, h.size, fun k hk _ => h.block k hk⟩
theorem Frm.of_grown {S : Nat → Prop} {w w' : World} {row : Option Nat} (h : w.grownBy w' row) (hs : ∀ k, row = some k → k < w.heap.size → S k) : Frm S w w' :=
  ⟨h.os, h.tape, h.output, h.size, fun k hk hn => h.block k hk fun e => hn (hs k e.symm hk)⟩
theorem Frm.cell {S : Nat → Prop} {w w' : World} (h : Frm S w w') {p : Addr} (hp : p.block < w.heap.size) (hn : ¬ S p.block) : w'.cell? p = w.cell? p :=
  World.cell?_of_block (h.block p.block hp hn)
theorem Frm.frozen {S : Nat → Prop} {w w' : World} (h : Frm S w w') {p : Addr} (hp : p.block < w.heap.size) (hn : ¬ S p.block) : w'.frozen? p = w.frozen? p :=
  World.frozen?_of_block (h.block p.block hp hn)
theorem Frm.at {S : Nat → Prop} {w w' : World} (h : Frm S w w') {b : Nat} {o : Obj} (hb : w.heap[b]? = some o) (hn : ¬ S b) : w'.heap[b]? = some o :=
  (h.block b (Array.getElem?_eq_some_iff.1 hb).1 hn).trans hb

theorem set_off (w : World) (b b' o o' : Nat) (v : Value) (h : o ≠ o') : (w.setCell ⟨b, o, none⟩ v).cell? ⟨b', o', none⟩ = w.cell? ⟨b', o', none⟩ :=
  World.cell?_setCell_other _ _ _ _ (fun e => h (congrArg Addr.off e))
theorem set_blk (w : World) (b b' o o' : Nat) (v : Value) (h : b ≠ b') : (w.setCell ⟨b, o, none⟩ v).cell? ⟨b', o', none⟩ = w.cell? ⟨b', o', none⟩ :=
  World.cell?_setCell_other _ _ _ _ (fun e => h (congrArg Addr.block e))
theorem set_same (w : World) (b o : Nat) (v u : Value) (h : w.cell? ⟨b, o, none⟩ = some u) : (w.setCell ⟨b, o, none⟩ v).cell? ⟨b, o, none⟩ = some v :=
  World.cell?_setCell_same _ _ _ h
theorem set_some (w : World) (a : Addr) (v : Value) {b : Addr} {u : Value} (h : w.cell? b = some u) : ∃ u', (w.setCell a v).cell? b = some u' := by
  by_cases e : a = b
  · subst e; exact ⟨v, World.cell?_setCell_same _ _ _ h⟩
  · exact ⟨u, by rw [World.cell?_setCell_other _ _ _ _ e]; exact h⟩
theorem set_fz (w : World) (a b : Addr) (v : Value) : (w.setCell a v).frozen? b = w.frozen? b := World.frozen?_setCell _ _ _ _

/-- a block of cells that may be written -/
def Fz (w : World) (b : Nat) : Prop := ∃ c T, w.heap[b]? = some (.cells c T (0, 0))
theorem Fz.frozen {w : World} {b : Nat} (h : Fz w b) (o : Nat) : w.frozen? ⟨b, o, none⟩ = false := by
  obtain ⟨c, T, h⟩ := h
  simp [World.frozen?, h]
theorem Fz.set {w : World} {b : Nat} (h : Fz w b) (a : Addr) (v : Value) : Fz (w.setCell a v) b := by
  obtain ⟨c, T, h⟩ := h
  by_cases e : b = a.block
  · subst e
    refine ⟨if a.spot.isSome then c else c.setIfInBounds a.off v, T, ?_⟩
    simp only [World.setCell, Array.getElem?_modify, h]
    simp
  · exact ⟨c, T, (Go.RowKit.Below.heap_setCell _ _ _ _ e).trans h⟩
theorem Fz.drew {w : World} {b : Nat} (h : Fz w b) : Fz w.drew b := h
theorem Fz.frm {S : Nat → Prop} {w w' : World} {b : Nat} (h : Fz w b) (hf : Frm S w w') (hn : ¬ S b) : Fz w' b := by
  obtain ⟨c, T, h⟩ := h
  exact ⟨c, T, hf.at h hn⟩
theorem Fz.new (w : World) (c : Array Value) (T : TypeId) : Fz (w.alloc (.cells c T)) w.heap.size := ⟨c, T, heap_alloc_new w _⟩

theorem lt_of_heap {w : World} {b : Nat} {o : Obj} (hb : w.heap[b]? = some o) : b < w.heap.size := (Array.getElem?_eq_some_iff.1 hb).1

/-! ### maps, as lists -/
/-- the keys of a kind -/
structure Ky (α : Type) where
  f : α → Value
  d : TypeDesc
  inj : ∀ {a b : α}, f a = f b → a = b
  key : ∀ a, IsKey d (f a)
def strKy : Ky ByteArray := ⟨.string, .string, fun h => by injection h, fun _ => trivial⟩
def i64Ky : Ky Int := ⟨.int .i64, .int .i64, fun h => by injection h, fun _ => rfl⟩

variable {α : Type} [DecidableEq α] {K : Ky α}

def assoc (k : α) (l : List (α × Value)) : Option Value := (l.find? fun p => decide (p.1 = k)).map (·.2)
def upd (k : α) (v : Value) (l : List (α × Value)) : List (α × Value) :=
  if l.any (fun p => decide (p.1 = k)) then l.map (fun p => if p.1 = k then (k, v) else p) else l ++ [(k, v)]
def del (k : α) (l : List (α × Value)) : List (α × Value) := l.filter fun p => !decide (p.1 = k)

def GMap (K : Ky α) (w : World) (b : Nat) (l : List (α × Value)) : Prop :=
  ∃ es clock, w.heap[b]? = some (.map es clock) ∧ Stamped es clock ∧ es.toList.map (fun e => (e.key, e.val)) = l.map (fun p => (K.f p.1, p.2))

theorem GMap.lt {w : World} {b : Nat} {l : List (α × Value)} (h : GMap K w b l) : b < w.heap.size := by
  obtain ⟨es, c, hb, _⟩ := h; exact lt_of_heap hb
theorem GMap.of_block {w w' : World} {b : Nat} {l : List (α × Value)} (h : GMap K w b l) (hb : w'.heap[b]? = w.heap[b]?) : GMap K w' b l := by
  obtain ⟨es, c, h1, h2⟩ := h; exact ⟨es, c, hb.trans h1, h2⟩
theorem GMap.frm {S : Nat → Prop} {w w' : World} {b : Nat} {l : List (α × Value)} (h : GMap K w b l) (hf : Frm S w w') (hn : ¬ S b) : GMap K w' b l := h.of_block (hf.block b h.lt hn)
theorem GMap.made (w : World) : GMap K (w.alloc (.map #[] 0)) w.heap.size [] := ⟨#[], 0, (heap_alloc w _).1, stamped_empty 0, rfl⟩

theorem GMap.nodup {w : World} {b : Nat} {l : List (α × Value)} (h : GMap K w b l) : (l.map (·.1)).Nodup := by
  obtain ⟨es, c, _, ⟨_, _, h3⟩, he⟩ := h
  have e1 : es.toList.map (·.key) = (l.map (·.1)).map K.f := by
    have := congrArg (List.map (·.1)) he
    simp only [List.map_map] at this ⊢
    exact this
  rw [e1] at h3
  exact (List.pairwise_map.1 h3).imp (fun {a b} hab e => hab (by rw [e]))

theorem isKey_of {es : Array MapEntry} {l : List (α × Value)} (he : es.toList.map (fun e => (e.key, e.val)) = l.map (fun p => (K.f p.1, p.2))) : ∀ x ∈ es.toList, IsKey K.d x.key := by
  intro x hx
  have : (x.key, x.val) ∈ l.map (fun p => (K.f p.1, p.2)) := by rw [← he]; exact List.mem_map.2 ⟨x, hx, rfl⟩
  obtain ⟨p, _, hp⟩ := List.mem_map.1 this
  have e1 : K.f p.1 = x.key := congrArg (·.1) hp
  rw [← e1]; exact K.key _

theorem getElem_of {es : Array MapEntry} {l : List (α × Value)} (he : es.toList.map (fun e => (e.key, e.val)) = l.map (fun p => (K.f p.1, p.2))) (j : Nat) {e : MapEntry} (hj : es.toList[j]? = some e) :
    ∃ p, l[j]? = some p ∧ e.key = K.f p.1 ∧ e.val = p.2 := by
  have h1 := congrArg (·[j]?) he
  simp only [List.getElem?_map, hj, Option.map_some] at h1
  cases hl : l[j]? with
  | none => rw [hl] at h1; cases h1
  | some p =>
    rw [hl] at h1
    simp at h1
    exact ⟨p, rfl, h1.1, h1.2⟩

theorem assoc_of_getElem {l : List (α × Value)} (hn : (l.map (·.1)).Nodup) {j : Nat} {p : α × Value} (hj : l[j]? = some p) : assoc p.1 l = some p.2 := by
  unfold assoc
  induction l generalizing j with
  | nil => simp at hj
  | cons x l ih =>
    rw [List.find?_cons]
    cases j with
    | zero => simp at hj; subst hj; simp
    | succ j =>
      simp at hj
      simp only [List.map_cons, List.nodup_cons] at hn
      have hne : x.1 ≠ p.1 := fun e => hn.1 (by rw [e]; exact List.mem_map.2 ⟨p, List.mem_of_getElem? hj, rfl⟩)
      simp only [hne, decide_false]
      exact ih hn.2 hj

theorem assoc_none {k : α} {l : List (α × Value)} (h : ∀ p ∈ l, p.1 ≠ k) : assoc k l = none := by
  unfold assoc
  rw [List.find?_eq_none.2 (fun p hp => by simp [h p hp])]; rfl

section
variable {P : Program} {t k e : TypeId} {w : World} {b : Nat} {l : List (α × Value)}

/-- which entry a key has -/
theorem GMap.find (h : GMap K w b l) (hk : P.underlying k = some K.d) (s : α) :
    ∃ es clock, w.heap[b]? = some (.map es clock) ∧ Stamped es clock ∧ es.toList.map (fun e => (e.key, e.val)) = l.map (fun p => (K.f p.1, p.2)) ∧
      (((Instr.findKey k (K.f s) es.toList).run P w = .ok none w ∧ assoc s l = none ∧ (∀ p ∈ l, p.1 ≠ s) ∧ ∀ x ∈ es.toList, x.key ≠ K.f s) ∨
       ∃ j x v, (Instr.findKey k (K.f s) es.toList).run P w = .ok (some (j, v)) w ∧ es.toList[j]? = some x ∧ l[j]? = some (s, v) ∧ x.key = K.f s ∧ x.val = v ∧ assoc s l = some v) := by
  have hn := h.nodup
  obtain ⟨es, c, hb, hs, he⟩ := h
  refine ⟨es, c, hb, hs, he, ?_⟩
  rcases findNow_spec (d := K.d) (k := K.f s) (K.key s) es.toList 0 (isKey_of he) with ⟨h1, h2⟩ | ⟨j, x, h1, h2, h3⟩
  · refine .inl ⟨MapKept.run_findKey hk h1, ?_⟩
    have hno : ∀ p ∈ l, p.1 ≠ s := by
      intro p hp hps
      have : (K.f p.1, p.2) ∈ es.toList.map (fun e => (e.key, e.val)) := by rw [he]; exact List.mem_map.2 ⟨p, hp, rfl⟩
      obtain ⟨x, hx, hxe⟩ := List.mem_map.1 this
      simp at hxe
      exact h2 x hx (by rw [hxe.1, hps])
    exact ⟨assoc_none hno, hno, h2⟩
  · obtain ⟨p, hp, hk1, hv1⟩ := getElem_of he j h2
    rw [h3] at hk1
    have hk1 := K.inj hk1
    have hps : p = (s, x.val) := by rw [hv1, hk1]
    subst hps
    refine .inr ⟨j, x, x.val, by simpa using MapKept.run_findKey hk h1, h2, hp, h3, rfl, ?_⟩
    exact assoc_of_getElem hn hp

theorem GMap.run_lookup (h : GMap K w b l) (ht : P.underlying t = some (.map k e)) (hk : P.underlying k = some K.d) {z : Value} (hz : (zeroValue e).run P w = .ok z w) (s : α) :
    (Instr.lookup t (.map (some b)) (K.f s) false).run P w = .ok ((assoc s l).getD z) w := by
  obtain ⟨es, c, hb, _, _, h⟩ := h.find hk s
  rcases h with ⟨h1, h2, _⟩ | ⟨j, x, v, h1, _, _, _, _, h2⟩ <;>
  simp [Instr.lookup, run_underlying ht, MapKept.run_getObj_map hb, MapKept.run_checkKey hk (k := K.f s) (K.key s), h1, h2, hz, Result.andThen]

theorem GMap.run_lookup_ok (h : GMap K w b l) (ht : P.underlying t = some (.map k e)) (hk : P.underlying k = some K.d) {z : Value} (hz : (zeroValue e).run P w = .ok z w) (s : α) :
    (Instr.lookup t (.map (some b)) (K.f s) true).run P w = .ok (.tuple #[(assoc s l).getD z, .bool (assoc s l).isSome]) w := by
  obtain ⟨es, c, hb, _, _, h⟩ := h.find hk s
  rcases h with ⟨h1, h2, _⟩ | ⟨j, x, v, h1, _, _, _, _, h2⟩ <;>
  simp [Instr.lookup, run_underlying ht, MapKept.run_getObj_map hb, MapKept.run_checkKey hk (k := K.f s) (K.key s), h1, h2, hz, Result.andThen]

theorem heap_setObj {b : Nat} {o o' : Obj} (hb : w.heap[b]? = some o) : Frm (· = b) w { w with heap := w.heap.setIfInBounds b o' } :=
  ⟨rfl, rfl, rfl, by simp, fun k _ hn => (heap_set hb).2 k hn⟩

theorem GMap.run_update (h : GMap K w b l) (ht : P.underlying t = some (.map k e)) (hk : P.underlying k = some K.d) (s : α) (v : Value) :
    ∃ w', (Instr.mapUpdate t (.map (some b)) (K.f s) v).run P w = .ok () w' ∧ GMap K w' b (upd s v l) ∧ Frm (· = b) w w' := by
  have hn := h.nodup
  obtain ⟨es, c, hb, hs, he, h⟩ := h.find hk s
  rcases h with ⟨h1, h2, h3, h4⟩ | ⟨j, x, u, h1, h2, h3, h4, h5, h6⟩
  · refine ⟨_, by simp [Instr.mapUpdate, run_underlying ht, MapKept.run_getObj_map hb, MapKept.run_checkKey hk (k := K.f s) (K.key s), h1, MapKept.run_setObj_map _ hb, Result.andThen]; rfl, ?_, heap_setObj hb⟩
    refine ⟨_, _, (heap_set hb).1, stamped_push hs h4, ?_⟩
    have : l.any (fun p => decide (p.1 = s)) = false := by rw [List.any_eq_false]; exact fun p hp => by simp [h3 p hp]
    simp only [upd, this]
    simp [he]
  · have hj : es[j]? = some x := by simpa using h2
    refine ⟨_, by simp [Instr.mapUpdate, run_underlying ht, MapKept.run_getObj_map hb, MapKept.run_checkKey hk (k := K.f s) (K.key s), h1, hj, h4, MapKept.run_keyThatStays (d := K.d) (k := K.f s) (K.key s), MapKept.run_setObj_map _ hb, Result.andThen]; rfl, ?_, heap_setObj hb⟩
    refine ⟨_, _, (heap_set hb).1, stamped_modify hs j _ (fun _ _ => rfl) (fun e0 _ h0 => by rw [hj] at h0; cases h0; exact h4.symm), ?_⟩
    have : l.any (fun p => decide (p.1 = s)) = true := List.any_eq_true.2 ⟨_, List.mem_of_getElem? h3, by simp⟩
    simp only [upd, this, if_true]
    apply List.ext_getElem?
    intro i
    have hi := congrArg (·[i]?) he
    simp only [List.getElem?_map] at hi
    simp only [List.getElem?_map, Array.getElem?_toList, Array.getElem?_modify]
    by_cases hij : j = i
    · subst hij
      simp [hj, h3]
    · rw [if_neg hij]
      rw [Array.getElem?_toList] at hi
      rw [hi]
      cases hl : l[i]? with
      | none => rfl
      | some p =>
        have hne : p.1 ≠ s := by
          intro hp
          have hi1 : i < l.length := (List.getElem?_eq_some_iff.1 hl).1
          have hj1 : j < l.length := (List.getElem?_eq_some_iff.1 h3).1
          have e1 : (l.map (·.1))[j]'(by simpa using hj1) = (l.map (·.1))[i]'(by simpa using hi1) := by
            simp [(List.getElem?_eq_some_iff.1 hl).2, (List.getElem?_eq_some_iff.1 h3).2, hp]
          exact hij ((List.getElem_inj hn).1 e1)
        simp [hne]

theorem GMap.run_delete (hG : GMap K w b l) (ht : P.underlying t = some (.map k e)) (hk : P.underlying k = some K.d) (s : α) (t2 ty : TypeId) :
    ∃ w', (Builtin.delete_ #[t, t2] ty #[.map (some b), K.f s]).run P w = .ok (.tuple #[]) w' ∧ GMap K w' b (del s l) ∧ Frm (· = b) w w' := by
  have hn := hG.nodup
  obtain ⟨es, c, hb, hs, he, h⟩ := hG.find hk s
  clear hG
  rcases h with ⟨h1, h2, h3, h4⟩ | ⟨j, x, u, h1, h2, h3, h4, h5, h6⟩
  · refine ⟨_, by simp [Builtin.delete_, run_underlying ht, MapKept.run_getObj_map hb, MapKept.run_checkKey hk (k := K.f s) (K.key s), h1, MapKept.run_setObj_map _ hb, Result.andThen]; rfl, ?_, heap_setObj hb⟩
    refine ⟨_, _, (heap_set hb).1, hs, ?_⟩
    have : del s l = l := List.filter_eq_self.2 (fun p hp => by simp [h3 p hp])
    rw [this]; exact he
  · refine ⟨_, by simp [Builtin.delete_, run_underlying ht, MapKept.run_getObj_map hb, MapKept.run_checkKey hk (k := K.f s) (K.key s), h1, MapKept.run_setObj_map _ hb, Result.andThen]; rfl, ?_, heap_setObj hb⟩
    refine ⟨_, _, (heap_set hb).1, stamped_erase hs j, ?_⟩
    have hj1 : j < l.length := (List.getElem?_eq_some_iff.1 h3).1
    have e1 : del s l = l.eraseIdx j := by
      have hlj : l[j] = (s, u) := (List.getElem?_eq_some_iff.1 h3).2
      unfold del
      clear h2 h1 he hb hs h6
      induction l generalizing j with
      | nil => simp at hj1
      | cons p l ih =>
        simp only [List.map_cons, List.nodup_cons] at hn
        cases j with
        | zero =>
          simp at hlj
          subst hlj
          rw [List.filter_cons]
          simp
          refine fun a v ha => fun e => ?_
          subst e
          exact hn.1 (List.mem_map.2 ⟨(a, v), ha, rfl⟩)
        | succ j =>
          simp at hlj hj1 h3
          have hne : p.1 ≠ s := fun e => hn.1 (by rw [e]; exact List.mem_map.2 ⟨(s, u), List.mem_of_getElem? h3, rfl⟩)
          rw [List.filter_cons]
          simp only [hne, decide_false, Bool.not_false, if_true, List.eraseIdx_cons_succ]
          rw [ih hn.2 j h3 hj1 hlj]
    rw [e1]
    have hme : ∀ {β γ : Type} (g : β → γ) (m : List β) (i : Nat), (m.eraseIdx i).map g = (m.map g).eraseIdx i := by
      intro β γ g m
      induction m with
      | nil => intro i; rfl
      | cons x m ih => intro i; cases i <;> simp [ih]
    rw [hme, ← he, ← hme]
    simp

theorem GMap.run_len (h : GMap K w b l) (ht : P.underlying t = some (.map k e)) (ty : TypeId) : (Builtin.len_ #[t] ty #[.map (some b)]).run P w = .ok (.int .i64 l.length) w := by
  obtain ⟨es, c, hb, _, he⟩ := h
  have : es.size = l.length := by have := congrArg List.length he; simpa using this
  simp [Builtin.len_, Builtin.lenOf, run_underlying ht, MapKept.run_getObj_map hb, Result.andThen, this, goInt]
end

/-! ### the same at an operation of a walk -/
section
variable {P : Program} {t k e : TypeId} {w : World} {b : Nat} {l : List (α × Value)} {ops : Array Oper} {rest : List Oper} {o : Oper} {a : Act} {Q : Exit → Act → World → Prop}

theorem wpList_lookup_g (h : GMap K w b l) (ht : P.underlying t = some (.map k e)) (hk : P.underlying k = some K.d) {z : Value} (hz : ∀ w, (zeroValue e).run P w = .ok z w) (s : α)
    (hg : o.guard = none) (m x : Operand) (hop : o.op = Op.lookup t m x false) (hm : a.eval m = .map (some b)) (hx : a.eval x = K.f s)
    (hK : wpList P ops Q rest (a.put o.dst ((assoc s l).getD z)) w) : wpList P ops Q (o :: rest) a w := by
  refine wpList_plain hg fun K' hK' => ?_
  unfold Oper.wp
  simp [execOp, hop, hm, hx, h.run_lookup ht hk (hz w) s, Result.andThen]
  exact hK' _ _ hK
theorem wpList_lookup_ok_g (h : GMap K w b l) (ht : P.underlying t = some (.map k e)) (hk : P.underlying k = some K.d) {z : Value} (hz : ∀ w, (zeroValue e).run P w = .ok z w) (s : α)
    (hg : o.guard = none) (m x : Operand) (hop : o.op = Op.lookup t m x true) (hm : a.eval m = .map (some b)) (hx : a.eval x = K.f s)
    (hK : wpList P ops Q rest (a.put o.dst (.tuple #[(assoc s l).getD z, .bool (assoc s l).isSome])) w) : wpList P ops Q (o :: rest) a w := by
  refine wpList_plain hg fun K' hK' => ?_
  unfold Oper.wp
  simp [execOp, hop, hm, hx, h.run_lookup_ok ht hk (hz w) s, Result.andThen]
  exact hK' _ _ hK
theorem wpList_update_g (h : GMap K w b l) (ht : P.underlying t = some (.map k e)) (hk : P.underlying k = some K.d) (s : α) (v : Value)
    (hg : o.guard = none) (m x y : Operand) (hop : o.op = Op.mapUpdate t m x y) (hm : a.eval m = .map (some b)) (hx : a.eval x = K.f s) (hy : a.eval y = v)
    (hK : ∀ w', GMap K w' b (upd s v l) → Frm (· = b) w w' → wpList P ops Q rest (a.put o.dst undef) w') : wpList P ops Q (o :: rest) a w := by
  refine wpList_plain hg fun K' hK' => ?_
  obtain ⟨w', hrun, r1, r2⟩ := h.run_update ht hk s v
  unfold Oper.wp
  simp [execOp, hop, hm, hx, hy, hrun, Result.andThen]
  exact hK' _ _ (hK w' r1 r2)
theorem wpList_delete_g (h : GMap K w b l) (ht : P.underlying t = some (.map k e)) (hk : P.underlying k = some K.d) (s : α) (t2 : TypeId)
    (hg : o.guard = none) (m x : Operand) (hop : o.op = Op.call { callee := Callee.builtin Builtin.delete, args := #[m, x], argTypes := #[t, t2] }) (hm : a.eval m = .map (some b)) (hx : a.eval x = K.f s)
    (hK : ∀ w', GMap K w' b (del s l) → Frm (· = b) w w' → wpList P ops Q rest (a.put o.dst (.tuple #[])) w') : wpList P ops Q (o :: rest) a w := by
  refine wpList_plain hg fun K' hK' => ?_
  obtain ⟨w', hrun, r1, r2⟩ := h.run_delete ht hk s t2 o.type
  unfold Oper.wp
  simp [execOp, hop, resolve, invoke, builtin, hm, hx, hrun, Result.andThen]
  exact hK' _ _ (hK w' r1 r2)
theorem wpList_len_g (h : GMap K w b l) (ht : P.underlying t = some (.map k e))
    (hg : o.guard = none) (m : Operand) (hop : o.op = Op.call { callee := Callee.builtin Builtin.len, args := #[m], argTypes := #[t] }) (hm : a.eval m = .map (some b))
    (hK : wpList P ops Q rest (a.put o.dst (.int .i64 l.length)) w) : wpList P ops Q (o :: rest) a w := by
  refine wpList_plain hg fun K' hK' => ?_
  unfold Oper.wp
  simp [execOp, hop, resolve, invoke, builtin, hm, h.run_len ht o.type, Result.andThen]
  exact hK' _ _ hK
end
end Go.Tk

namespace Go.Tk
open Go
section
variable {P : Program} (w : World)
theorem run_neq_ptr_same {tp te : TypeId} {j : TypeInfo} (a : Addr) (hp : P.underlying tp = some (.pointer te)) (hte : P.info? te = some j) :
    (binOp .neq tp (.pointer (some a)) (.pointer (some a))).run P w = .ok (.bool false) w := by
  have h : ∀ d : Nat, (Op.equalIn (d + 1) tp (.pointer (some a)) (.pointer (some a))).run P w = .ok true w := fun d => by
    simp [Op.equalIn, run_underlying hp, sizeOf, typeInfo, hte, run_sameAddr_same]
  simp only [binOp]
  simp [Op.equal, Op.maxDepth, h 9999]
theorem run_neq_ptr_other {tp te : TypeId} {j : TypeInfo} {a b : Nat} (hp : P.underlying tp = some (.pointer te)) (hte : P.info? te = some j) (hsz : j.size ≠ 0)
    (hne : a ≠ b) (ha : Fz w a) (hb : Fz w b) :
    (binOp .neq tp (.pointer (some ⟨a, 0, none⟩)) (.pointer (some ⟨b, 0, none⟩))).run P w = .ok (.bool true) w := by
  obtain ⟨ca, ta, ha⟩ := ha
  obtain ⟨cb, tb, hb⟩ := hb
  have h : ∀ d : Nat, (Op.equalIn (d + 1) tp (.pointer (some ⟨a, 0, none⟩)) (.pointer (some ⟨b, 0, none⟩))).run P w = .ok false w := fun d => by
    simp [Op.equalIn, run_underlying hp, sizeOf, typeInfo, hte, hsz, run_sameAddr_other w (a := ⟨a, 0, none⟩) (b := ⟨b, 0, none⟩) (fun e => hne (congrArg Addr.block e)) ha hb]
  simp only [binOp]
  simp [Op.equal, Op.maxDepth, h 9999]
theorem run_eql_ptr_other' {tp te : TypeId} {j : TypeInfo} {a b : Nat} (hp : P.underlying tp = some (.pointer te)) (hte : P.info? te = some j) (hsz : j.size ≠ 0)
    (hne : a ≠ b) (ha : Fz w a) (hb : Fz w b) :
    (binOp .eql tp (.pointer (some ⟨a, 0, none⟩)) (.pointer (some ⟨b, 0, none⟩))).run P w = .ok (.bool false) w := by
  obtain ⟨ca, ta, ha⟩ := ha
  obtain ⟨cb, tb, hb⟩ := hb
  exact run_eql_ptr_other w hp hte hsz (fun e => hne (congrArg Addr.block e)) ha hb
end
end Go.Tk

namespace Go.Tk
open Go Go.MapKept

/-! ### a range over a map -/
section
variable {α : Type} [DecidableEq α] {K : Ky α}

/-- the iterator 'it' over the map in block b (it reads l); left: what is yet to come -/
def GIter (K : Ky α) (w : World) (it b : Nat) (l left : List (α × Value)) : Prop :=
  ∃ es clock since seen c0, w.heap[b]? = some (.map es clock) ∧ Stamped es clock ∧ es.toList.map (fun e => (e.key, e.val)) = l.map (fun p => (K.f p.1, p.2)) ∧
    w.heap[it]? = some (.mapIter (some b) since seen c0) ∧ (∀ x ∈ es.toList, x.born < since) ∧ since ≤ c0 ∧ since ≤ clock ∧
    (leftOf es seen).toList.map (fun e => (e.key, e.val)) = left.map (fun p => (K.f p.1, p.2))

theorem GIter.gmap {w : World} {it b : Nat} {l left : List (α × Value)} (h : GIter K w it b l left) : GMap K w b l := by
  obtain ⟨es, c, _, _, _, h1, h2, h3, _⟩ := h; exact ⟨es, c, h1, h2, h3⟩
theorem GIter.lt {w : World} {it b : Nat} {l left : List (α × Value)} (h : GIter K w it b l left) : it < w.heap.size := by
  obtain ⟨es, c, _, _, _, _, _, _, h4, _⟩ := h; exact lt_of_heap h4
theorem GIter.ne {w : World} {it b : Nat} {l left : List (α × Value)} (h : GIter K w it b l left) : it ≠ b := by
  obtain ⟨es, c, _, _, _, h1, _, _, h4, _⟩ := h
  rintro rfl
  rw [h1] at h4; cases h4
theorem GIter.frm {S : Nat → Prop} {w w' : World} {it b : Nat} {l left : List (α × Value)} (h : GIter K w it b l left) (hf : Frm S w w') (h1 : ¬ S it) (h2 : ¬ S b) : GIter K w' it b l left := by
  obtain ⟨es, c, si, se, c0, a1, a2, a3, a4, a5⟩ := h
  exact ⟨es, c, si, se, c0, hf.at a1 h2, a2, a3, hf.at a4 h1, a5⟩

theorem filter_two {es : List MapEntry} {seen : Array Nat} {e : MapEntry} (hn : (es.map (·.born)).Nodup) (he : e ∈ es) (hs : seen.contains e.born = false) :
    ∃ l1 l2, es.filter (fun x => !seen.contains x.born) = l1 ++ e :: l2 ∧ es.filter (fun x => !(seen.push e.born).contains x.born) = l1 ++ l2 := by
  induction es with
  | nil => simp at he
  | cons x es ih =>
    simp only [List.map_cons, List.nodup_cons] at hn
    rcases List.mem_cons.1 he with rfl | he
    · refine ⟨[], es.filter (fun x => !seen.contains x.born), by rw [List.filter_cons, hs]; rfl, ?_⟩
      rw [List.filter_cons]
      simp only [contains_push, beq_self_eq_true, Bool.or_true, Bool.not_true, Bool.false_eq_true, if_false, List.nil_append]
      refine List.filter_congr fun y hy => ?_
      have hne : (y.born == e.born) = false := by
        cases hc : y.born == e.born with
        | false => rfl
        | true => exact absurd (by rw [← beq_iff_eq.1 hc]; exact List.mem_map.2 ⟨y, hy, rfl⟩) hn.1
      rw [hne, Bool.or_false]
    · obtain ⟨l1, l2, h1, h2⟩ := ih hn.2 he
      have hne : (x.born == e.born) = false := by
        cases hc : x.born == e.born with
        | false => rfl
        | true => exact absurd (by rw [beq_iff_eq.1 hc]; exact List.mem_map.2 ⟨e, he, rfl⟩) hn.1
      rw [List.filter_cons, List.filter_cons, h1, h2, contains_push, hne, Bool.or_false]
      cases seen.contains x.born
      · exact ⟨x :: l1, l2, rfl, rfl⟩
      · exact ⟨l1, l2, rfl, rfl⟩

variable {P : Program}
theorem GMap.run_range {w : World} {t k e : TypeId} {b : Nat} {l : List (α × Value)} (h : GMap K w b l) (ht : P.underlying t = some (.map k e)) :
    ∃ c, (Instr.range t (.map (some b))).run P w = .ok (.pointer (some ⟨w.heap.size, 0, none⟩)) (w.alloc (.mapIter (some b) c #[] c)) ∧ GIter K (w.alloc (.mapIter (some b) c #[] c)) w.heap.size b l l := by
  obtain ⟨es, c, hb, hs, he⟩ := h
  refine ⟨c, run_range_map w t k e b es c ht hb, es, c, c, #[], c, (heap_alloc_old w _ (lt_of_heap hb)).trans hb, hs, he, Go.heap_alloc_new w _, hs.1, Nat.le_refl _, Nat.le_refl _, ?_⟩
  have : leftOf es #[] = es := by unfold leftOf; rw [Array.filter_eq_self]; intro a _; simp
  rw [this, he]

theorem GIter.run_next {w : World} {it b : Nat} {l left : List (α × Value)} (h : GIter K w it b l left) (ty : TypeId) :
    (left = [] ∧ (Instr.next (.pointer (some ⟨it, 0, none⟩)) false ty).run P w = .ok (.tuple #[.bool false]) w) ∨
    ∃ l1 p l2 w', left = l1 ++ p :: l2 ∧ (Instr.next (.pointer (some ⟨it, 0, none⟩)) false ty).run P w = .ok (.tuple #[.bool true, K.f p.1, p.2]) w' ∧ GIter K w' it b l (l1 ++ l2) ∧ Frm (· = it) w w' ∧
      (Instr.entry (.pointer (some ⟨it, 0, none⟩))).run P w' = .ok (.tuple #[K.f p.1, p.2]) w' := by
  have hne := h.ne
  obtain ⟨es, c, si, se, c0, hb, hs, he, hi, ho, hsc, hsk, hl⟩ := h
  rcases run_next_at (P := P) w ty it b si c0 se es c hi hb ho hsc with ⟨h0, hr⟩ | ⟨e, hem, w1, hal, hr⟩
  · left
    refine ⟨?_, hr⟩
    have := congrArg List.length hl
    simp [h0] at this
    exact List.eq_nil_of_length_eq_zero this.symm
  · right
    obtain ⟨h1, h2⟩ := mem_left hem
    obtain ⟨m1, m2, e1, e2⟩ := filter_two hs.2.1 h1 h2
    have e3 : (leftOf es se).toList = m1 ++ e :: m2 := by unfold leftOf; rw [Array.toList_filter]; exact e1
    have e4 : (leftOf es (se.push e.born)).toList = m1 ++ m2 := by unfold leftOf; rw [Array.toList_filter]; exact e2
    rw [e3, List.map_append, List.map_cons] at hl
    obtain ⟨l1, r, rfl, f1, f2⟩ := List.map_eq_append_iff.1 hl.symm
    obtain ⟨p, l2, rfl, f3, f4⟩ := List.map_eq_cons_iff.1 f2
    have k1 : K.f p.1 = e.key := congrArg (·.1) f3
    have k2 : p.2 = e.val := congrArg (·.2) f3
    have hw1 : Frm (fun _ => False) w w1 := by rcases hal with rfl | rfl; exact Frm.refl _ _; exact (Frm.refl _ _).drew
    have hi1 : w1.heap[it]? = some (.mapIter (some b) si se c0) := hw1.at hi (fun h => h)
    have hb1 : w1.heap[b]? = some (.map es c) := hw1.at hb (fun h => h)
    have hF : Frm (· = it) w1 (ChangeMaps.setBlock w1 it (.mapIter (some b) si (se.push e.born) c)) := ⟨rfl, rfl, rfl, by simp [ChangeMaps.setBlock], fun k hk hn => by
      show (w1.heap.setIfInBounds it _)[k]? = _
      rw [Array.getElem?_setIfInBounds_ne (Ne.symm hn)]⟩
    have hi2 : (ChangeMaps.setBlock w1 it (.mapIter (some b) si (se.push e.born) c)).heap[it]? = some (.mapIter (some b) si (se.push e.born) c) := by
      show (w1.heap.setIfInBounds it _)[it]? = _
      rw [Array.getElem?_setIfInBounds]
      simp [lt_of_heap hi1]
    have hb2 := hF.at hb1 hne.symm
    refine ⟨l1, p, l2, _, rfl, by rw [k1, k2]; exact hr, ⟨es, c, si, _, c, hb2, hs, he, hi2, ho, hsk, hsk, by rw [e4, List.map_append, List.map_append, f1, f4]⟩, (hw1.mono (fun _ _ h => h.elim)).trans hF, ?_⟩
    rw [k1, k2]
    exact run_entry_at _ it b si se es c e hi2 hb2 h1 hs.2.1
end

/-! ### rows that are the call's own -/
section
variable {w w' : World} {base : Nat} {e : TypeId} {size : Nat} {v : Value} {n : Nat} {xs : List Value}

theorem row_frm {S : Nat → Prop} (h : w.ownsRow base e size v n xs) (hf : Frm S w w') (ho : ∀ b, v.ownBlock = some b → ¬ S b) : w'.ownsRow base e size v n xs := by
  refine ⟨h.1, ?_⟩
  rcases h.2 with hn | ⟨g, cap, cur, rfl, hb, hgg, rest⟩
  · exact .inl hn
  · exact .inr ⟨g, cap, cur, rfl, hb, hf.at hgg (ho g rfl), rest⟩

theorem row_slice (h : w.ownsRow base e size v n xs) : ∃ ao cap, v = .slice ao n cap ∧ n ≤ cap ∧ (0 < n → ∃ g, ao = some ⟨g, 0, none⟩) := by
  rcases h.2 with ⟨rfl, rfl⟩ | ⟨g, cap, cur, rfl, _, _, h1, _⟩
  · exact ⟨none, 0, rfl, Nat.le_refl _, fun h => absurd h (by omega)⟩
  · exact ⟨_, cap, rfl, h1, fun _ => ⟨g, rfl⟩⟩

theorem row_rebase (h : w.ownsRow base e size v n xs) {base' : Nat} (hb : ∀ b, v.ownBlock = some b → base' ≤ b) : w.ownsRow base' e size v n xs := by
  refine ⟨h.1, ?_⟩
  rcases h.2 with hn | ⟨g, cap, cur, rfl, _, rest⟩
  · exact .inl hn
  · exact .inr ⟨g, cap, cur, rfl, hb g rfl, rest⟩

/-- shorter -/
theorem row_cut {ao : Option Addr} {cap m : Nat} (h : w.ownsRow base e size (.slice ao n cap) n xs) (hm : m ≤ n) : w.ownsRow base e size (.slice ao m cap) m (xs.take (m * size)) := by
  have hl := h.1
  have hms : m * size ≤ n * size := Nat.mul_le_mul_right _ hm
  refine ⟨by rw [List.length_take]; omega, ?_⟩
  rcases h.2 with ⟨h1, rfl⟩ | ⟨g, cap', cur, h1, hb, hg, h2, h3, h4, h5⟩
  · cases h1
    exact .inl ⟨by rw [show m = 0 by omega], by omega⟩
  · cases h1
    refine .inr ⟨g, cap, cur, rfl, hb, hg, by omega, h3, h4, ?_⟩
    rw [← h5, List.take_take, Nat.min_eq_left hms]

theorem row_cell {ao : Option Addr} {cap : Nat} (h : w.ownsRow base e size (.slice ao n cap) n xs) (i : Nat) (hi : i < xs.length) : ∃ g, ao = some ⟨g, 0, none⟩ ∧ w.cell? ⟨g, i, none⟩ = some xs[i] := by
  have hl := h.1
  rcases h.2 with ⟨h1, rfl⟩ | ⟨g, cap', cur, h1, hb, hg, h2, h3, h4, h5⟩
  · rw [Nat.zero_mul] at hl; omega
  · cases h1
    refine ⟨g, rfl, ?_⟩
    have := h.cells (g := g) rfl i xs[i] (List.getElem?_eq_getElem hi)
    rwa [Addr.add_lit, Nat.zero_add] at this

theorem row_fz {ao : Option Addr} {cap g : Nat} (h : w.ownsRow base e size (.slice ao n cap) n xs) (hg : ao = some ⟨g, 0, none⟩) : Fz w g := by
  rcases h.2 with ⟨h1, rfl⟩ | ⟨g', cap', cur, h1, hb, hg', _⟩
  · cases h1; cases hg
  · cases h1
    cases hg
    exact ⟨cur, e, hg'⟩

/-- a cell of it is written -/
theorem row_set {cap g : Nat} (h : w.ownsRow base e size (.slice (some ⟨g, 0, none⟩) n cap) n xs) (j : Nat) (u : Value) : (w.setCell ⟨g, j, none⟩ u).ownsRow base e size (.slice (some ⟨g, 0, none⟩) n cap) n (xs.set j u) := by
  rcases h.2 with ⟨h1, _⟩ | ⟨g', cap', cur, h1, hb, hg, h2, h3, h4, h5⟩
  · cases h1
  · cases h1
    refine ⟨by simpa using h.1, .inr ⟨g, cap, cur.setIfInBounds j u, rfl, hb, ?_, h2, h3, by simpa using h4, ?_⟩⟩
    · simp only [World.setCell, Array.getElem?_modify, hg]
      simp
    · rw [Array.toList_setIfInBounds, List.take_set, h5]
end
end Go.Tk

namespace Go.Dk
open Go Go.Tk

/-- a row that is read: l, k cells each -/
def Rw {α : Type} (f : α → List Value) (k : Nat) (w : World) (v : Value) (l : List α) : Prop :=
  ∃ ao cap, v = .slice ao l.length cap ∧ l.length ≤ cap ∧ (ao = none → cap = 0) ∧ (∀ a, ao = some a → a.off = 0 ∧ a.spot = none ∧ a.block < w.heap.size) ∧
    ∀ i (h : i < l.length), ∃ g, ao = some ⟨g, 0, none⟩ ∧ ∀ j u, (f l[i])[j]? = some u → w.cell? ⟨g, i * k + j, none⟩ = some u

theorem Rw.nil {α : Type} (f : α → List Value) (k : Nat) (w : World) : Rw f k w (.slice none 0 0) [] := ⟨none, 0, rfl, Nat.le_refl _, fun _ => rfl, fun _ h => (by cases h), fun i h => (by simp at h)⟩

theorem Rw.frm {α : Type} {f : α → List Value} {k : Nat} {S : Nat → Prop} {w w' : World} {v : Value} {l : List α} (h : Rw f k w v l) (hf : Frm S w w') (ho : ∀ b, v.ownBlock = some b → ¬ S b) : Rw f k w' v l := by
  obtain ⟨ao, cap, rfl, h1, h2, h2', h3⟩ := h
  refine ⟨ao, cap, rfl, h1, h2, fun a e => ⟨(h2' a e).1, (h2' a e).2.1, Nat.lt_of_lt_of_le (h2' a e).2.2 hf.size⟩, fun i hi => ?_⟩
  obtain ⟨g, rfl, hc⟩ := h3 i hi
  exact ⟨g, rfl, fun j u hu => (hf.cell (p := ⟨g, i * k + j, none⟩) (h2' _ rfl).2.2 (ho g rfl)).trans (hc j u hu)⟩

theorem Rw.lt {α : Type} {f : α → List Value} {k : Nat} {w : World} {v : Value} {l : List α} (h : Rw f k w v l) : ∀ b, v.ownBlock = some b → b < w.heap.size := by
  obtain ⟨ao, cap, rfl, _, _, h3, _⟩ := h
  intro b hb
  cases ao with
  | none => cases hb
  | some a => cases hb; exact (h3 a rfl).2.2

theorem flat_get {α : Type} {f : α → List Value} {k : Nat} (hk : ∀ x, (f x).length = k) (l : List α) (i j : Nat) (hi : i < l.length) (hj : j < k) : (l.flatMap f)[i * k + j]? = (f l[i])[j]? := by
  induction l generalizing i with
  | nil => simp at hi
  | cons x l ih =>
    rw [List.flatMap_cons]
    cases i with
    | zero => rw [Nat.zero_mul, Nat.zero_add, List.getElem?_append_left (by rw [hk]; exact hj)]; rfl
    | succ i =>
      rw [List.getElem?_append_right (by rw [hk, Nat.add_mul]; omega), hk, show (i + 1) * k + j - k = i * k + j by rw [Nat.add_mul]; omega]
      simp only [List.length_cons] at hi
      rw [ih i (by omega)]
      rfl

theorem flat_len {α : Type} {f : α → List Value} {k : Nat} (hk : ∀ x, (f x).length = k) (l : List α) : (l.flatMap f).length = l.length * k := by
  induction l with
  | nil => simp
  | cons x l ih => rw [List.flatMap_cons, List.length_append, hk, ih, List.length_cons, Nat.add_mul]; omega

theorem rw_of_owns {α : Type} {f : α → List Value} {k : Nat} (hk : ∀ x, (f x).length = k) {w : World} {base : Nat} {e : TypeId} {v : Value} {n : Nat} {l : List α} (h : w.ownsRow base e k v n (l.flatMap f)) (hn : n = l.length) : Rw f k w v l := by
  subst hn
  obtain ⟨ao, cap, rfl, h1, h2⟩ := row_slice h
  refine ⟨ao, cap, rfl, h1, ?_, ?_, fun i hi => ?_⟩
  · rintro rfl
    rcases h.2 with ⟨h3, _⟩ | ⟨g, _, _, h3, _⟩
    · injection h3
    · injection h3 with h4; cases h4
  · rintro a rfl
    rcases h.2 with ⟨h3, _⟩ | ⟨g, _, _, h3, _, hg, _⟩
    · injection h3 with h4; cases h4
    · injection h3 with h4; cases h4; exact ⟨rfl, rfl, lt_of_heap hg⟩
  · obtain ⟨g, rfl⟩ := h2 (by omega)
    refine ⟨g, rfl, fun j u hu => ?_⟩
    have hj : j < k := by rw [← hk l[i]]; exact (List.getElem?_eq_some_iff.1 hu).1
    rw [← flat_get hk l i j hi hj] at hu
    have := h.cells (g := g) rfl _ u hu
    rwa [Addr.add_lit, Nat.zero_add] at this

/-- names, with the numbers of their files -/
abbrev Nm := ByteArray × Nat
def nmC (x : Nm) : List Value := [.string x.1, .int .i64 x.2]
theorem nmC_len (x : Nm) : (nmC x).length = 2 := rfl

def ofI (l : List Nm) (s : ByteArray) : Option Nat := (l.find? fun x => decide (x.1 = s)).map (·.2)
def ofZ (l : List Nm) (s : ByteArray) : Int := match ofI l s with | some k => k | none => -1
def wo (l : List Nm) (s : ByteArray) : List Nm := l.filter fun x => !decide (x.1 = s)
end Go.Dk
namespace Go.Dk
open Go Go.Tk
def gtB (a b : ByteArray) : Bool := !(Op.bytesLess a.toList b.toList || a.toList == b.toList)
def wi (l : List Nm) (s : ByteArray) (k : Nat) : List Nm := l.takeWhile (fun x => !gtB x.1 s) ++ (s, k) :: l.dropWhile (fun x => !gtB x.1 s)

theorem wi_none {l : List Nm} {s : ByteArray} {f : Nat} (h : ∀ x ∈ l, gtB x.1 s = false) : wi l s f = l ++ [(s, f)] := by
  unfold wi
  have e1 : l.takeWhile (fun x => !gtB x.1 s) = l := by
    induction l with
    | nil => rfl
    | cons x l ih => rw [List.takeWhile_cons, h x (by simp)]; simp; exact ih (fun y hy => h y (List.mem_cons_of_mem _ hy))
  have e2 : l.dropWhile (fun x => !gtB x.1 s) = [] := by
    induction l with
    | nil => rfl
    | cons x l ih =>
      rw [List.dropWhile_cons, h x (by simp)]
      rw [List.takeWhile_cons, h x (by simp)] at e1
      simp at e1 ⊢
      exact ih (fun y hy => h y (List.mem_cons_of_mem _ hy)) e1
  rw [e1, e2]
theorem wi_snoc {l : List Nm} {s : ByteArray} {f : Nat} (x : Nm) (h : ∃ y ∈ l, gtB y.1 s = true) : wi (l ++ [x]) s f = wi l s f ++ [x] := by
  unfold wi
  induction l with
  | nil => obtain ⟨y, hy, _⟩ := h; simp at hy
  | cons z l ih =>
    rw [List.cons_append, List.takeWhile_cons, List.dropWhile_cons, List.takeWhile_cons, List.dropWhile_cons]
    cases hz : gtB z.1 s with
    | true => simp
    | false =>
      simp only [Bool.not_false, if_true, List.cons_append]
      rw [ih ?_]
      obtain ⟨y, hy, hg⟩ := h
      rcases List.mem_cons.1 hy with rfl | hy
      · rw [hz] at hg; cases hg
      · exact ⟨y, hy, hg⟩
theorem wi_here {l : List Nm} {s : ByteArray} {f : Nat} (x : Nm) (h : ∀ y ∈ l, gtB y.1 s = false) (hx : gtB x.1 s = true) : wi (l ++ [x]) s f = l ++ [(s, f)] ++ [x] := by
  unfold wi
  induction l with
  | nil => simp [hx]
  | cons z l ih =>
    rw [List.cons_append, List.takeWhile_cons, List.dropWhile_cons, h z (by simp)]
    simp only [Bool.not_false, if_true, List.cons_append]
    rw [ih (fun y hy => h y (List.mem_cons_of_mem _ hy))]

def WiInv (l : List Nm) (s : ByteArray) (f k : Nat) (out : List Nm) (d : Bool) : Prop :=
  (d = false ∧ (∀ x ∈ l.take k, gtB x.1 s = false) ∧ out = l.take k) ∨ (d = true ∧ (∃ x ∈ l.take k, gtB x.1 s = true) ∧ out = wi (l.take k) s f)
theorem wi_len (l : List Nm) (s : ByteArray) (f : Nat) : (wi l s f).length = l.length + 1 := by
  have : ∀ p : Nm → Bool, (l.takeWhile p ++ (s, f) :: l.dropWhile p).length = l.length + 1 := by
    intro p
    have h := congrArg List.length (List.takeWhile_append_dropWhile (p := p) (l := l))
    rw [List.length_append] at h ⊢
    rw [List.length_cons]
    omega
  exact this _
theorem WiInv.start (l : List Nm) (s : ByteArray) (f : Nat) : WiInv l s f 0 [] false := .inl ⟨rfl, by simp, by simp⟩
theorem WiInv.len {l : List Nm} {s : ByteArray} {f k : Nat} {out : List Nm} {d : Bool} (h : WiInv l s f k out d) : out.length ≤ l.length + 1 := by
  rcases h with ⟨_, _, rfl⟩ | ⟨_, _, rfl⟩
  · rw [List.length_take]; omega
  · rw [wi_len, List.length_take]; omega
theorem WiInv.ins {l : List Nm} {s : ByteArray} {f k : Nat} {out : List Nm} (h : WiInv l s f k out false) (hk : k < l.length) {x : Nm} (hg : gtB x.1 s = true) (hx : x = l[k]) : WiInv l s f (k + 1) (out ++ [(s, f)] ++ [x]) true := by
  rcases h with ⟨_, h1, rfl⟩ | ⟨h0, _⟩
  · refine .inr ⟨rfl, ⟨x, ?_, hg⟩, ?_⟩
    · rw [List.take_succ_eq_append_getElem hk, ← hx]; simp
    · rw [List.take_succ_eq_append_getElem hk, ← hx, wi_here x h1 hg]
  · cases h0
theorem WiInv.skip {l : List Nm} {s : ByteArray} {f k : Nat} {out : List Nm} (h : WiInv l s f k out false) (hk : k < l.length) {x : Nm} (hg : gtB x.1 s = false) (hx : x = l[k]) : WiInv l s f (k + 1) (out ++ [x]) false := by
  rcases h with ⟨_, h1, rfl⟩ | ⟨h0, _⟩
  · refine .inl ⟨rfl, ?_, ?_⟩
    · rw [List.take_succ_eq_append_getElem hk, ← hx]
      intro y hy
      rcases List.mem_append.1 hy with hy | hy
      · exact h1 y hy
      · simp at hy; rw [hy]; exact hg
    · rw [List.take_succ_eq_append_getElem hk, ← hx]
  · cases h0
theorem WiInv.more {l : List Nm} {s : ByteArray} {f k : Nat} {out : List Nm} (h : WiInv l s f k out true) (hk : k < l.length) {x : Nm} (hx : x = l[k]) : WiInv l s f (k + 1) (out ++ [x]) true := by
  rcases h with ⟨h0, _⟩ | ⟨_, h1, rfl⟩
  · cases h0
  · refine .inr ⟨rfl, ?_, ?_⟩
    · rw [List.take_succ_eq_append_getElem hk]
      obtain ⟨y, hy, hg⟩ := h1
      exact ⟨y, List.mem_append_left _ hy, hg⟩
    · rw [List.take_succ_eq_append_getElem hk, ← hx, wi_snoc x h1]
theorem WiInv.fin {l : List Nm} {s : ByteArray} {f k : Nat} {out : List Nm} (h : WiInv l s f k out true) (hk : k = l.length) : out = wi l s f := by
  rcases h with ⟨h0, _⟩ | ⟨_, h1, rfl⟩
  · cases h0
  · rw [hk, List.take_length]
theorem WiInv.fin' {l : List Nm} {s : ByteArray} {f k : Nat} {out : List Nm} (h : WiInv l s f k out false) (hk : k = l.length) : out ++ [(s, f)] = wi l s f := by
  rcases h with ⟨_, h1, rfl⟩ | ⟨h0, _⟩
  · rw [hk, List.take_length] at h1 ⊢
    rw [wi_none h1]
  · cases h0
end Go.Dk

namespace Go.Proofs.Ytngickhakedonaa
open Go.RowKit Go.Tk Go.Dk

set_option maxRecDepth 100000 in
set_option maxHeartbeats 400000 in
theorem of_any (v : Value) (l : List Nm) (s : ByteArray) (w : World) (h : Rw nmC 2 w v l) (hl : l.length ≤ 1000000) :
    Calls Try.prog 65 #[v, .string s] w fun e w' => e = .returned (.int .i64 (ofZ l s)) ∧ Frm (fun _ => False) w w' := by
  obtain ⟨ao, cap, rfl, _, _, _, hc⟩ := h
  go_enter Try.func65, Try.ntmps65
  go_wp2_with fail
  go_loopw [5] (fun i wr => ∃ k : Nat, k ≤ l.length ∧ i = .int .i64 k ∧ (∀ x ∈ l.take k, x.1 ≠ s) ∧ Frm (fun _ => False) w wr) (fun i _ => l.length - (intOf i).toNat)
  case atStart => exact ⟨0, Nat.zero_le _, rfl, by simp, Frm.refl _ _⟩
  case round =>
    obtain ⟨k, hk, rfl, htk, hf⟩ := hrel
    have Htk := Lib.hid htk
    clear htk
    by_cases hlt : k < l.length
    · obtain ⟨b, rfl, c1⟩ := hc k hlt
      have r1 := (hf.cell (p := ⟨b, k * 2, none⟩) (World.block_lt_of_cell? _ _ (c1 0 _ rfl)) (fun h => h)).trans (c1 0 _ rfl)
      have r2 := (hf.cell (p := ⟨b, k * 2 + 1, none⟩) (World.block_lt_of_cell? _ _ (c1 1 _ rfl)) (fun h => h)).trans (c1 1 _ rfl)
      have Hc := Lib.hid hc
      clear hc c1
      have i1 : (0 : Int) ≤ k := by omega
      have i2 : (k : Int) < l.length := by omega
      obtain ⟨x, hx⟩ : ∃ x, x = l[k] := ⟨_, rfl⟩
      rw [← hx] at r1 r2
      have Hx := Lib.hid hx
      clear hx
      by_cases hxy : x.1 = s
      · have he : ofZ l s = (x.2 : Nat) := by
          have : l.find? (fun x => decide (x.1 = s)) = some x := by
            rw [List.find?_eq_some_iff_append]
            refine ⟨by simp [hxy], l.take k, l.drop (k + 1), ?_, fun y hy => by simpa using Htk.out y hy⟩
            rw [Hx.out, List.getElem_cons_drop, List.take_append_drop]
          simp [ofZ, ofI, this]
        have He := Lib.hid he
        have hn : (x.1.toList == s.toList) = true := by rw [hxy]; simp
        have Hxy := Lib.hid hxy
        clear hxy he
        go_wp2_with fail
        go_ret
        exact ⟨by rw [He.out]; rfl, hf⟩
      · have hn : (x.1.toList == s.toList) = false := (Lib.bytes_beq_false_iff x.1 s).2 hxy
        have Hxy := Lib.hid hxy
        clear hxy
        go_wp2_with fail
        refine ⟨⟨k + 1, by omega, by go_num, ?_, hf⟩, by simp [intOf]; omega⟩
        intro y hy
        rw [List.take_succ_eq_append_getElem hlt] at hy
        rcases List.mem_append.1 hy with hy | hy
        · exact Htk.out y hy
        · simp at hy; rw [hy, ← Hx.out]; exact Hxy.out
    · have hlt' : decide ((k : Int) < l.length) = false := by simp; omega
      have : k = l.length := by omega
      have he : ofZ l s = -1 := by
        have : l.find? (fun x => decide (x.1 = s)) = none := by
          rw [List.find?_eq_none]
          intro y hy
          have := Htk.out y (by rw [this, List.take_length]; exact hy)
          simpa using this
        simp [ofZ, ofI, this]
      have He := Lib.hid he
      clear he this
      go_wp2_with fail
      go_ret
      exact ⟨by rw [He.out]; rfl, hf⟩
end Go.Proofs.Ytngickhakedonaa

namespace Go.Proofs.Ytngickhakedonaa
open Go.RowKit Go.Tk Go.Dk

theorem info92 : (Try.prog.info? 92).map (fun i => (i.zero, i.size, i.bytes)) = some (some (.agg #[.string ⟨#[]⟩, .int .i64 0]), 2, 24) := by kernel_rfl

theorem cells_new (w : World) (xs : List Value) (t : TypeId) : ∀ j u, xs[j]? = some u → (w.alloc (.cells xs.toArray t)).cell? ((⟨w.heap.size, 0, none⟩ : Addr).add j) = some u := by
  intro j u hu
  rw [Addr.add_lit, Nat.zero_add, World.cell?_alloc_new]
  simpa using hu

/-- what an append of one struct asks -/
theorem app_facts (w : World) (xs : List Value) (t : TypeId) (n bytes base : Nat) (h1 : ∀ u ∈ xs, u.oneCell' = true) (hn : n ≤ 1000000) (hb : bytes ≤ 1000) (hbase : base ≤ w.heap.size) :
    RowKit.Hid ((∀ j u, xs[j]? = some u → (w.alloc (.cells xs.toArray t)).cell? ((⟨w.heap.size, 0, none⟩ : Addr).add j) = some u) ∧ (∀ u ∈ xs, u.oneCell' = true) ∧ n + 1 ≤ maxLen ∧ (n + 1) * bytes ≤ 140737488355328 ∧ base ≤ (w.alloc (.cells xs.toArray t)).heap.size) := by
  refine Lib.hid ⟨cells_new w xs t, h1, by unfold maxLen; omega, ?_, by rw [World.size_alloc]; omega⟩
  have : (n + 1) * bytes ≤ 1000001 * 1000 := Nat.mul_le_mul (by omega) hb
  omega

set_option maxRecDepth 100000 in
set_option maxHeartbeats 400000 in
theorem without_any (v : Value) (l : List Nm) (s : ByteArray) (w : World) (h : Rw nmC 2 w v l) (hl : l.length ≤ 1000000) :
    Calls Try.prog 80 #[v, .string s] w fun e w' => ∃ v', e = .returned v' ∧ w'.ownsRow w.heap.size 92 2 v' (wo l s).length ((wo l s).flatMap nmC) ∧ Frm (fun _ => False) w w' := by
  obtain ⟨ao, cap, rfl, _, _, _, hc⟩ := h
  obtain ⟨i0, hi, hz0, hz1, hz2⟩ := info_parts info92
  go_enter Try.func80, Try.ntmps80
  go_wp2_with fail
  go_loopw [5, 6] (fun gv i wr => ∃ k : Nat, k ≤ l.length ∧ i = .int .i64 k ∧ wr.ownsRow w.heap.size 92 2 gv (wo (l.take k) s).length ((wo (l.take k) s).flatMap nmC) ∧ Frm (fun _ => False) w wr) (fun _ i _ => l.length - (intOf i).toNat)
  case atStart => exact ⟨0, Nat.zero_le _, rfl, World.ownsRow_nil _ _ _ _, Frm.refl _ _⟩
  case round =>
    obtain ⟨k, hk, rfl, hown, hf⟩ := hrel
    by_cases hlt : k < l.length
    · obtain ⟨b, rfl, c1⟩ := hc k hlt
      have r1 := (hf.cell (p := ⟨b, k * 2, none⟩) (World.block_lt_of_cell? _ _ (c1 0 _ rfl)) (fun h => h)).trans (c1 0 _ rfl)
      have r2 := (hf.cell (p := ⟨b, k * 2 + 1, none⟩) (World.block_lt_of_cell? _ _ (c1 1 _ rfl)) (fun h => h)).trans (c1 1 _ rfl)
      have Hc := Lib.hid hc
      clear hc c1
      have i1 : (0 : Int) ≤ k := by omega
      have i2 : (k : Int) < l.length := by omega
      obtain ⟨x, hx⟩ : ∃ x, x = l[k] := ⟨_, rfl⟩
      rw [← hx] at r1 r2
      have htk : l.take (k + 1) = l.take k ++ [x] := by rw [List.take_succ_eq_append_getElem hlt, hx]
      have hwl : (wo (l.take k) s).length ≤ 1000000 := by
        have := List.length_filter_le (fun x : Nm => !decide (x.1 = s)) (l.take k)
        rw [List.length_take] at this
        unfold wo; omega
      have Hx := Lib.hid hx
      have Htk := Lib.hid htk
      clear hx htk
      by_cases hxy : x.1 = s
      · have hn : (x.1.toList == s.toList) = true := by rw [hxy]; simp
        have e : wo (l.take (k + 1)) s = wo (l.take k) s := by
          rw [Htk.out]; unfold wo; rw [List.filter_append]; simp [hxy]
        have E := Lib.hid e
        clear hxy e
        go_wp2_with fail
        exact ⟨⟨k + 1, by omega, by go_num, by rw [E.out]; exact hown, hf⟩, by simp [intOf]; omega⟩
      · have hn : (x.1.toList == s.toList) = false := (Lib.bytes_beq_false_iff x.1 s).2 hxy
        have e : wo (l.take (k + 1)) s = wo (l.take k) s ++ [x] := by
          rw [Htk.out]; unfold wo; rw [List.filter_append]; simp [hxy]
        have E := Lib.hid e
        have Q := app_facts wr [.string x.1, .int .i64 x.2] 92 (wo (l.take k) s).length 24 w.heap.size (by simp [Value.oneCell']) hwl (by decide) hf.size
        have i3 : k ≤ cap := by omega
        clear hxy e
        go_wp2_with (first | (at_builtin; refine wpList_append_own _ rfl _ _ 81 rfl w.heap.size 92 i0 _ 2 24 Try.underlying81 hi hz0 hz1 hz2 rfl (by decide) _ _ _ rfl (hown.alloc _) ⟨wr.heap.size, 0, none⟩ 1 1 [.string x.1, .int .i64 x.2] rfl rfl Q.out.1 Q.out.2.1 Q.out.2.2.1 Q.out.2.2.2.1 Q.out.2.2.2.2 ?_; intro v' wa hown' hgrow _))
        have hfa : Frm (fun _ => False) w wa := (hf.alloc _).trans' (Frm.of_grown (S := fun b => w.heap.size ≤ b) hgrow (fun k hk _ => (hown.lt k hk).1)) (fun b hb h => absurd h (Nat.not_le.2 hb))
        refine ⟨⟨k + 1, by omega, by go_num, ?_, hfa⟩, by simp [intOf]; omega⟩
        rw [E.out, List.flatMap_append, List.length_append]
        exact hown'
    · have hlt' : decide ((k : Int) < l.length) = false := by simp; omega
      have e : l.take k = l := List.take_of_length_le (by omega)
      have E := Lib.hid e
      clear e
      go_wp2_with fail
      go_ret
      rw [E.out] at hown
      exact ⟨_, rfl, hown, hf⟩
end Go.Proofs.Ytngickhakedonaa

namespace Go.Proofs.Ytngickhakedonaa
open Go.RowKit Go.Tk Go.Dk

theorem run_gtr (t : TypeId) (a b : ByteArray) : binOp .gtr t (.string a) (.string b) = pure (.bool (gtB a b)) := by
  simp [binOp, Op.stringOp, gtB]

/-- behind an append to a row of the call's own -/
theorem with_step {w wr wa : World} {o : Obj} {e : TypeId} {size n : Nat} {v : Value} {xs : List Value} (hf : Frm (fun _ => False) w wr) (hown : wr.ownsRow w.heap.size e size v n xs) (hg : (wr.alloc o).grownBy wa v.ownBlock) : Frm (fun _ => False) w wa :=
  (hf.alloc o).trans' (Frm.of_grown (S := fun b => w.heap.size ≤ b) hg (fun k hk _ => (hown.lt k hk).1)) (fun b hb h => absurd h (Nat.not_le.2 hb))

set_option maxRecDepth 100000 in
set_option maxHeartbeats 800000 in
theorem with_any (v : Value) (l : List Nm) (s : ByteArray) (f : Nat) (w : World) (h : Rw nmC 2 w v l) (hl : l.length ≤ 100000) :
    Calls Try.prog 79 #[v, .string s, .int .i64 f] w fun e w' => ∃ v', e = .returned v' ∧ w'.ownsRow w.heap.size 92 2 v' (wi l s f).length ((wi l s f).flatMap nmC) ∧ Frm (fun _ => False) w w' := by
  obtain ⟨ao, cap, rfl, _, _, _, hc⟩ := h
  obtain ⟨i0, hi, hz0, hz1, hz2⟩ := info_parts info92
  have hgt := run_gtr
  go_enter Try.func79, Try.ntmps79
  go_wp2_with fail
  go_loopw [7, 8, 9] (fun gv dn i wr => ∃ (k : Nat) (out : List Nm) (d : Bool), k ≤ l.length ∧ i = .int .i64 k ∧ dn = .bool d ∧ WiInv l s f k out d ∧ wr.ownsRow w.heap.size 92 2 gv out.length (out.flatMap nmC) ∧ Frm (fun _ => False) w wr) (fun _ _ i _ => l.length - (intOf i).toNat)
  case atStart => exact ⟨0, [], false, Nat.zero_le _, rfl, rfl, WiInv.start l s f, World.ownsRow_nil _ _ _ _, Frm.refl _ _⟩
  case round =>
    obtain ⟨k, out, d, hk, rfl, rfl, hinv, hown, hf⟩ := hrel
    have hol := hinv.len
    have Hinv := Lib.hid hinv
    clear hinv
    by_cases hlt : k < l.length
    · obtain ⟨b, rfl, c1⟩ := hc k hlt
      have r1 := (hf.cell (p := ⟨b, k * 2, none⟩) (World.block_lt_of_cell? _ _ (c1 0 _ rfl)) (fun h => h)).trans (c1 0 _ rfl)
      have r2 := (hf.cell (p := ⟨b, k * 2 + 1, none⟩) (World.block_lt_of_cell? _ _ (c1 1 _ rfl)) (fun h => h)).trans (c1 1 _ rfl)
      have hblk := World.block_lt_of_cell? _ _ (c1 0 _ rfl)
      have Hc := Lib.hid hc
      clear hc c1
      have i1 : (0 : Int) ≤ k := by omega
      have i2 : (k : Int) < l.length := by omega
      have i3 : k ≤ cap := by omega
      obtain ⟨x, hx⟩ : ∃ x, x = l[k] := ⟨_, rfl⟩
      rw [← hx] at r1 r2
      have Hx := Lib.hid hx
      clear hx
      cases d with
      | false =>
        by_cases hg : gtB x.1 s = true
        · have hnew := Lib.hid (Hinv.out.ins hlt hg Hx.out)
          have Q := app_facts wr [.string s, .int .i64 f] 92 out.length 24 w.heap.size (by simp [Value.oneCell']) (by omega) (by decide) hf.size
          go_wp2_with (first | (at_builtin; refine wpList_append_own _ rfl _ _ 81 rfl w.heap.size 92 i0 _ 2 24 Try.underlying81 hi hz0 hz1 hz2 rfl (by decide) _ _ _ rfl (hown.alloc _) ⟨wr.heap.size, 0, none⟩ 1 1 [.string s, .int .i64 f] rfl rfl Q.out.1 Q.out.2.1 Q.out.2.2.1 Q.out.2.2.2.1 Q.out.2.2.2.2 ?_; intro v' wa hown' hgrow _; have hfa := with_step hf hown hgrow; have s1 := (hfa.cell (p := ⟨b, k * 2, none⟩) hblk (fun h => h)).trans ((hf.cell (p := ⟨b, k * 2, none⟩) hblk (fun h => h)).symm.trans r1); have s2 := (hfa.cell (p := ⟨b, k * 2 + 1, none⟩) hblk (fun h => h)).trans ((hf.cell (p := ⟨b, k * 2 + 1, none⟩) hblk (fun h => h)).symm.trans r2); have Q2 := app_facts wa [.string x.1, .int .i64 x.2] 92 (out.length + 1) 24 w.heap.size (by simp [Value.oneCell']) (by omega) (by decide) hfa.size; clear Q hown hgrow r1 r2) | (at_builtin; refine wpList_append_own _ rfl _ _ 81 rfl w.heap.size 92 i0 _ 2 24 Try.underlying81 hi hz0 hz1 hz2 rfl (by decide) _ _ _ rfl (hown'.alloc _) ⟨wa.heap.size, 0, none⟩ 1 1 [.string x.1, .int .i64 x.2] rfl rfl Q2.out.1 Q2.out.2.1 Q2.out.2.2.1 Q2.out.2.2.2.1 Q2.out.2.2.2.2 ?_; intro v2 wb hown2 hgrow2 _))
          have hfb := with_step hfa hown' hgrow2
          refine ⟨⟨k + 1, out ++ [(s, f)] ++ [x], true, by omega, by go_num, rfl, hnew.out, ?_, hfb⟩, by simp [intOf]; omega⟩
          rw [List.length_append, List.length_append, List.flatMap_append, List.flatMap_append]
          exact hown2
        · have hg' : gtB x.1 s = false := by simpa using hg
          have hnew := Lib.hid (Hinv.out.skip hlt hg' Hx.out)
          have Q := app_facts wr [.string x.1, .int .i64 x.2] 92 out.length 24 w.heap.size (by simp [Value.oneCell']) (by omega) (by decide) hf.size
          clear hg
          go_wp2_with (first | (at_builtin; refine wpList_append_own _ rfl _ _ 81 rfl w.heap.size 92 i0 _ 2 24 Try.underlying81 hi hz0 hz1 hz2 rfl (by decide) _ _ _ rfl (hown.alloc _) ⟨wr.heap.size, 0, none⟩ 1 1 [.string x.1, .int .i64 x.2] rfl rfl Q.out.1 Q.out.2.1 Q.out.2.2.1 Q.out.2.2.2.1 Q.out.2.2.2.2 ?_; intro v' wa hown' hgrow _))
          have hfa : Frm (fun _ => False) w wa := (hf.alloc _).trans' (Frm.of_grown (S := fun b => w.heap.size ≤ b) hgrow (fun k hk _ => (hown.lt k hk).1)) (fun b hb h => absurd h (Nat.not_le.2 hb))
          refine ⟨⟨k + 1, out ++ [x], false, by omega, by go_num, rfl, hnew.out, ?_, hfa⟩, by simp [intOf]; omega⟩
          rw [List.length_append, List.flatMap_append]
          exact hown'
      | true =>
        have hnew := Lib.hid (Hinv.out.more hlt Hx.out)
        have Q := app_facts wr [.string x.1, .int .i64 x.2] 92 out.length 24 w.heap.size (by simp [Value.oneCell']) (by omega) (by decide) hf.size
        go_wp2_with (first | (at_builtin; refine wpList_append_own _ rfl _ _ 81 rfl w.heap.size 92 i0 _ 2 24 Try.underlying81 hi hz0 hz1 hz2 rfl (by decide) _ _ _ rfl (hown.alloc _) ⟨wr.heap.size, 0, none⟩ 1 1 [.string x.1, .int .i64 x.2] rfl rfl Q.out.1 Q.out.2.1 Q.out.2.2.1 Q.out.2.2.2.1 Q.out.2.2.2.2 ?_; intro v' wa hown' hgrow _))
        have hfa : Frm (fun _ => False) w wa := (hf.alloc _).trans' (Frm.of_grown (S := fun b => w.heap.size ≤ b) hgrow (fun k hk _ => (hown.lt k hk).1)) (fun b hb h => absurd h (Nat.not_le.2 hb))
        refine ⟨⟨k + 1, out ++ [x], true, by omega, by go_num, rfl, hnew.out, ?_, hfa⟩, by simp [intOf]; omega⟩
        rw [List.length_append, List.flatMap_append]
        exact hown'
    · have hlt' : decide ((k : Int) < l.length) = false := by simp; omega
      have hkl : k = l.length := by omega
      cases d with
      | true =>
        have hfin := Lib.hid (Hinv.out.fin hkl)
        go_wp2_with fail
        go_ret
        rw [hfin.out] at hown
        exact ⟨_, rfl, hown, hf⟩
      | false =>
        have hfin := Lib.hid (Hinv.out.fin' hkl)
        have Q := app_facts wr [.string s, .int .i64 f] 92 out.length 24 w.heap.size (by simp [Value.oneCell']) (by omega) (by decide) hf.size
        go_wp2_with (first | (at_builtin; refine wpList_append_own _ rfl _ _ 81 rfl w.heap.size 92 i0 _ 2 24 Try.underlying81 hi hz0 hz1 hz2 rfl (by decide) _ _ _ rfl (hown.alloc _) ⟨wr.heap.size, 0, none⟩ 1 1 [.string s, .int .i64 f] rfl rfl Q.out.1 Q.out.2.1 Q.out.2.2.1 Q.out.2.2.2.1 Q.out.2.2.2.2 ?_; intro v' wa hown' hgrow _))
        have hfa : Frm (fun _ => False) w wa := (hf.alloc _).trans' (Frm.of_grown (S := fun b => w.heap.size ≤ b) hgrow (fun k hk _ => (hown.lt k hk).1)) (fun b hb h => absurd h (Nat.not_le.2 hb))
        go_ret
        refine ⟨_, rfl, ?_, hfa⟩
        rw [← hfin.out, List.length_append, List.flatMap_append]
        exact hown'
end Go.Proofs.Ytngickhakedonaa

namespace Go.Proofs.Ytngickhakedonaa
open Go.RowKit Go.Tk Go.Dk

def badB (x : UInt8) : Bool := decide (x.toNat < 33) || decide (126 < x.toNat)
def okName (s : ByteArray) : Bool := decide (∀ i (h : i < s.size), badB s[i] = false) && decide (1 ≤ s.size) && decide (s.size ≤ 80)

set_option maxRecDepth 100000 in
set_option maxHeartbeats 400000 in
theorem isName_any (s : ByteArray) (w : World) (hs : s.size ≤ 2305843009213693952) :
    Calls Try.prog 64 #[.string s] w fun e w' => e = .returned (.bool (okName s)) ∧ Frm (fun _ => False) w w' := by
  go_enter Try.func64, Try.ntmps64
  go_wp2_with fail
  go_loopw [3] (fun i wr => ∃ k : Nat, k ≤ s.size ∧ i = .int .i64 k ∧ (∀ i (h : i < s.size), i < k → badB s[i] = false) ∧ Frm (fun _ => False) w wr) (fun i _ => s.size - (intOf i).toNat)
  case atStart => exact ⟨0, Nat.zero_le _, rfl, fun i _ h => absurd h (by omega), Frm.refl _ _⟩
  case round =>
    obtain ⟨k, hk, rfl, htk, hf⟩ := hrel
    have Htk := Lib.hid htk
    clear htk
    by_cases hlt : k < s.size
    · have i1 : (0 : Int) ≤ k := by omega
      have i2 : (k : Int) < s.size := by omega
      by_cases h1 : s[k].toNat < 33
      · have t1 : (s[k].toNat : Int) < 33 := by omega
        have hb : okName s = false := by
          unfold okName
          rw [decide_eq_false (p := ∀ i (h : i < s.size), badB s[i] = false) (fun h => by have := h k hlt; simp [badB] at this; omega)]
          rfl
        have Hb := Lib.hid hb
        clear hb
        go_wp2_with fail
        go_ret
        exact ⟨by rw [Hb.out]; rfl, hf⟩
      · have t1 : decide ((s[k].toNat : Int) < 33) = false := by simp; omega
        by_cases h2 : 126 < s[k].toNat
        · have t2 : (126 : Int) < (s[k].toNat : Int) := by omega
          have hb : okName s = false := by
            unfold okName
            rw [decide_eq_false (p := ∀ i (h : i < s.size), badB s[i] = false) (fun h => by have := h k hlt; simp [badB] at this; omega)]
            rfl
          have Hb := Lib.hid hb
          clear hb
          go_wp2_with fail
          go_ret
          exact ⟨by rw [Hb.out]; rfl, hf⟩
        · have t2 : decide ((126 : Int) < (s[k].toNat : Int)) = false := by simp; omega
          go_wp2_with fail
          refine ⟨⟨k + 1, by omega, by go_num, ?_, hf⟩, by simp [intOf]; omega⟩
          intro i hi hik
          rcases Nat.lt_or_ge i k with h | h
          · exact Htk.out i hi h
          · obtain rfl : i = k := by omega
            simp [badB]; omega
    · have hlt' : decide ((k : Int) < s.size) = false := by simp; omega
      have hkl : k = s.size := by omega
      have hall : ∀ i (h : i < s.size), badB s[i] = false := fun i h => Htk.out i h (by omega)
      have Hall := Lib.hid hall
      clear hall
      by_cases h1 : 1 ≤ s.size
      · have t1 : (1 : Int) ≤ s.size := by omega
        by_cases h2 : s.size ≤ 80
        · have t2 : (s.size : Int) ≤ 80 := by omega
          go_wp2_with fail
          go_ret
          exact ⟨by unfold okName; rw [decide_eq_true Hall.out, decide_eq_true h1, decide_eq_true h2]; rfl, hf⟩
        · have t2 : decide ((s.size : Int) ≤ 80) = false := by simp; omega
          go_wp2_with fail
          go_ret
          exact ⟨by unfold okName; rw [decide_eq_true Hall.out, decide_eq_true h1, decide_eq_false h2]; rfl, hf⟩
      · have t1 : decide ((1 : Int) ≤ s.size) = false := by simp; omega
        go_wp2_with fail
        go_ret
        exact ⟨by unfold okName; rw [decide_eq_true Hall.out, decide_eq_false h1]; rfl, hf⟩

def pickI (c n : Int) : Int := if c < 0 then (-(c + 1)) % n else c % n
theorem pickI_lo (c n : Int) (hn : 0 < n) : 0 ≤ pickI c n := by unfold pickI; split <;> exact Int.emod_nonneg _ (by omega)
theorem pickI_hi (c n : Int) (hn : 0 < n) : pickI c n < n := by unfold pickI; split <;> exact Int.emod_lt_of_pos _ hn

theorem pick03_any (c n : Int) (w : World) (hc : -9223372036854775808 ≤ c) (hc' : c ≤ 9223372036854775807) (hn : 0 < n) (hn' : n ≤ 1000000) :
    Calls Try.prog 15 #[.int .i64 c, .int .i64 n] w fun e w' => e = .returned (.int .i64 (pickI c n)) ∧ w = w' := by
  by_cases h : c < 0
  · have e1 : pickI c n = (-(c + 1)) % n := by simp [pickI, h]
    have E1 := Lib.hid e1
    clear e1
    have h2 : 0 ≤ -(c + 1) := by omega
    have h3 : (n == 0) = false := by rw [beq_eq_false_iff_ne]; omega
    go_enter Try.func15, Try.ntmps15
    go_wp2_with fail
    go_ret
    refine ⟨?_, rfl⟩
    rw [E1.out]
    show Ending.returned (Value.int IntKind.i64 (-(c + 1).tmod n)) = _
    rw [← Int.neg_tmod, Int.tmod_eq_emod_of_nonneg h2]
  · have e1 : pickI c n = c % n := by simp [pickI, h]
    have E1 := Lib.hid e1
    clear e1
    have h2 : 0 ≤ c := by omega
    have h3 : (n == 0) = false := by rw [beq_eq_false_iff_ne]; omega
    go_enter Try.func15, Try.ntmps15
    go_wp2_with fail
    go_ret
    refine ⟨?_, rfl⟩
    rw [E1.out]
    rfl
end Go.Proofs.Ytngickhakedonaa
