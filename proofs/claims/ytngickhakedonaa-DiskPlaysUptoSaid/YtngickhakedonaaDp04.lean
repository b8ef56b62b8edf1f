/- A text of a claim's proof: see the last text of the claim. -/
import Derived.Test.YtngickhakedonaaDp00
import Derived.Test.YtngickhakedonaaDp03
import Derived.Maps.AppendAt
set_option linter.all false
namespace Go.Tk
open Go Go.MapKept

/-! ### maps whose keys are pointers to blocks -/
def ptrV (n : Nat) : Value := .pointer (some ⟨n, 0, none⟩)
theorem ptrV_inj {a b : Nat} (h : ptrV a = ptrV b) : a = b := by unfold ptrV at h; injection h with h; injection h with h; injection h
def PMap (w : World) (b : Nat) (l : List (Nat × Value)) : Prop :=
  ∃ es clock, w.heap[b]? = some (.map es clock) ∧ Stamped es clock ∧ es.toList.map (fun e => (e.key, e.val)) = l.map (fun p => (ptrV p.1, p.2))

theorem PMap.lt {w : World} {b : Nat} {l : List (Nat × Value)} (h : PMap w b l) : b < w.heap.size := by
  obtain ⟨es, c, hb, _⟩ := h; exact lt_of_heap hb
theorem PMap.of_block {w w' : World} {b : Nat} {l : List (Nat × Value)} (h : PMap w b l) (hb : w'.heap[b]? = w.heap[b]?) : PMap w' b l := by
  obtain ⟨es, c, h1, h2⟩ := h; exact ⟨es, c, hb.trans h1, h2⟩
theorem PMap.frm {S : Nat → Prop} {w w' : World} {b : Nat} {l : List (Nat × Value)} (h : PMap w b l) (hf : Frm S w w') (hn : ¬ S b) : PMap w' b l := h.of_block (hf.block b h.lt hn)
theorem PMap.made (w : World) : PMap (w.alloc (.map #[] 0)) w.heap.size [] := ⟨#[], 0, (heap_alloc w _).1, stamped_empty 0, rfl⟩

section
variable {P : Program} {w : World} {tp te : TypeId} {j : TypeInfo}
theorem run_equal_ptr (hp : P.underlying tp = some (.pointer te)) (hte : P.info? te = some j) (hsz : j.size ≠ 0) {a b : Nat} (ha : Fz w a) (hb : Fz w b) :
    (Op.equal tp (ptrV a) (ptrV b)).run P w = .ok (decide (a = b)) w := by
  by_cases e : a = b
  · subst e
    have h : ∀ d : Nat, (Op.equalIn (d + 1) tp (ptrV a) (ptrV a)).run P w = .ok true w := fun d => by
      simp [ptrV, Op.equalIn, run_underlying hp, sizeOf, typeInfo, hte, run_sameAddr_same]
    simp [Op.equal, Op.maxDepth, h 9999]
  · obtain ⟨ca, ta, ha⟩ := ha
    obtain ⟨cb, tb, hb⟩ := hb
    have h : ∀ d : Nat, (Op.equalIn (d + 1) tp (ptrV a) (ptrV b)).run P w = .ok false w := fun d => by
      simp [ptrV, Op.equalIn, run_underlying hp, sizeOf, typeInfo, hte, hsz, run_sameAddr_other w (a := ⟨a, 0, none⟩) (b := ⟨b, 0, none⟩) (fun q => e (congrArg Addr.block q)) ha hb]
    simp [Op.equal, Op.maxDepth, h 9999, e]

theorem run_findAsking_ptr (hp : P.underlying tp = some (.pointer te)) (hte : P.info? te = some j) (hsz : j.size ≠ 0) {a : Nat} (ha : Fz w a) : ∀ (es : List MapEntry) (i : Nat), (∀ e ∈ es, ∃ n, e.key = ptrV n ∧ Fz w n) →
    ((Instr.findAsking tp (ptrV a) es i).run P w = .ok none w ∧ ∀ e ∈ es, e.key ≠ ptrV a) ∨ ∃ k e, (Instr.findAsking tp (ptrV a) es i).run P w = .ok (some (i + k, e.val)) w ∧ es[k]? = some e ∧ e.key = ptrV a
  | [], _, _ => .inl ⟨by simp [Instr.findAsking], by simp⟩
  | e :: es, i, h => by
    obtain ⟨n, hn, hf⟩ := h e (by simp)
    have hq := run_equal_ptr hp hte hsz ha hf
    by_cases c : a = n
    · subst c
      refine .inr ⟨0, e, ?_, rfl, hn⟩
      simp [Instr.findAsking, hn, hq, Result.andThen]
    · have hne : e.key ≠ ptrV a := by rw [hn]; exact fun q => c (ptrV_inj q).symm
      rcases run_findAsking_ptr hp hte hsz ha es (i + 1) (fun x hx => h x (List.mem_cons_of_mem _ hx)) with ⟨h1, h2⟩ | ⟨k, x, h1, h2, h3⟩
      · refine .inl ⟨?_, fun x hx => ?_⟩
        · simp [Instr.findAsking, hn, hq, c, Result.andThen, h1]
        · rcases List.mem_cons.1 hx with rfl | hx
          · exact hne
          · exact h2 x hx
      · refine .inr ⟨k + 1, x, ?_, by simpa using h2, h3⟩
        simp [Instr.findAsking, hn, hq, c, Result.andThen, h1]
        omega
theorem run_findKey_ptr (hp : P.underlying tp = some (.pointer te)) (hte : P.info? te = some j) (hsz : j.size ≠ 0) {a : Nat} (ha : Fz w a) (es : List MapEntry) (h : ∀ e ∈ es, ∃ n, e.key = ptrV n ∧ Fz w n) :
    ((Instr.findKey tp (ptrV a) es).run P w = .ok none w ∧ ∀ e ∈ es, e.key ≠ ptrV a) ∨ ∃ k e, (Instr.findKey tp (ptrV a) es).run P w = .ok (some (k, e.val)) w ∧ es[k]? = some e ∧ e.key = ptrV a := by
  cases es with
  | nil => exact .inl ⟨by simp [Instr.findKey, Instr.findNow, run_underlying hp, Result.andThen], by simp⟩
  | cons e es =>
    obtain ⟨n, hn, _⟩ := h e (by simp)
    have hnow : Instr.findNow (.pointer te) (ptrV a) (e :: es) 0 = none := by simp [Instr.findNow, hn, ptrV, Instr.sameNow]
    have := run_findAsking_ptr hp hte hsz ha (e :: es) 0 h
    simp only [Nat.zero_add] at this
    simpa [Instr.findKey, run_underlying hp, Result.andThen, hnow] using this
theorem run_checkKey_ptr (hp : P.underlying tp = some (.pointer te)) (a : Nat) (e : Bool) (n : Nat) : (Instr.checkKey e (n + 1) tp (ptrV a)).run P w = .ok () w := by
  unfold Instr.checkKey
  simp [Sem.run_bind, run_underlying hp, Result.andThen, ptrV]
theorem run_keyStays_ptr (a : Nat) : (Instr.keyThatStays (ptrV a) (ptrV a)).run P w = .ok (ptrV a) w := by
  simp [Instr.keyThatStays, ptrV, Instr.sameBits]

variable {t e te' : TypeId} {b : Nat} {l : List (Nat × Value)}
theorem PMap.nodup (h : PMap w b l) : (l.map (·.1)).Nodup := by
  obtain ⟨es, c, _, ⟨_, _, h3⟩, he⟩ := h
  have e1 : es.toList.map (·.key) = (l.map (·.1)).map ptrV := by
    have := congrArg (List.map (·.1)) he
    simp only [List.map_map] at this ⊢
    exact this
  rw [e1] at h3
  exact (List.pairwise_map.1 h3).imp (fun {a b} hab e => hab (by rw [e]))
theorem PMap.find (h : PMap w b l) (hp : P.underlying tp = some (.pointer te)) (hte : P.info? te = some j) (hsz : j.size ≠ 0) {s : Nat} (hs : Fz w s) (hl : ∀ p ∈ l, Fz w p.1) :
    ∃ es clock, w.heap[b]? = some (.map es clock) ∧ Stamped es clock ∧ es.toList.map (fun e => (e.key, e.val)) = l.map (fun p => (ptrV p.1, p.2)) ∧
      (((Instr.findKey tp (ptrV s) es.toList).run P w = .ok none w ∧ assoc s l = none ∧ (∀ p ∈ l, p.1 ≠ s) ∧ ∀ x ∈ es.toList, x.key ≠ ptrV s) ∨
       ∃ j x v, (Instr.findKey tp (ptrV s) es.toList).run P w = .ok (some (j, v)) w ∧ es.toList[j]? = some x ∧ l[j]? = some (s, v) ∧ x.key = ptrV s ∧ x.val = v ∧ assoc s l = some v) := by
  have hn := h.nodup
  obtain ⟨es, c, hb, hst, he⟩ := h
  refine ⟨es, c, hb, hst, he, ?_⟩
  have hk : ∀ x ∈ es.toList, ∃ n, x.key = ptrV n ∧ Fz w n := by
    intro x hx
    have : (x.key, x.val) ∈ l.map (fun p => (ptrV p.1, p.2)) := by rw [← he]; exact List.mem_map.2 ⟨x, hx, rfl⟩
    obtain ⟨p, hpm, hpe⟩ := List.mem_map.1 this
    exact ⟨p.1, (congrArg (·.1) hpe).symm, hl p hpm⟩
  rcases run_findKey_ptr hp hte hsz hs es.toList hk with ⟨h1, h2⟩ | ⟨i, x, h1, h2, h3⟩
  · have hno : ∀ p ∈ l, p.1 ≠ s := by
      intro p hpm hps
      have : (ptrV p.1, p.2) ∈ es.toList.map (fun e => (e.key, e.val)) := by rw [he]; exact List.mem_map.2 ⟨p, hpm, rfl⟩
      obtain ⟨x, hx, hxe⟩ := List.mem_map.1 this
      simp at hxe
      exact h2 x hx (by rw [hxe.1, hps])
    exact .inl ⟨h1, assoc_none hno, hno, h2⟩
  · have h4 := congrArg (·[i]?) he
    simp only [List.getElem?_map, h2, Option.map_some] at h4
    cases hl2 : l[i]? with
    | none => rw [hl2] at h4; cases h4
    | some p =>
      rw [hl2] at h4
      simp at h4
      have hps : p.1 = s := ptrV_inj (h4.1.symm.trans h3)
      have hpe : p = (s, x.val) := by rw [← hps, h4.2]
      subst hpe
      exact .inr ⟨i, x, x.val, h1, h2, hl2, h3, rfl, assoc_of_getElem hn hl2⟩

theorem PMap.run_lookup (h : PMap w b l) (ht : P.underlying t = some (.map tp e)) (hp : P.underlying tp = some (.pointer te)) (hte : P.info? te = some j) (hsz : j.size ≠ 0) {s : Nat} (hs : Fz w s) (hl : ∀ p ∈ l, Fz w p.1) {z : Value} (hz : (zeroValue e).run P w = .ok z w) :
    (Instr.lookup t (.map (some b)) (ptrV s) false).run P w = .ok ((assoc s l).getD z) w := by
  obtain ⟨es, c, hb, _, _, h⟩ := h.find hp hte hsz hs hl
  rcases h with ⟨h1, h2, _⟩ | ⟨j, x, v, h1, _, _, _, _, h2⟩ <;>
  simp [Instr.lookup, run_underlying ht, MapKept.run_getObj_map hb, run_checkKey_ptr hp, h1, h2, hz, Result.andThen]

theorem upd_of_find {α : Type} [DecidableEq α] {f : α → Value} (hinj : ∀ a b, f a = f b → a = b) {es : Array MapEntry} {l : List (α × Value)} (he : es.toList.map (fun e => (e.key, e.val)) = l.map (fun p => (f p.1, p.2))) (hn : (l.map (·.1)).Nodup) {s : α} {v u : Value} {j : Nat} {x : MapEntry} (hj : es[j]? = some x) (h3 : l[j]? = some (s, u)) (h4 : x.key = f s) :
    (es.modify j fun e => { e with key := f s, val := v }).toList.map (fun e => (e.key, e.val)) = (upd s v l).map (fun p => (f p.1, p.2)) := by
  have : l.any (fun p => decide (p.1 = s)) = true := List.any_eq_true.2 ⟨_, List.mem_of_getElem? h3, by simp⟩
  simp only [upd, this, if_true]
  apply List.ext_getElem?
  intro i
  have hi := congrArg (·[i]?) he
  simp only [List.getElem?_map] at hi
  simp only [List.getElem?_map, Array.getElem?_toList, Array.getElem?_modify]
  by_cases hij : j = i
  · subst hij
    simp [hj, h3]
  · rw [if_neg hij]
    rw [Array.getElem?_toList] at hi
    rw [hi]
    cases hl : l[i]? with
    | none => rfl
    | some p =>
      have hne : p.1 ≠ s := by
        intro hp
        have hi1 : i < l.length := (List.getElem?_eq_some_iff.1 hl).1
        have hj1 : j < l.length := (List.getElem?_eq_some_iff.1 h3).1
        have e1 : (l.map (·.1))[j]'(by simpa using hj1) = (l.map (·.1))[i]'(by simpa using hi1) := by
          simp [(List.getElem?_eq_some_iff.1 hl).2, (List.getElem?_eq_some_iff.1 h3).2, hp]
        exact hij ((List.getElem_inj hn).1 e1)
      simp [hne]

theorem PMap.run_update (h : PMap w b l) (ht : P.underlying t = some (.map tp e)) (hp : P.underlying tp = some (.pointer te)) (hte : P.info? te = some j) (hsz : j.size ≠ 0) {s : Nat} (hs : Fz w s) (hl : ∀ p ∈ l, Fz w p.1) (v : Value) :
    ∃ w', (Instr.mapUpdate t (.map (some b)) (ptrV s) v).run P w = .ok () w' ∧ PMap w' b (upd s v l) ∧ Frm (· = b) w w' := by
  have hn := h.nodup
  obtain ⟨es, c, hb, hst, he, h⟩ := h.find hp hte hsz hs hl
  rcases h with ⟨h1, h2, h3, h4⟩ | ⟨i, x, u, h1, h2, h3, h4, h5, h6⟩
  · refine ⟨_, by simp [Instr.mapUpdate, run_underlying ht, MapKept.run_getObj_map hb, run_checkKey_ptr hp, h1, MapKept.run_setObj_map _ hb, Result.andThen]; rfl, ?_, heap_setObj hb⟩
    refine ⟨_, _, (heap_set hb).1, stamped_push hst h4, ?_⟩
    have : l.any (fun p => decide (p.1 = s)) = false := by rw [List.any_eq_false]; exact fun p hp => by simp [h3 p hp]
    simp only [upd, this]
    simp [he]
  · have hj : es[i]? = some x := by simpa using h2
    refine ⟨_, by simp [Instr.mapUpdate, run_underlying ht, MapKept.run_getObj_map hb, run_checkKey_ptr hp, h1, hj, h4, run_keyStays_ptr, MapKept.run_setObj_map _ hb, Result.andThen]; rfl, ?_, heap_setObj hb⟩
    exact ⟨_, _, (heap_set hb).1, stamped_modify hst i _ (fun _ _ => rfl) (fun e0 _ h0 => by rw [hj] at h0; cases h0; exact h4.symm), upd_of_find (fun _ _ => ptrV_inj) he hn hj h3 h4⟩
end
end Go.Tk

namespace Go.Proofs.Ytngickhakedonaa
open Go.RowKit Go.Tk Go.Dk

/-! ### the program's disk in memory -/
inductive Role where
  | free | head | dir | sure | fails | loose | konst
  | file (k : Nat)
  | bytes (k : Nat)

def byC (x : ByteArray) : List Value := x.data.toList.map fun c => .int .u8 (c.toNat : Int)
theorem byC_len (x : ByteArray) : (byC x).length = x.size := by
  unfold byC
  rw [List.length_map]; rfl

structure PL where
  role : Nat → Role
  live : Nat → Prop
  fb : Nat → Nat
  vb : Nat → Value
  bd : Nat
  bs : Nat
  bf : Nat
  vl : Value
  dl : List Nm
  sl : List Nm
  fl : List (Int × Nat)
  pa : List (DAct × Nat × Nat)

def nmE (fb : Nat → Nat) (x : Nm) : ByteArray × Value := (x.1, ptrV (fb x.2))
def flE (x : Int × Nat) : Int × Value := (x.1, .int .i64 x.2)
def clos (f : Nat) (c : Array Value) : Value := .func (.func f) #[] c
def paV (fb : Nat → Nat) (p : DAct × Nat × Nat) : Value × Value × Value :=
  match p.1 with
  | .mk _ _ => (.pointer none, .int .i64 0, clos 52 #[ptrV p.2.1, ptrV p.2.2])
  | .mv _ _ => (.pointer none, .int .i64 0, clos 61 #[ptrV p.2.1, ptrV p.2.2])
  | .rm _ => (.pointer none, .int .i64 0, clos 62 #[ptrV p.2.1])
  | .put k n => (ptrV (fb k), .int .i64 n, .nilFunc)
def paC (fb : Nat → Nat) (p : DAct × Nat × Nat) : List Value := [(paV fb p).1, (paV fb p).2.1, (paV fb p).2.2]
theorem paC_len (fb : Nat → Nat) (p : DAct × Nat × Nat) : (paC fb p).length = 3 := rfl
def capOk (w : World) (fb : Nat → Nat) (role : Nat → Role) (p : DAct × Nat × Nat) : Prop :=
  match p.1 with
  | .mk n k => w.cell? ⟨p.2.1, 0, none⟩ = some (ptrV (fb k)) ∧ w.cell? ⟨p.2.2, 0, none⟩ = some (.string n) ∧ role p.2.1 = .konst ∧ role p.2.2 = .konst
  | .mv a b => w.cell? ⟨p.2.1, 0, none⟩ = some (.string a) ∧ w.cell? ⟨p.2.2, 0, none⟩ = some (.string b) ∧ role p.2.1 = .konst ∧ role p.2.2 = .konst
  | .rm n => w.cell? ⟨p.2.1, 0, none⟩ = some (.string n) ∧ role p.2.1 = .konst
  | .put _ _ => True
def actLive (live : Nat → Prop) : DAct → Prop | .mk _ k => live k | .put k _ => live k | _ => True

/-- bytes in a slice of the disk's own -/
def BV (w : World) (v : Value) (x : ByteArray) : Prop := w.ownsRow 0 5 1 v x.size (byC x)
def bown (v : Value) : Option Nat := v.ownBlock
theorem BV.frm {S : Nat → Prop} {w w' : World} {v : Value} {x : ByteArray} (h : BV w v x) (hf : Frm S w w') (hn : ∀ g, bown v = some g → ¬ S g) : BV w' v x := row_frm h hf hn
theorem BV.slice {w : World} {v : Value} {x : ByteArray} (h : BV w v x) : ∃ ao cap, v = .slice ao x.size cap ∧ x.size ≤ cap := by
  obtain ⟨ao, cap, e, h1, _⟩ := row_slice h
  exact ⟨ao, cap, e, h1⟩
theorem BV.own_lt {w : World} {v : Value} {x : ByteArray} (h : BV w v x) {g : Nat} (hg : bown v = some g) : g < w.heap.size := (h.lt g hg).2

structure FileOk (w : World) (L : PL) (k : Nat) (f : Fl) : Prop where
  f0 : w.cell? ⟨L.fb k, 0, none⟩ = some (L.vb k)
  f1 : w.cell? ⟨L.fb k, 1, none⟩ = some (.int .i64 f.2)
  fz : Fz w (L.fb k)
  fr : L.role (L.fb k) = .file k
  bv : BV w (L.vb k) f.1
  br : ∀ g, bown (L.vb k) = some g → L.role g = .bytes k

structure PD (w : World) (d : Nat) (L : PL) (s : DS) : Prop where
  c0 : w.cell? ⟨d, 0, none⟩ = some (.map (some L.bd))
  c1 : w.cell? ⟨d, 1, none⟩ = some (.map (some L.bs))
  c2 : w.cell? ⟨d, 2, none⟩ = some L.vl
  c3 : w.cell? ⟨d, 3, none⟩ = some (.int .i64 s.room)
  c4 : w.cell? ⟨d, 4, none⟩ = some (.int .i64 s.n)
  c5 : w.cell? ⟨d, 5, none⟩ = some (.int .i64 s.cut)
  c6 : w.cell? ⟨d, 6, none⟩ = some (.bool s.off)
  c7 : w.cell? ⟨d, 7, none⟩ = some (.map (some L.bf))
  fz : Fz w d
  dirm : GMap strKy w L.bd (L.dl.map (nmE L.fb))
  surem : GMap strKy w L.bs (L.sl.map (nmE L.fb))
  failsm : GMap i64Ky w L.bf (L.fl.map flE)
  dp : L.dl.Perm s.dir
  sp : L.sl.Perm s.sure
  fp : ∀ n : Int, n ∈ s.fails ↔ ∃ c, (n, c) ∈ L.fl
  fc : ∀ x ∈ L.fl, 1 ≤ x.2 ∧ x.2 ≤ s.fails.length
  ap : L.pa.map (·.1) = s.acts
  loose : w.ownsRow 0 104 3 L.vl L.pa.length (L.pa.flatMap (paC L.fb))
  caps : ∀ p ∈ L.pa, capOk w L.fb L.role p
  files : ∀ k, L.live k → FileOk w L k (getF s k)
  ld : ∀ x ∈ s.dir, L.live x.2
  ls : ∀ x ∈ s.sure, L.live x.2
  la : ∀ a ∈ s.acts, actLive L.live a
  lv : ∀ k, L.live k → k < s.files.length
  r0 : L.role d = .head
  rd : L.role L.bd = .dir
  rs : L.role L.bs = .sure
  rf : L.role L.bf = .fails
  rl : ∀ b, L.vl.ownBlock = some b → L.role b = .loose
  rb : ∀ b, L.role b ≠ .free → b < w.heap.size

variable {w w' : World} {d : Nat} {L : PL} {s : DS} {S : Nat → Prop}

theorem FileOk.frm {k : Nat} {f : Fl} (h : FileOk w L k f) (hf : Frm S w w') (h1 : ∀ b, L.role b = .file k → ¬ S b) (h2 : ∀ b, L.role b = .bytes k → ¬ S b) : FileOk w' L k f := by
  have hlt : L.fb k < w.heap.size := World.block_lt_of_cell? _ _ h.f0
  have hn := h1 _ h.fr
  exact ⟨(hf.cell (p := ⟨L.fb k, 0, none⟩) hlt hn).trans h.f0, (hf.cell (p := ⟨L.fb k, 1, none⟩) hlt hn).trans h.f1, h.fz.frm hf hn, h.fr, h.bv.frm hf (fun g hg => h2 g (h.br g hg)), h.br⟩
theorem capOk.frm {fb : Nat → Nat} {role : Nat → Role} {p : DAct × Nat × Nat} (h : capOk w fb role p) (hf : Frm S w w') (h1 : ∀ b, role b = .konst → ¬ S b) : capOk w' fb role p := by
  have key : ∀ b v, role b = .konst → w.cell? ⟨b, 0, none⟩ = some v → w'.cell? ⟨b, 0, none⟩ = some v := fun b v hr hc =>
    (hf.cell (p := ⟨b, 0, none⟩) (World.block_lt_of_cell? _ _ hc) (h1 b hr)).trans hc
  obtain ⟨a, x, y⟩ := p
  cases a with
  | mk n k => exact ⟨key _ _ h.2.2.1 h.1, key _ _ h.2.2.2 h.2.1, h.2.2.1, h.2.2.2⟩
  | mv n k => exact ⟨key _ _ h.2.2.1 h.1, key _ _ h.2.2.2 h.2.1, h.2.2.1, h.2.2.2⟩
  | rm n => exact ⟨key _ _ h.2 h.1, h.2⟩
  | put k n => trivial
theorem capOk.role {fb : Nat → Nat} {role role' : Nat → Role} {p : DAct × Nat × Nat} (h : capOk w fb role p) (hr : ∀ b, role b ≠ .free → role' b = role b) : capOk w fb role' p := by
  have key : ∀ b, role b = .konst → role' b = .konst := fun b hb => by rw [hr b (by rw [hb]; simp), hb]
  obtain ⟨a, x, y⟩ := p
  cases a with
  | mk n k => exact ⟨h.1, h.2.1, key _ h.2.2.1, key _ h.2.2.2⟩
  | mv n k => exact ⟨h.1, h.2.1, key _ h.2.2.1, key _ h.2.2.2⟩
  | rm n => exact ⟨h.1, key _ h.2⟩
  | put k n => trivial

theorem PD.frm (h : PD w d L s) (hf : Frm S w w') (hS : ∀ b, L.role b ≠ .free → ¬ S b) : PD w' d L s := by
  have hlt := h.rb d (by rw [h.r0]; simp)
  have hd := hS d (by rw [h.r0]; simp)
  have cc : ∀ o, w'.cell? ⟨d, o, none⟩ = w.cell? ⟨d, o, none⟩ := fun o => hf.cell (p := ⟨d, o, none⟩) hlt hd
  exact { h with
    c0 := (cc 0).trans h.c0, c1 := (cc 1).trans h.c1, c2 := (cc 2).trans h.c2, c3 := (cc 3).trans h.c3, c4 := (cc 4).trans h.c4, c5 := (cc 5).trans h.c5, c6 := (cc 6).trans h.c6, c7 := (cc 7).trans h.c7
    fz := h.fz.frm hf hd
    dirm := h.dirm.frm hf (hS _ (by rw [h.rd]; simp))
    surem := h.surem.frm hf (hS _ (by rw [h.rs]; simp))
    failsm := h.failsm.frm hf (hS _ (by rw [h.rf]; simp))
    loose := row_frm h.loose hf (fun b hb => hS b (by rw [h.rl b hb]; simp))
    caps := fun p hp => (h.caps p hp).frm hf (fun b hb => hS b (by rw [hb]; simp))
    files := fun k hk => (h.files k hk).frm hf (fun b hb => hS b (by rw [hb]; simp)) (fun b hb => hS b (by rw [hb]; simp))
    rb := fun b hb => Nat.lt_of_lt_of_le (h.rb b hb) hf.size }
theorem PD.keep (h : PD w d L s) (hf : Frm (fun _ => False) w w') : PD w' d L s := h.frm hf (fun _ _ h => h)

theorem PD.roles (h : PD w d L s) {role' : Nat → Role} (h1 : ∀ b, L.role b ≠ .free → role' b = L.role b) (h2 : ∀ b, role' b ≠ .free → b < w.heap.size) : PD w d { L with role := role' } s := by
  have key : ∀ b r, r ≠ .free → L.role b = r → role' b = r := fun b r hr hb => by rw [h1 b (by rw [hb]; exact hr), hb]
  exact { h with
    caps := fun p hp => (h.caps p hp).role h1
    files := fun k hk => ⟨(h.files k hk).f0, (h.files k hk).f1, (h.files k hk).fz, key _ _ (by simp) (h.files k hk).fr, (h.files k hk).bv, fun g hg => key _ _ (by simp) ((h.files k hk).br g hg)⟩
    r0 := key _ _ (by simp) h.r0, rd := key _ _ (by simp) h.rd, rs := key _ _ (by simp) h.rs, rf := key _ _ (by simp) h.rf
    rl := fun b hb => key _ _ (by simp) (h.rl b hb)
    rb := h2 }
def addR (role : Nat → Role) (b : Nat) (r : Role) : Nat → Role := fun x => if x = b then r else role x
theorem addR_same (role : Nat → Role) (b : Nat) (r : Role) : addR role b r b = r := if_pos rfl
theorem addR_ne {role : Nat → Role} {b x : Nat} (r : Role) (h : x ≠ b) : addR role b r x = role x := if_neg h
theorem PD.addR (h : PD w d L s) {b : Nat} (r : Role) (hb : L.role b = .free) (hlt : b < w.heap.size) : PD w d { L with role := addR L.role b r } s := by
  refine h.roles (fun x hx => addR_ne r (fun e => hx (by rw [e, hb]))) (fun x hx => ?_)
  by_cases e : x = b
  · rw [e]; exact hlt
  · exact h.rb x (by rwa [addR_ne r e] at hx)
theorem PD.new_free (h : PD w d L s) {b : Nat} (hb : w.heap.size ≤ b) : L.role b = .free := by
  cases hr : L.role b with
  | free => rfl
  | _ => have := h.rb b (by rw [hr]; simp); omega

/-- the head's plain cells -/
theorem PD.scal (h : PD w d L s) (hf : Frm (· = d) w w') (hz : Fz w' d) {s' : DS} (e1 : s'.files = s.files) (e2 : s'.dir = s.dir) (e3 : s'.sure = s.sure) (e4 : s'.acts = s.acts) (e5 : s'.fails = s.fails)
    (c0 : w'.cell? ⟨d, 0, none⟩ = w.cell? ⟨d, 0, none⟩) (c1 : w'.cell? ⟨d, 1, none⟩ = w.cell? ⟨d, 1, none⟩) (c2 : w'.cell? ⟨d, 2, none⟩ = w.cell? ⟨d, 2, none⟩) (c3 : w'.cell? ⟨d, 3, none⟩ = some (.int .i64 s'.room)) (c4 : w'.cell? ⟨d, 4, none⟩ = some (.int .i64 s'.n)) (c5 : w'.cell? ⟨d, 5, none⟩ = some (.int .i64 s'.cut)) (c6 : w'.cell? ⟨d, 6, none⟩ = some (.bool s'.off)) (c7 : w'.cell? ⟨d, 7, none⟩ = w.cell? ⟨d, 7, none⟩) : PD w' d L s' := by
  have hS : ∀ b r, L.role b = r → r ≠ .head → ¬ b = d := fun b r hb hr e => hr (by rw [← hb, e, h.r0])
  have eg : ∀ k, getF s' k = getF s k := fun k => by unfold getF; rw [e1]
  exact {
    c0 := c0.trans h.c0, c1 := c1.trans h.c1, c2 := c2.trans h.c2, c3 := c3, c4 := c4, c5 := c5, c6 := c6, c7 := c7.trans h.c7
    fz := hz
    dirm := h.dirm.frm hf (hS _ _ h.rd (by simp))
    surem := h.surem.frm hf (hS _ _ h.rs (by simp))
    failsm := h.failsm.frm hf (hS _ _ h.rf (by simp))
    dp := by rw [e2]; exact h.dp
    sp := by rw [e3]; exact h.sp
    fp := by rw [e5]; exact h.fp
    fc := by rw [e5]; exact h.fc
    ap := by rw [e4]; exact h.ap
    loose := row_frm h.loose hf (fun b hb => hS b _ (h.rl b hb) (by simp))
    caps := fun p hp => (h.caps p hp).frm hf (fun b hb => hS b _ hb (by simp))
    files := fun k hk => by rw [eg]; exact (h.files k hk).frm hf (fun b hb => hS b _ hb (by simp)) (fun b hb => hS b _ hb (by simp))
    ld := by rw [e2]; exact h.ld
    ls := by rw [e3]; exact h.ls
    la := by rw [e4]; exact h.la
    lv := by rw [e1]; exact h.lv
    r0 := h.r0, rd := h.rd, rs := h.rs, rf := h.rf, rl := h.rl
    rb := fun b hb => Nat.lt_of_lt_of_le (h.rb b hb) hf.size }

/-- one cell of the head -/
theorem PD.setFrm (w : World) (d o : Nat) (u : Value) : Frm (· = d) w (w.setCell ⟨d, o, none⟩ u) := (Frm.refl (fun b => b = d) w).setCell (p := ⟨d, o, none⟩) (fun _ => rfl) u
theorem PD.set_room (h : PD w d L s) (n : Int) : PD (w.setCell ⟨d, 3, none⟩ (.int .i64 n)) d L { s with room := n } :=
  h.scal (PD.setFrm w d 3 _) (h.fz.set _ _) rfl rfl rfl rfl rfl (set_off _ _ _ _ _ _ (by decide)) (set_off _ _ _ _ _ _ (by decide)) (set_off _ _ _ _ _ _ (by decide)) (set_same _ _ _ _ _ h.c3) ((set_off _ _ _ _ _ _ (by decide)).trans h.c4) ((set_off _ _ _ _ _ _ (by decide)).trans h.c5) ((set_off _ _ _ _ _ _ (by decide)).trans h.c6) (set_off _ _ _ _ _ _ (by decide))
theorem PD.set_n (h : PD w d L s) (n : Nat) : PD (w.setCell ⟨d, 4, none⟩ (.int .i64 n)) d L { s with n := n } :=
  h.scal (PD.setFrm w d 4 _) (h.fz.set _ _) rfl rfl rfl rfl rfl (set_off _ _ _ _ _ _ (by decide)) (set_off _ _ _ _ _ _ (by decide)) (set_off _ _ _ _ _ _ (by decide)) ((set_off _ _ _ _ _ _ (by decide)).trans h.c3) (set_same _ _ _ _ _ h.c4) ((set_off _ _ _ _ _ _ (by decide)).trans h.c5) ((set_off _ _ _ _ _ _ (by decide)).trans h.c6) (set_off _ _ _ _ _ _ (by decide))
theorem PD.set_cut (h : PD w d L s) (n : Int) : PD (w.setCell ⟨d, 5, none⟩ (.int .i64 n)) d L { s with cut := n } :=
  h.scal (PD.setFrm w d 5 _) (h.fz.set _ _) rfl rfl rfl rfl rfl (set_off _ _ _ _ _ _ (by decide)) (set_off _ _ _ _ _ _ (by decide)) (set_off _ _ _ _ _ _ (by decide)) ((set_off _ _ _ _ _ _ (by decide)).trans h.c3) ((set_off _ _ _ _ _ _ (by decide)).trans h.c4) (set_same _ _ _ _ _ h.c5) ((set_off _ _ _ _ _ _ (by decide)).trans h.c6) (set_off _ _ _ _ _ _ (by decide))
theorem PD.set_off (h : PD w d L s) (n : Bool) : PD (w.setCell ⟨d, 6, none⟩ (.bool n)) d L { s with off := n } :=
  h.scal (PD.setFrm w d 6 _) (h.fz.set _ _) rfl rfl rfl rfl rfl (Tk.set_off _ _ _ _ _ _ (by decide)) (Tk.set_off _ _ _ _ _ _ (by decide)) (Tk.set_off _ _ _ _ _ _ (by decide)) ((Tk.set_off _ _ _ _ _ _ (by decide)).trans h.c3) ((Tk.set_off _ _ _ _ _ _ (by decide)).trans h.c4) ((Tk.set_off _ _ _ _ _ _ (by decide)).trans h.c5) (set_same _ _ _ _ _ h.c6) (Tk.set_off _ _ _ _ _ _ (by decide))

/-- the directory's map has turned -/
theorem PD.dir_step (h : PD w d L s) (hf : Frm (· = L.bd) w w') {dl : List Nm} {dir : List Nm} (hm : GMap strKy w' L.bd (dl.map (nmE L.fb))) (hp : dl.Perm dir) (hl : ∀ x ∈ dir, L.live x.2) : PD w' d { L with dl := dl } { s with dir := dir } := by
  have hS : ∀ b r, L.role b = r → r ≠ .dir → ¬ b = L.bd := fun b r hb hr e => hr (by rw [← hb, e, h.rd])
  have hlt := h.rb d (by rw [h.r0]; simp)
  have cc : ∀ o, w'.cell? ⟨d, o, none⟩ = w.cell? ⟨d, o, none⟩ := fun o => hf.cell (p := ⟨d, o, none⟩) hlt (hS d _ h.r0 (by simp))
  exact { h with
    c0 := (cc 0).trans h.c0, c1 := (cc 1).trans h.c1, c2 := (cc 2).trans h.c2, c3 := (cc 3).trans h.c3, c4 := (cc 4).trans h.c4, c5 := (cc 5).trans h.c5, c6 := (cc 6).trans h.c6, c7 := (cc 7).trans h.c7
    fz := h.fz.frm hf (hS d _ h.r0 (by simp))
    dirm := hm
    surem := h.surem.frm hf (hS _ _ h.rs (by simp))
    failsm := h.failsm.frm hf (hS _ _ h.rf (by simp))
    dp := hp
    loose := row_frm h.loose hf (fun b hb => hS b _ (h.rl b hb) (by simp))
    caps := fun p hp => (h.caps p hp).frm hf (fun b hb => hS b _ hb (by simp))
    files := fun k hk =>
      have q := (h.files k hk).frm hf (fun b hb => hS b _ hb (by simp)) (fun b hb => hS b _ hb (by simp))
      ⟨q.f0, q.f1, q.fz, q.fr, q.bv, q.br⟩
    ld := hl
    rb := fun b hb => Nat.lt_of_lt_of_le (h.rb b hb) hf.size }

open Classical in
/-- the loose acts' row has turned -/
theorem PD.loose_step (h : PD w d L s) (hf : Frm (fun b => b = d ∨ L.vl.ownBlock = some b) w w') (hc : ∀ o, o ≠ 2 → w'.cell? ⟨d, o, none⟩ = w.cell? ⟨d, o, none⟩) (hz : Fz w' d) {v : Value} {pa : List (DAct × Nat × Nat)} (c2 : w'.cell? ⟨d, 2, none⟩ = some v)
    (ho : w'.ownsRow 0 104 3 v pa.length (pa.flatMap (paC L.fb))) (hat : ∀ b, v.ownBlock = some b → L.vl.ownBlock = some b ∨ w.heap.size ≤ b) (hcap : ∀ p ∈ pa, capOk w L.fb L.role p) (hla : ∀ p ∈ pa, actLive L.live p.1) :
    ∃ L', L'.dl = L.dl ∧ L'.live = L.live ∧ L'.fb = L.fb ∧ L'.vb = L.vb ∧ L'.bd = L.bd ∧ PD w' d L' { s with acts := pa.map (·.1) } ∧ ∀ b, L'.role b ≠ .free → L.role b ≠ .free ∨ (w.heap.size ≤ b ∧ b < w'.heap.size) := by
  have hS : ∀ b r, L.role b = r → r ≠ .head → r ≠ .loose → ¬ (b = d ∨ L.vl.ownBlock = some b) := by
    rintro b r hb hr1 hr2 (e | e)
    · exact hr1 (by rw [← hb, e, h.r0])
    · exact hr2 (by rw [← hb, h.rl b e])
  let role' : Nat → Role := fun b => if L.role b = .free ∧ v.ownBlock = some b then .loose else L.role b
  have hr1 : ∀ b, L.role b ≠ .free → role' b = L.role b := fun b hb => if_neg (fun e => hb e.1)
  have key : ∀ b r, r ≠ .free → L.role b = r → role' b = r := fun b r hr hb => by rw [hr1 b (by rw [hb]; exact hr), hb]
  have hold : ∀ b, role' b ≠ .free → L.role b ≠ .free ∨ (w.heap.size ≤ b ∧ b < w'.heap.size) := by
    intro b hb
    by_cases e : L.role b = .free ∧ v.ownBlock = some b
    · rcases hat b e.2 with h1 | h1
      · have := h.rl b h1; rw [e.1] at this; cases this
      · exact .inr ⟨h1, (ho.lt b e.2).2⟩
    · have : role' b = L.role b := if_neg e
      rw [this] at hb
      exact .inl hb
  refine ⟨{ L with vl := v, pa := pa, role := role' }, rfl, rfl, rfl, rfl, rfl, ?_, hold⟩
  exact {
    c0 := (hc 0 (by decide)).trans h.c0, c1 := (hc 1 (by decide)).trans h.c1, c2 := c2, c3 := (hc 3 (by decide)).trans h.c3, c4 := (hc 4 (by decide)).trans h.c4, c5 := (hc 5 (by decide)).trans h.c5, c6 := (hc 6 (by decide)).trans h.c6, c7 := (hc 7 (by decide)).trans h.c7
    fz := hz
    dirm := h.dirm.frm hf (hS _ _ h.rd (by simp) (by simp))
    surem := h.surem.frm hf (hS _ _ h.rs (by simp) (by simp))
    failsm := h.failsm.frm hf (hS _ _ h.rf (by simp) (by simp))
    dp := h.dp, sp := h.sp, fp := h.fp, fc := h.fc
    ap := rfl
    loose := ho
    caps := fun p hp => ((hcap p hp).frm hf (fun b hb => hS b _ hb (by simp) (by simp))).role hr1
    files := fun k hk => by
      have q := (h.files k hk).frm hf (fun b hb => hS b _ hb (by simp) (by simp)) (fun b hb => hS b _ hb (by simp) (by simp))
      exact ⟨q.f0, q.f1, q.fz, key _ _ (by simp) q.fr, q.bv, fun g hg => key _ _ (by simp) (q.br g hg)⟩
    ld := h.ld, ls := h.ls
    la := fun a ha => by obtain ⟨p, hp, rfl⟩ := List.mem_map.1 ha; exact hla p hp
    lv := h.lv
    r0 := key _ _ (by simp) h.r0, rd := key _ _ (by simp) h.rd, rs := key _ _ (by simp) h.rs, rf := key _ _ (by simp) h.rf
    rl := fun b hb => by
      show role' b = .loose
      by_cases e : L.role b = .free
      · exact if_pos ⟨e, hb⟩
      · rw [hr1 b e]
        rcases hat b hb with h1 | h1
        · exact h.rl b h1
        · exact absurd (h.new_free h1) e
    rb := fun b hb => by
      rcases hold b hb with h1 | h1
      · exact Nat.lt_of_lt_of_le (h.rb b h1) hf.size
      · exact h1.2 }

open Classical in
/-- a file has turned -/
theorem PD.file_step (h : PD w d L s) {k : Nat} (hk : L.live k) (hf : Frm (fun b => b = L.fb k ∨ bown (L.vb k) = some b) w w') {v : Value} {f : Fl} (f0 : w'.cell? ⟨L.fb k, 0, none⟩ = some v) (f1 : w'.cell? ⟨L.fb k, 1, none⟩ = some (.int .i64 f.2)) (hz : Fz w' (L.fb k)) (hb : BV w' v f.1)
    (hat : ∀ g, bown v = some g → bown (L.vb k) = some g ∨ w.heap.size ≤ g) :
    ∃ L', L'.dl = L.dl ∧ L'.live = L.live ∧ L'.fb = L.fb ∧ L'.vl = L.vl ∧ L'.pa = L.pa ∧ L'.bd = L.bd ∧ PD w' d L' { s with files := s.files.set k f } ∧ ∀ b, L'.role b ≠ .free → L.role b ≠ .free ∨ (w.heap.size ≤ b ∧ b < w'.heap.size) := by
  have hfr := (h.files k hk).fr
  have hbr := (h.files k hk).br
  have hS : ∀ b r, L.role b = r → r ≠ .file k → r ≠ .bytes k → ¬ (b = L.fb k ∨ bown (L.vb k) = some b) := by
    rintro b r hb hr1 hr2 (e | e)
    · exact hr1 (by rw [← hb, e, hfr])
    · exact hr2 (by rw [← hb, hbr b e])
  have hlt := h.rb d (by rw [h.r0]; simp)
  have cc : ∀ o, w'.cell? ⟨d, o, none⟩ = w.cell? ⟨d, o, none⟩ := fun o => hf.cell (p := ⟨d, o, none⟩) hlt (hS d _ h.r0 (by simp) (by simp))
  let role' : Nat → Role := fun b => if L.role b = .free ∧ bown v = some b then .bytes k else L.role b
  have hr1 : ∀ b, L.role b ≠ .free → role' b = L.role b := fun b hb => if_neg (fun e => hb e.1)
  have key : ∀ b r, r ≠ .free → L.role b = r → role' b = r := fun b r hr hb => by rw [hr1 b (by rw [hb]; exact hr), hb]
  have hold : ∀ b, role' b ≠ .free → L.role b ≠ .free ∨ (w.heap.size ≤ b ∧ b < w'.heap.size) := by
    intro b hb'
    by_cases e : L.role b = .free ∧ bown v = some b
    · rcases hat b e.2 with h1 | h1
      · have := hbr b h1; rw [e.1] at this; cases this
      · exact .inr ⟨h1, hb.own_lt e.2⟩
    · have : role' b = L.role b := if_neg e
      rw [this] at hb'
      exact .inl hb'
  have hkl := h.lv k hk
  refine ⟨{ L with vb := fun j => if j = k then v else L.vb j, role := role' }, rfl, rfl, rfl, rfl, rfl, rfl, ?_, hold⟩
  exact {
    c0 := (cc 0).trans h.c0, c1 := (cc 1).trans h.c1, c2 := (cc 2).trans h.c2, c3 := (cc 3).trans h.c3, c4 := (cc 4).trans h.c4, c5 := (cc 5).trans h.c5, c6 := (cc 6).trans h.c6, c7 := (cc 7).trans h.c7
    fz := h.fz.frm hf (hS d _ h.r0 (by simp) (by simp))
    dirm := h.dirm.frm hf (hS _ _ h.rd (by simp) (by simp))
    surem := h.surem.frm hf (hS _ _ h.rs (by simp) (by simp))
    failsm := h.failsm.frm hf (hS _ _ h.rf (by simp) (by simp))
    dp := h.dp, sp := h.sp, fp := h.fp, fc := h.fc, ap := h.ap
    loose := row_frm h.loose hf (fun b hb => hS b _ (h.rl b hb) (by simp) (by simp))
    caps := fun p hp => ((h.caps p hp).frm hf (fun b hb => hS b _ hb (by simp) (by simp))).role hr1
    files := fun j hj => by
      rw [getF_set (s := s) (k := k) (x := f) hkl rfl]
      by_cases e : j = k
      · subst e
        rw [if_pos rfl]
        refine ⟨?_, f1, hz, key _ _ (by simp) hfr, ?_, ?_⟩
        · show _ = some (if j = j then v else _); rw [if_pos rfl]; exact f0
        · show BV w' (if j = j then v else _) _; rw [if_pos rfl]; exact hb
        · intro g hg
          replace hg : bown v = some g := by simpa using hg
          show role' g = .bytes j
          by_cases e : L.role g = .free
          · exact if_pos ⟨e, hg⟩
          · rw [hr1 g e]
            rcases hat g hg with h1 | h1
            · exact hbr g h1
            · exact absurd (h.new_free h1) e
      · rw [if_neg e]
        have q := (h.files j hj).frm hf (fun b hb => hS b _ hb (by simpa using e) (by simp)) (fun b hb => hS b _ hb (by simp) (by simpa using e))
        refine ⟨?_, q.f1, q.fz, key _ _ (by simp) q.fr, ?_, ?_⟩
        · show _ = some (if j = k then v else _); rw [if_neg e]; exact q.f0
        · show BV w' (if j = k then v else _) _; rw [if_neg e]; exact q.bv
        · intro g hg
          replace hg : bown (L.vb j) = some g := by simpa [e] using hg
          exact key _ _ (by simp) (q.br g hg)
    ld := h.ld, ls := h.ls, la := h.la
    lv := fun j hj => by simpa using h.lv j hj
    r0 := key _ _ (by simp) h.r0, rd := key _ _ (by simp) h.rd, rs := key _ _ (by simp) h.rs, rf := key _ _ (by simp) h.rf
    rl := fun b hb => key _ _ (by simp) (h.rl b hb)
    rb := fun b hb => by
      rcases hold b hb with h1 | h1
      · exact Nat.lt_of_lt_of_le (h.rb b h1) hf.size
      · exact h1.2 }
end Go.Proofs.Ytngickhakedonaa

namespace Go.Proofs.Ytngickhakedonaa
open Go.RowKit Go.Tk Go.Dk

theorem badF_any (c : UInt8) (w : World) : Calls Try.prog 82 #[.int .u8 (c.toNat : Int)] w fun e w' => e = .returned (.bool (badB c)) ∧ w = w' := by
  have hc := UInt8.toNat_lt c
  by_cases h1 : c.toNat < 33
  · have t1 : (c.toNat : Int) < 33 := by omega
    have hb : badB c = true := by simp [badB, h1]
    have Hb := Lib.hid hb
    clear hb h1
    go_enter Try.func82, Try.ntmps82
    go_wp2_with fail
    go_ret
    exact ⟨by rw [Hb.out]; rfl, rfl⟩
  · have t1 : decide ((c.toNat : Int) < 33) = false := by simp; omega
    by_cases h2 : 126 < c.toNat
    · have t2 : (126 : Int) < c.toNat := by omega
      have hb : badB c = true := by simp [badB, h2]
      have Hb := Lib.hid hb
      clear hb h1 h2
      go_enter Try.func82, Try.ntmps82
      go_wp2_with fail
      go_ret
      exact ⟨by rw [Hb.out]; rfl, rfl⟩
    · have t2 : decide ((126 : Int) < c.toNat) = false := by simp; omega
      have hb : badB c = false := by simp [badB, h2]; omega
      have Hb := Lib.hid hb
      clear hb h1 h2
      go_enter Try.func82, Try.ntmps82
      go_wp2_with fail
      go_ret
      exact ⟨by rw [Hb.out]; rfl, rfl⟩

def hasBad (X : ByteArray) : Bool := !decide (∀ i (h : i < X.size), badB X[i] = false)

set_option maxRecDepth 100000 in
set_option maxHeartbeats 400000 in
theorem badIx_any (X : ByteArray) (b cap : Nat) (w : World) (hb : Lib.Bytes w b 0 X) (hs : X.size ≤ 2305843009213693952) (hle : X.size ≤ cap) :
    Calls Try.prog 86 #[.slice (some ⟨b, 0, none⟩) X.size cap, .func (.func 82) #[] #[]] w fun e w' => (∃ r : Int, e = .returned (.int .i64 r) ∧ (decide (0 ≤ r) = hasBad X)) ∧ w = w' := by
  go_enter Try.func86, Try.ntmps86
  go_wp2_with fail
  go_loop [5, 8] (fun _ i => ∃ k : Nat, k ≤ X.size ∧ i = .int .i64 k ∧ (∀ i (h : i < X.size), i < k → badB X[i] = false)) (fun _ i => X.size - (intOf i).toNat)
  case atStart => exact ⟨0, Nat.zero_le _, rfl, fun i _ h => absurd h (by omega)⟩
  case round =>
    obtain ⟨k, hk, rfl, htk⟩ := hrel
    have Htk := Lib.hid htk
    clear htk
    by_cases hlt : k < X.size
    · have i1 : (0 : Int) ≤ k := by omega
      have i2 : (k : Int) < X.size := by omega
      have r1 := hb k hlt
      rw [Nat.zero_add] at r1
      have HB := Lib.hid hb
      clear hb
      go_wp2_with fail
      refine (badF_any X[k] _).mono ?_
      rintro e w' ⟨rfl, rfl⟩
      cases hbb : badB X[k] with
      | true =>
        have he : hasBad X = true := by
          unfold hasBad
          rw [decide_eq_false (fun h => by have := h k hlt; rw [hbb] at this; cases this)]; rfl
        have He := Lib.hid he
        clear he hbb
        go_wp2_with fail
        go_ret
        exact ⟨⟨k, rfl, by rw [He.out]; simp⟩, rfl⟩
      | false =>
        have Hbb := Lib.hid hbb
        clear hbb
        go_wp2_with fail
        refine ⟨⟨k + 1, by omega, by go_num, ?_⟩, by simp [intOf]; omega⟩
        intro i hi hik
        rcases Nat.lt_or_ge i k with h | h
        · exact Htk.out i hi h
        · obtain rfl : i = k := by omega
          exact Hbb.out
    · have hlt' : decide ((k : Int) < X.size) = false := by simp; omega
      have he : hasBad X = false := by
        unfold hasBad
        rw [decide_eq_true (fun i h => Htk.out i h (by omega))]; rfl
      have He := Lib.hid he
      clear he
      go_wp2_with fail
      go_ret
      exact ⟨⟨-1, rfl, by rw [He.out]; rfl⟩, rfl⟩

theorem badIn_any (X : ByteArray) (b cap : Nat) (w : World) (hb : Lib.Bytes w b 0 X) (hs : X.size ≤ 2305843009213693952) (hle : X.size ≤ cap) :
    Calls Try.prog 81 #[.slice (some ⟨b, 0, none⟩) X.size cap, .func (.func 82) #[] #[]] w fun e w' => e = .returned (.bool (hasBad X)) ∧ w = w' := by
  have HB := Lib.hid hb
  clear hb
  go_enter Try.func81, Try.ntmps81
  go_wp2_with fail
  refine (badIx_any X b cap _ HB.out hs hle).mono ?_
  rintro e w' ⟨⟨r, rfl, hr⟩, rfl⟩
  have Hr := Lib.hid hr
  clear hr
  go_wp2_with fail
  go_ret
  exact ⟨by rw [← Hr.out]; rfl, rfl⟩

def strC (x : ByteArray) : List Value := [.string x]
theorem okName_eq (s : ByteArray) : okName s = (!hasBad s && decide (1 ≤ s.size) && decide (s.size ≤ 80)) := by unfold okName hasBad; rw [Bool.not_not]
theorem all_take {l : List ByteArray} {k : Nat} (h : k < l.length) : ((l.take (k + 1)).all okName) = ((l.take k).all okName && okName l[k]) := by
  rw [List.take_succ_eq_append_getElem h, List.all_append]; simp
theorem all_bad {l : List ByteArray} {k : Nat} (h : k < l.length) (hb : okName l[k] = false) : l.all okName = false := by
  rw [List.all_eq_false]
  exact ⟨l[k], List.getElem_mem _, by rw [hb]; simp⟩

set_option maxRecDepth 100000 in
set_option maxHeartbeats 400000 in
theorem right_any (v : Value) (l : List ByteArray) (w : World) (h : Rw strC 1 w v l) (hl : l.length ≤ 1000000) (hs : ∀ x ∈ l, x.size ≤ 2305843009213693952) :
    Calls Try.prog 71 #[v] w fun e w' => e = .returned (.bool (l.all okName)) ∧ Frm (fun _ => False) w w' := by
  obtain ⟨ao, cap, rfl, hle, _, _, hc⟩ := h
  have HS := Lib.hid hs
  clear hs
  go_enter Try.func71, Try.ntmps71
  go_wp2_with fail
  go_loopw [4, 7] (fun _ i wr => ∃ k : Nat, k ≤ l.length ∧ i = .int .i64 k ∧ (l.take k).all okName = true ∧ Frm (fun _ => False) w wr) (fun _ i _ => l.length - (intOf i).toNat)
  case atStart => exact ⟨0, Nat.zero_le _, rfl, rfl, Frm.refl _ _⟩
  case round =>
    obtain ⟨k, hk, rfl, htk, hf⟩ := hrel
    have Htk := Lib.hid htk
    clear htk
    by_cases hlt : k < l.length
    · obtain ⟨b, rfl, c1⟩ := hc k hlt
      have r1 := (hf.cell (p := ⟨b, k * 1, none⟩) (World.block_lt_of_cell? _ _ (c1 0 _ rfl)) (fun h => h)).trans (c1 0 _ rfl)
      rw [Nat.mul_one] at r1
      have Hc := Lib.hid hc
      clear hc c1
      have i1 : (0 : Int) ≤ k := by omega
      have i2 : (k : Int) < l.length := by omega
      have Hall := Lib.hid (all_take hlt)
      have Hbad := Lib.hid (all_bad hlt)
      have hxs := HS.out _ (List.getElem_mem hlt)
      generalize l[k] = x at *
      have hok := okName_eq x
      by_cases h1 : x.size < 1
      · have t1 : (x.size : Int) < 1 := by omega
        have Hok := Lib.hid (hok.trans (by rw [decide_eq_false (p := 1 ≤ x.size) (by omega)]; simp) : okName x = false)
        clear hok h1
        go_wp2_with fail
        go_ret
        exact ⟨by rw [Hbad.out Hok.out]; rfl, hf⟩
      have t1 : decide ((x.size : Int) < 1) = false := by simp; omega
      by_cases h2 : 80 < x.size
      · have t2 : (80 : Int) < x.size := by omega
        have Hok := Lib.hid (hok.trans (by rw [decide_eq_false (p := x.size ≤ 80) (by omega)]; simp) : okName x = false)
        clear hok h1 h2
        go_wp2_with fail
        go_ret
        exact ⟨by rw [Hbad.out Hok.out]; rfl, hf⟩
      have t2 : decide ((80 : Int) < x.size) = false := by simp; omega
      obtain ⟨w5, cap5, hcv, hle5, hf5, hb5, hz5, hs5⟩ := conv_bytes x wr
      have Hok := Lib.hid hok
      have Hb := Lib.hid (And.intro hf5 (And.intro hb5 hs5))
      have h12 : 1 ≤ x.size ∧ x.size ≤ 80 := by omega
      have H12 := Lib.hid h12
      clear hf5 hb5 hz5 hs5 hok h1 h2 h12
      go_wp2_with fail
      refine (badIn_any x _ _ _ Hb.out.2.1 hxs hle5).mono ?_
      rintro e w' ⟨rfl, rfl⟩
      have hok2 : okName x = !hasBad x := by rw [Hok.out, decide_eq_true H12.out.1, decide_eq_true H12.out.2]; simp
      cases hbb : hasBad x with
      | true =>
        have Hk := Lib.hid (hok2.trans (by rw [hbb]; rfl) : okName x = false)
        clear hok2 hbb hcv
        go_wp2_with fail
        go_ret
        exact ⟨by rw [Hbad.out Hk.out]; rfl, hf.trans Hb.out.1⟩
      | false =>
        have Hk := Lib.hid (hok2.trans (by rw [hbb]; rfl) : okName x = true)
        clear hok2 hbb hcv
        go_wp2_with fail
        exact ⟨⟨k + 1, by omega, by go_num, by rw [Hall.out, Htk.out, Hk.out]; rfl, hf.trans Hb.out.1⟩, by simp [intOf]; omega⟩
    · have hlt' : decide ((k : Int) < l.length) = false := by simp; omega
      have e : l.take k = l := List.take_of_length_le (by omega)
      rw [e] at Htk
      clear e
      go_wp2_with fail
      go_ret
      exact ⟨by rw [Htk.out]; rfl, hf⟩
end Go.Proofs.Ytngickhakedonaa

namespace Go.Proofs.Ytngickhakedonaa
open Go.RowKit Go.Tk Go.Dk

variable {w w' : World} {d : Nat} {L : PL} {s : DS} {B : Nat → Prop}

theorem zero98 (w : World) : (zeroValue 98).run Try.prog w = .ok (.pointer none) w := by kernel_rfl
theorem zero3 (w : World) : (zeroValue 3).run Try.prog w = .ok (.int .i64 0) w := by kernel_rfl

theorem assoc_nmE (fb : Nat → Nat) (l : List Nm) (n : ByteArray) : assoc n (l.map (nmE fb)) = (ofI l n).map fun k => ptrV (fb k) := by
  unfold assoc ofI
  induction l with
  | nil => rfl
  | cons x l ih =>
    rw [List.map_cons, List.find?_cons, List.find?_cons]
    show Option.map _ (match decide (x.1 = n) with | true => _ | false => _) = _
    cases decide (x.1 = n) with
    | true => rfl
    | false => exact ih

/-- what the directory has under a name -/
def dirV (L : PL) (s : DS) (n : ByteArray) : Value := match ofI s.dir n with | some k => ptrV (L.fb k) | none => .pointer none
theorem PD.ofI (h : PD w d L s) (hi : Inv s) (n : ByteArray) : ofI L.dl n = Dk.ofI s.dir n :=
  ofI_perm n h.dp ((h.dp.map _).nodup_iff.2 hi.dok.srt.names)
theorem GMap.drewN {α : Type} [DecidableEq α] {K : Ky α} {w : World} {b : Nat} {l : List (α × Value)} (h : GMap K w b l) (n : Nat) : GMap K (w.drewN n) b l := h.frm ((Frm.refl (fun _ => False) w).drewN n) (fun h => h)
theorem PD.look (h : PD w d L s) (hi : Inv s) (n : ByteArray) (m : Nat) : (Instr.lookup 75 (.map (some L.bd)) (.string n) false).run Try.prog (w.drewN m) = .ok (dirV L s n) (w.drewN m) := by
  have := (GMap.drewN h.dirm m).run_lookup (P := Try.prog) Try.underlying75 Try.underlying9 (zero98 _) n
  rw [assoc_nmE, h.ofI hi] at this
  rw [show strKy.f n = Value.string n from rfl] at this
  rw [this]
  unfold dirV
  cases Dk.ofI s.dir n <;> rfl
theorem PD.look0 (h : PD w d L s) (hi : Inv s) (n : ByteArray) : (Instr.lookup 75 (.map (some L.bd)) (.string n) false).run Try.prog w = .ok (dirV L s n) w := h.look hi n 0
theorem assoc_flE (l : List (Int × Nat)) (n : Int) : assoc n (l.map flE) = (l.find? fun x => decide (x.1 = n)).map fun x => .int .i64 x.2 := by
  unfold assoc
  induction l with
  | nil => rfl
  | cons x l ih =>
    rw [List.map_cons, List.find?_cons, List.find?_cons]
    show Option.map _ (match decide (x.1 = n) with | true => _ | false => _) = _
    cases decide (x.1 = n) with
    | true => rfl
    | false => exact ih
theorem PD.flook (h : PD w d L s) (n : Int) : ∃ c : Nat, (∀ m, (Instr.lookup 76 (.map (some L.bf)) (.int .i64 n) false).run Try.prog (w.drewN m) = .ok (.int .i64 c) (w.drewN m)) ∧ decide (0 < c) = decide (n ∈ s.fails) ∧ c ≤ s.fails.length := by
  have hl : ∀ m, _ := fun m => (GMap.drewN h.failsm m).run_lookup (P := Try.prog) Try.underlying76 Try.underlying3 (zero3 _) n
  simp only [assoc_flE] at hl
  have hfp := h.fp n
  cases hf : L.fl.find? (fun x => decide (x.1 = n)) with
  | none =>
    refine ⟨0, fun m => ?_, ?_, Nat.zero_le _⟩
    · have := hl m; rw [hf] at this; exact this
    · have : ¬ n ∈ s.fails := by
        rw [hfp]
        rintro ⟨c, hc⟩
        have := List.find?_eq_none.1 hf _ hc
        simp at this
      rw [decide_eq_false this]; rfl
  | some x =>
    have hm := List.mem_of_find?_eq_some hf
    have hx := List.find?_some hf
    simp at hx
    have hc := h.fc x hm
    refine ⟨x.2, fun m => ?_, ?_, hc.2⟩
    · have := hl m; rw [hf] at this; exact this
    · have : n ∈ s.fails := by rw [hfp]; exact ⟨x.2, by rw [← hx]; exact hm⟩
      rw [decide_eq_true this, decide_eq_true]; omega

def startsS (s : DS) : DS := if gone s = true then { s with off := true } else { s with n := s.n + 1 }
def startsE (s : DS) (must : Bool) (names : List ByteArray) : Bool × Int :=
  if gone s = true then (false, 35)
  else if names.all okName = false then (false, 30)
  else if must = true ∧ ofI s.dir (names.getD 0 ⟨#[]⟩) = none then (false, 32)
  else (decide ((s.n : Int) ∈ s.fails), 0)

set_option maxRecDepth 100000 in
set_option maxHeartbeats 400000 in
theorem starts_gone (must : Bool) (v : Value) (w : World) (h : PD w d L s) (hg : gone s = true) :
    Calls Try.prog 49 #[.pointer (some ⟨d, 0, none⟩), .bool must, v] w fun e w' => e = .returned (.tuple #[.bool false, .int .i64 35]) ∧ PD w' d L { s with off := true } ∧ Frm (· = d) w w' := by
  have c4 := h.c4
  have c5 := h.c5
  have c6 := h.c6
  have fz := h.fz.frozen
  have H := Lib.hid h
  clear h
  cases ho : s.off with
  | true =>
    rw [ho] at c6
    go_enter Try.func49, Try.ntmps49
    go_wp2_with fail
    go_quiet (fail)
    go_wp2_with fail
    go_ret2
    exact ⟨rfl, PD.set_off (H.out.keep ((Frm.refl _ _).drewN _)) true, ((Frm.refl (fun b => b = d) w).drewN _).setCell (p := ⟨d, 6, none⟩) (fun _ => rfl) _⟩
  | false =>
    rw [ho] at c6
    have h1 : 0 ≤ s.cut ∧ s.cut ≤ s.n := by simpa [gone, ho] using hg
    have t1 : (0 : Int) ≤ s.cut := h1.1
    have t2 : s.cut ≤ (s.n : Int) := h1.2
    clear hg h1
    go_enter Try.func49, Try.ntmps49
    go_wp2_with fail
    go_quiet (fail)
    go_wp2_with fail
    go_ret2
    exact ⟨rfl, PD.set_off (H.out.keep ((Frm.refl _ _).drewN _)) true, ((Frm.refl (fun b => b = d) w).drewN _).setCell (p := ⟨d, 6, none⟩) (fun _ => rfl) _⟩
end Go.Proofs.Ytngickhakedonaa

namespace Go.Proofs.Ytngickhakedonaa
open Go.RowKit Go.Tk Go.Dk

variable {w w' : World} {d : Nat} {L : PL} {s : DS} {B : Nat → Prop}

theorem PD.notd (h : PD w d L s) {v : Value} (hv : ∀ b, v.ownBlock = some b → L.role b = .free) : ∀ b, v.ownBlock = some b → ¬ b = d := by
  intro b hb e
  have := hv b hb
  rw [e, h.r0] at this; cases this

set_option maxRecDepth 100000 in
set_option maxHeartbeats 2000000 in
theorem starts_on (must : Bool) (v : Value) (names : List ByteArray) (w : World) (h : PD w d L s) (hi : Inv s) (hg : gone s = false) (hn : s.n ≤ 1000000) (hv : Rw strC 1 w v names) (hvf : ∀ b, v.ownBlock = some b → L.role b = .free)
    (hl : names.length ≤ 1000000) (hs : ∀ x ∈ names, x.size ≤ 2305843009213693952) (hm : must = true → 0 < names.length) :
    Calls Try.prog 49 #[.pointer (some ⟨d, 0, none⟩), .bool must, v] w fun e w' => e = .returned (.tuple #[.bool (startsE s must names).1, .int .i64 (startsE s must names).2]) ∧ PD w' d L { s with n := s.n + 1 } ∧ Frm (· = d) w w' := by
  obtain ⟨D, hD⟩ : ∃ D, startsE s must names = D := ⟨_, rfl⟩
  rw [hD]
  have HD := Lib.hid hD
  clear hD
  have c4 := h.c4
  have c5 := h.c5
  have c6 := h.c6
  have fz := h.fz.frozen
  have hnd := h.notd hvf
  have HI := Lib.hid hi
  have HV := Lib.hid (And.intro hv (And.intro hnd (And.intro hs hm)))
  have ho : s.off = false := by
    cases ho : s.off with
    | true => simp [gone, ho] at hg
    | false => rfl
  rw [ho] at c6
  have Hg := Lib.hid hg
  have hcut : (s.cut < 0) ∨ (0 ≤ s.cut ∧ ¬ s.cut ≤ s.n) := by
    by_cases h1 : 0 ≤ s.cut
    · right; exact ⟨h1, fun h2 => by simp [gone, ho, h1, h2] at hg⟩
    · left; omega
  have H := Lib.hid h
  clear h hi hv hs hm hnd hvf hg ho
  obtain ⟨vo, vc, hvv, _⟩ := HV.out.1
  subst hvv
  rcases hcut with hc1 | ⟨hc1, hc2⟩
  · have t1 : decide ((0 : Int) ≤ s.cut) = false := by simpa using hc1
    clear hc1
    go_enter Try.func49, Try.ntmps49
    go_wp2_with fail
    go_quiet (fail)
    go_wp2_with fail
    have hF1 : Frm (fun _ => False) w (w.drewN nq) := (Frm.refl _ w).drewN nq
    generalize w.drewN nq = w1 at *
    have H1 := Lib.hid (H.out.keep hF1)
    have V1 := Lib.hid (HV.out.1.frm hF1 (fun _ _ h => h))
    have c4' := H1.out.c4
    have c7' := H1.out.c7
    have fz' := H1.out.fz.frozen
    obtain ⟨fc, hfl, hfd, hfc⟩ := H1.out.flook s.n
    have Hfd := Lib.hid hfd
    have hF1' := Lib.hid hF1
    clear c4 c5 c6 fz hfd hF1
    go_quiet (fail)
    go_wp2_with fail
    have hF2 : Frm (fun _ => False) w1 (w1.drewN nq) := (Frm.refl _ w1).drewN _
    have P2 := Lib.hid (PD.set_n (H1.out.keep hF2) (s.n + 1))
    have F2 := Lib.hid (((hF1'.out.mono (fun _ _ h => h.elim)).trans (hF2.mono (fun _ _ h => h.elim))).setCell (S := fun b => b = d) (p := ⟨d, 4, none⟩) (fun _ => rfl) (.int .i64 ((s.n + 1 : Nat) : Int)))
    have V2 := Lib.hid ((V1.out.frm hF2 (fun _ _ h => h)).frm (PD.setFrm (w1.drewN nq) d 4 (.int .i64 ((s.n + 1 : Nat) : Int))) HV.out.2.1)
    refine (right_any _ names _ V2.out hl HV.out.2.2.1).mono ?_
    rintro e w3 ⟨rfl, hf3⟩
    have P3 := Lib.hid (P2.out.keep hf3)
    have F3 := Lib.hid (F2.out.trans (hf3.mono (fun _ _ h => h.elim)))
    have V3 := Lib.hid (V2.out.frm hf3 (fun _ _ h => h))
    clear hf3 c4' c7' fz' hfl
    cases hall : names.all okName with
    | false =>
      have hd : D = (false, 30) := HD.out.symm.trans (by unfold startsE; rw [if_neg (by rw [Hg.out]; simp), if_pos hall])
      subst hd
      clear hall
      go_wp2_with fail
      go_ret2
      exact ⟨rfl, P3.out, F3.out⟩
    | true =>
      have Hall := Lib.hid hall
      clear hall
      cases must with
      | false =>
        have hd : D = (decide ((s.n : Int) ∈ s.fails), 0) := HD.out.symm.trans (by unfold startsE; rw [if_neg (by rw [Hg.out]; simp), if_neg (by rw [Hall.out]; simp), if_neg (by simp)])
        subst hd
        go_wp2_with fail
        go_quiet (fail)
        go_wp2_with fail
        go_ret2
        exact ⟨by rw [← Hfd.out]; rfl, P3.out.keep ((Frm.refl _ _).drewN _), F3.out.drewN _⟩
      | true =>
        have hn0 := HV.out.2.2.2 rfl
        obtain ⟨_, _, e0, _, _, _, hcell⟩ := V3.out
        obtain ⟨g, hg1, hg2⟩ := hcell 0 hn0
        cases e0
        subst hg1
        have n0 := hg2 0 _ rfl
        simp only [Nat.zero_mul, Nat.zero_add] at n0
        have c0 := P3.out.c0
        have hlk := P3.out.look (HI.out.of_same rfl rfl rfl rfl) names[0]
        have hd0 : names.getD 0 ⟨#[]⟩ = names[0] := by rw [List.getD_eq_getElem?_getD, List.getElem?_eq_getElem hn0]; rfl
        have Hd0 := Lib.hid hd0
        have i1 : (0 : Int) < names.length := by omega
        clear hcell hg2 hd0
        unfold dirV at hlk
        cases hof : ofI s.dir names[0] with
        | none =>
          have hd : D = (false, 32) := HD.out.symm.trans (by unfold startsE; rw [if_neg (by rw [Hg.out]; simp), if_neg (by rw [Hall.out]; simp), if_pos ⟨rfl, by rw [Hd0.out]; exact hof⟩])
          subst hd
          rw [show ofI ({ s with n := s.n + 1 } : DS).dir names[0] = none from hof] at hlk
          clear hof
          generalize names[0] = x0 at *
          go_wp2_with fail
          go_quiet (fail)
          go_wp2_with fail
          go_ret2
          exact ⟨rfl, P3.out.keep ((Frm.refl _ _).drewN _), F3.out.drewN _⟩
        | some k =>
          have hd : D = (decide ((s.n : Int) ∈ s.fails), 0) := HD.out.symm.trans (by unfold startsE; rw [if_neg (by rw [Hg.out]; simp), if_neg (by rw [Hall.out]; simp), if_neg (by rw [Hd0.out, hof]; simp)])
          subst hd
          rw [show ofI ({ s with n := s.n + 1 } : DS).dir names[0] = some k from hof] at hlk
          clear hof
          unfold ptrV at hlk
          generalize names[0] = x0 at *
          go_wp2_with fail
          go_quiet (fail)
          go_wp2_with fail
          go_ret2
          exact ⟨by rw [← Hfd.out]; rfl, P3.out.keep ((Frm.refl _ _).drewN _), F3.out.drewN _⟩
  · have t1 : (0 : Int) ≤ s.cut := hc1
    have t2 : decide (s.cut ≤ (s.n : Int)) = false := by simpa using hc2
    clear hc1 hc2
    go_enter Try.func49, Try.ntmps49
    go_wp2_with fail
    go_quiet (fail)
    go_wp2_with fail
    have hF1 : Frm (fun _ => False) w (w.drewN nq) := (Frm.refl _ w).drewN nq
    generalize w.drewN nq = w1 at *
    have H1 := Lib.hid (H.out.keep hF1)
    have V1 := Lib.hid (HV.out.1.frm hF1 (fun _ _ h => h))
    have c4' := H1.out.c4
    have c7' := H1.out.c7
    have fz' := H1.out.fz.frozen
    obtain ⟨fc, hfl, hfd, hfc⟩ := H1.out.flook s.n
    have Hfd := Lib.hid hfd
    have hF1' := Lib.hid hF1
    clear c4 c5 c6 fz hfd hF1
    go_quiet (fail)
    go_wp2_with fail
    have hF2 : Frm (fun _ => False) w1 (w1.drewN nq) := (Frm.refl _ w1).drewN _
    have P2 := Lib.hid (PD.set_n (H1.out.keep hF2) (s.n + 1))
    have F2 := Lib.hid (((hF1'.out.mono (fun _ _ h => h.elim)).trans (hF2.mono (fun _ _ h => h.elim))).setCell (S := fun b => b = d) (p := ⟨d, 4, none⟩) (fun _ => rfl) (.int .i64 ((s.n + 1 : Nat) : Int)))
    have V2 := Lib.hid ((V1.out.frm hF2 (fun _ _ h => h)).frm (PD.setFrm (w1.drewN nq) d 4 (.int .i64 ((s.n + 1 : Nat) : Int))) HV.out.2.1)
    refine (right_any _ names _ V2.out hl HV.out.2.2.1).mono ?_
    rintro e w3 ⟨rfl, hf3⟩
    have P3 := Lib.hid (P2.out.keep hf3)
    have F3 := Lib.hid (F2.out.trans (hf3.mono (fun _ _ h => h.elim)))
    have V3 := Lib.hid (V2.out.frm hf3 (fun _ _ h => h))
    clear hf3 c4' c7' fz' hfl
    cases hall : names.all okName with
    | false =>
      have hd : D = (false, 30) := HD.out.symm.trans (by unfold startsE; rw [if_neg (by rw [Hg.out]; simp), if_pos hall])
      subst hd
      clear hall
      go_wp2_with fail
      go_ret2
      exact ⟨rfl, P3.out, F3.out⟩
    | true =>
      have Hall := Lib.hid hall
      clear hall
      cases must with
      | false =>
        have hd : D = (decide ((s.n : Int) ∈ s.fails), 0) := HD.out.symm.trans (by unfold startsE; rw [if_neg (by rw [Hg.out]; simp), if_neg (by rw [Hall.out]; simp), if_neg (by simp)])
        subst hd
        go_wp2_with fail
        go_quiet (fail)
        go_wp2_with fail
        go_ret2
        exact ⟨by rw [← Hfd.out]; rfl, P3.out.keep ((Frm.refl _ _).drewN _), F3.out.drewN _⟩
      | true =>
        have hn0 := HV.out.2.2.2 rfl
        obtain ⟨_, _, e0, _, _, _, hcell⟩ := V3.out
        obtain ⟨g, hg1, hg2⟩ := hcell 0 hn0
        cases e0
        subst hg1
        have n0 := hg2 0 _ rfl
        simp only [Nat.zero_mul, Nat.zero_add] at n0
        have c0 := P3.out.c0
        have hlk := P3.out.look (HI.out.of_same rfl rfl rfl rfl) names[0]
        have hd0 : names.getD 0 ⟨#[]⟩ = names[0] := by rw [List.getD_eq_getElem?_getD, List.getElem?_eq_getElem hn0]; rfl
        have Hd0 := Lib.hid hd0
        have i1 : (0 : Int) < names.length := by omega
        clear hcell hg2 hd0
        unfold dirV at hlk
        cases hof : ofI s.dir names[0] with
        | none =>
          have hd : D = (false, 32) := HD.out.symm.trans (by unfold startsE; rw [if_neg (by rw [Hg.out]; simp), if_neg (by rw [Hall.out]; simp), if_pos ⟨rfl, by rw [Hd0.out]; exact hof⟩])
          subst hd
          rw [show ofI ({ s with n := s.n + 1 } : DS).dir names[0] = none from hof] at hlk
          clear hof
          generalize names[0] = x0 at *
          go_wp2_with fail
          go_quiet (fail)
          go_wp2_with fail
          go_ret2
          exact ⟨rfl, P3.out.keep ((Frm.refl _ _).drewN _), F3.out.drewN _⟩
        | some k =>
          have hd : D = (decide ((s.n : Int) ∈ s.fails), 0) := HD.out.symm.trans (by unfold startsE; rw [if_neg (by rw [Hg.out]; simp), if_neg (by rw [Hall.out]; simp), if_neg (by rw [Hd0.out, hof]; simp)])
          subst hd
          rw [show ofI ({ s with n := s.n + 1 } : DS).dir names[0] = some k from hof] at hlk
          clear hof
          unfold ptrV at hlk
          generalize names[0] = x0 at *
          go_wp2_with fail
          go_quiet (fail)
          go_wp2_with fail
          go_ret2
          exact ⟨by rw [← Hfd.out]; rfl, P3.out.keep ((Frm.refl _ _).drewN _), F3.out.drewN _⟩

theorem starts_any (must : Bool) (v : Value) (names : List ByteArray) (w : World) (h : PD w d L s) (hi : Inv s) (hn : s.n ≤ 1000000) (hv : Rw strC 1 w v names) (hvf : ∀ b, v.ownBlock = some b → L.role b = .free)
    (hl : names.length ≤ 1000000) (hs : ∀ x ∈ names, x.size ≤ 2305843009213693952) (hm : must = true → 0 < names.length) :
    Calls Try.prog 49 #[.pointer (some ⟨d, 0, none⟩), .bool must, v] w fun e w' => e = .returned (.tuple #[.bool (startsE s must names).1, .int .i64 (startsE s must names).2]) ∧ PD w' d L (startsS s) ∧ Frm (· = d) w w' := by
  by_cases hg : gone s = true
  · unfold startsE startsS
    rw [if_pos hg, if_pos hg]
    exact starts_gone must v w h hg
  · rw [show startsS s = { s with n := s.n + 1 } from if_neg hg]
    exact starts_on must v names w h hi (by simpa using hg) hn hv hvf hl hs hm
end Go.Proofs.Ytngickhakedonaa

namespace Go.Proofs.Ytngickhakedonaa
open Go.RowKit Go.Tk Go.Dk

variable {w w' : World} {d : Nat} {L : PL} {s : DS} {B : Nat → Prop}

theorem ops_any (w : World) (h : PD w d L s) : Calls Try.prog 41 #[.pointer (some ⟨d, 0, none⟩)] w fun e w' => e = .returned (.int .i64 s.n) ∧ w = w' := by
  have c4 := h.c4
  clear h
  go_enter Try.func41, Try.ntmps41
  go_wp2_with fail
  go_ret
  exact ⟨rfl, rfl⟩
theorem loose_any (w : World) (h : PD w d L s) : Calls Try.prog 30 #[.pointer (some ⟨d, 0, none⟩)] w fun e w' => e = .returned (.int .i64 s.acts.length) ∧ w = w' := by
  have c2 := h.c2
  obtain ⟨ao, cap, hv, _⟩ := row_slice h.loose
  have e : L.pa.length = s.acts.length := by rw [← h.ap, List.length_map]
  rw [hv, e] at c2
  clear h hv e
  go_enter Try.func30, Try.ntmps30
  go_wp2_with fail
  go_ret
  exact ⟨rfl, rfl⟩
theorem room_any (n : Int) (w : World) (h : PD w d L s) : Calls Try.prog 38 #[.pointer (some ⟨d, 0, none⟩), .int .i64 n] w fun e w' => e = .returned (.tuple #[]) ∧ PD w' d L { s with room := max n 0 } ∧ Frm (· = d) w w' := by
  have c3 := h.c3
  have fz := h.fz.frozen
  have H := Lib.hid (h.set_room (max n 0))
  clear h
  go_enter Try.func38, Try.ntmps38
  go_wp2_with fail
  go_end0
  exact ⟨rfl, H.out, PD.setFrm w d 3 _⟩
theorem cut_any (n : Int) (w : World) (h : PD w d L s) : Calls Try.prog 39 #[.pointer (some ⟨d, 0, none⟩), .int .i64 n] w fun e w' => e = .returned (.tuple #[]) ∧ PD w' d L { s with off := false, cut := n } ∧ Frm (· = d) w w' := by
  have c5 := h.c5
  have c6 := h.c6
  have fz := h.fz.frozen
  have H := Lib.hid ((h.set_cut n).set_off false)
  clear h
  go_enter Try.func39, Try.ntmps39
  go_wp2_with fail
  go_end0
  exact ⟨rfl, H.out, (PD.setFrm w d 5 _).trans (PD.setFrm _ d 6 _)⟩

theorem FileOk.bytes {k : Nat} {f : Fl} (h : FileOk w L k f) : ∃ ao cap, w.cell? ⟨L.fb k, 0, none⟩ = some (.slice ao f.1.size cap) ∧ L.vb k = .slice ao f.1.size cap ∧ f.1.size ≤ cap := by
  obtain ⟨ao, cap, hv, hle⟩ := h.bv.slice
  exact ⟨ao, cap, by rw [h.f0, hv], hv, hle⟩
theorem PD.live_of (h : PD w d L s) {n : ByteArray} {k : Nat} (hk : Dk.ofI s.dir n = some k) : L.live k := h.ld _ (mem_of_ofI hk)

set_option maxRecDepth 100000 in
theorem size_any (name : ByteArray) (w : World) (h : PD w d L s) (hi : Inv s) : Calls Try.prog 31 #[.pointer (some ⟨d, 0, none⟩), .string name] w fun e w' => e = .returned (.int .i64 (sizeD s name)) ∧ w = w' := by
  have c0 := h.c0
  have hlk := h.look0 hi name
  unfold dirV at hlk
  cases hk : ofI s.dir name with
  | none =>
    have hd : sizeD s name = -1 := by simp [sizeD, hk]
    rw [hk] at hlk
    rw [hd]
    clear hd hk h
    go_enter Try.func31, Try.ntmps31
    go_wp2_with fail
    go_ret
    exact ⟨rfl, rfl⟩
  | some k =>
    have hd : sizeD s name = (getF s k).1.size := by simp [sizeD, hk]
    rw [hk] at hlk
    rw [hd]
    obtain ⟨ao, cap, f0, _, hle⟩ := (h.files k (h.live_of hk)).bytes
    unfold ptrV at hlk
    clear hd hk h
    go_enter Try.func31, Try.ntmps31
    go_wp2_with fail
    go_ret
    exact ⟨rfl, rfl⟩
end Go.Proofs.Ytngickhakedonaa

namespace Go.Proofs.Ytngickhakedonaa
open Go.RowKit Go.Tk Go.Dk

variable {w w' : World} {d : Nat} {L : PL} {s : DS} {B : Nat → Prop}

def usum (s : DS) (l : List Nm) : Nat := (l.map fun x => fsize s x.2).sum
theorem usum_perm {l l' : List Nm} (h : l.Perm l') : usum s l = usum s l' := (h.map _).sum_nat
theorem usum_append (l l' : List Nm) : usum s (l ++ l') = usum s l + usum s l' := by simp [usum]
theorem usum_cons (x : Nm) (l : List Nm) : usum s (x :: l) = fsize s x.2 + usum s l := rfl
theorem used_eq : used s = usum s s.dir := rfl
theorem map_split {α β : Type} {f : α → β} {l : List α} {l1 l2 : List β} {p : β} (h : l.map f = l1 ++ p :: l2) : ∃ m1 x m2, l = m1 ++ x :: m2 ∧ m1.map f = l1 ∧ f x = p ∧ m2.map f = l2 := by
  obtain ⟨m1, r, rfl, f1, f2⟩ := List.map_eq_append_iff.1 h
  obtain ⟨x, m2, rfl, f3, f4⟩ := List.map_eq_cons_iff.1 f2
  exact ⟨m1, x, m2, rfl, f1, f3, f4⟩

set_option maxRecDepth 100000 in
set_option maxHeartbeats 1000000 in
theorem used_any (w : World) (h : PD w d L s) (hb : used s ≤ 1000000000000) :
    Calls Try.prog 50 #[.pointer (some ⟨d, 0, none⟩)] w fun e w' => e = .returned (.int .i64 (used s)) ∧ Frm (fun _ => False) w w' := by
  have hT : usum s L.dl = used s := usum_perm h.dp
  have c0 := h.c0
  obtain ⟨ck, hrange, hit⟩ := h.dirm.run_range (P := Try.prog) Try.underlying75
  have hlt0 := h.rb
  have H := Lib.hid h
  have HT := Lib.hid hT
  clear h hT
  go_enter Try.func50, Try.ntmps50
  go_wp2_with fail
  go_loopg [3, 5] L.dl.length (fun g t _ wr => ∃ left : List Nm, g = left.length ∧ GIter strKy wr w.heap.size L.bd (L.dl.map (nmE L.fb)) (left.map (nmE L.fb)) ∧ (∀ x ∈ left, x ∈ L.dl) ∧ (∃ t0 : Nat, t = .int .i64 t0 ∧ t0 + usum s left = used s) ∧ Frm (fun _ => False) w wr)
  case atStart => exact ⟨L.dl, rfl, hit, fun _ h => h, ⟨0, rfl, by rw [HT.out, Nat.zero_add]⟩, (Frm.refl _ _).alloc _⟩
  case round =>
    obtain ⟨left, hg, hgi, hmem, ⟨t0, rfl, ht0⟩, hf⟩ := hrel
    have HG := Lib.hid (And.intro hg (And.intro hmem ht0))
    have hb0 : t0 ≤ 1000000000000 := by omega
    clear hrange hit hg hmem c0
    rcases hgi.run_next (P := Try.prog) 0 with ⟨hl, hnext⟩ | ⟨l1, p, l2, w1, hl, hnext, hgi1, hf1, hent⟩
    · have hl0 : left = [] := List.map_eq_nil_iff.1 hl
      have Hl0 := Lib.hid hl0
      clear hl hl0
      go_wp2_with fail
      go_ret
      have := HG.out.2.2
      rw [Hl0.out] at this
      exact ⟨by rw [← this]; rfl, hf⟩
    · obtain ⟨m1, x, m2, hx1, hx2, hx3, hx4⟩ := map_split hl
      have HX := Lib.hid (And.intro hx1 (And.intro hx2 hx4))
      have hxm : x ∈ L.dl := HG.out.2.1 x (by rw [hx1]; simp)
      have hxl : L.live x.2 := H.out.ld x (H.out.dp.mem_iff.1 hxm)
      have hfile := H.out.files x.2 hxl
      obtain ⟨ao, cap, f0, _, hle⟩ := hfile.bytes
      subst hx3
      have hF1 : Frm (fun _ => False) w w1 := hf.trans' (T := fun b => b = w.heap.size) hf1 (fun b hb e => absurd e (Nat.ne_of_lt hb))
      have f0' := (hF1.cell (p := ⟨L.fb x.2, 0, none⟩) (World.block_lt_of_cell? _ _ f0) (fun h => h)).trans f0
      have hsz : fsize s x.2 = (getF s x.2).1.size := rfl
      have hsum : usum s left = fsize s x.2 + usum s (m1 ++ m2) := by
        rw [hx1, usum_append, usum_append, usum_cons]; omega
      have hb1 : (t0 : Int) + ((getF s x.2).1.size : Int) ≤ 1000000000000 := by
        have := HG.out.2.2
        omega
      have Hs := Lib.hid (And.intro hsum hsz)
      have Hg1 := Lib.hid hgi1
      clear hgi1
      have HF1 := Lib.hid hF1
      clear hl hx1 hx2 hx4 hsum hsz hgi hfile f0 hf hf1 hxm hxl hF1
      generalize hX : (getF s x.2).1 = X at *
      unfold nmE ptrV at hnext hent
      go_wp2_with fail
      go_roundg (m1 ++ m2).length
      case measure =>
        have h1 := congrArg List.length HX.out.1
        have h2 := HG.out.1
        simp at h1 ⊢
        omega
      case rel =>
        refine ⟨m1 ++ m2, rfl, ?_, fun y hy => HG.out.2.1 y ?_, ⟨t0 + X.size, by go_num, ?_⟩, HF1.out⟩
        · rw [List.map_append, HX.out.2.1, HX.out.2.2]; exact Hg1.out
        · rw [HX.out.1]
          rcases List.mem_append.1 hy with hy | hy
          · exact List.mem_append_left _ hy
          · exact List.mem_append_right _ (List.mem_cons_of_mem _ hy)
        · have h1 := HG.out.2.2
          have h2 := Hs.out.1
          have h3 := Hs.out.2
          omega
end Go.Proofs.Ytngickhakedonaa
