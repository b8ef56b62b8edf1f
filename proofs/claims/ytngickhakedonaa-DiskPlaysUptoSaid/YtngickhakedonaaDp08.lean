/- A text of a claim's proof: see the last text of the claim. -/
import Derived.Test.YtngickhakedonaaDp07
set_option linter.all false
namespace Go.Proofs.Ytngickhakedonaa
open Go.RowKit Go.Tk Go.Dk

variable {w w' : World} {d : Nat} {L : PL} {s : DS} {B : Nat → Prop}

/-- a file that lies there, taken into a disk that did not hold it -/
theorem PD.put_file (h : PD w d L s) (hf : Frm (fun _ => False) w w') {g k : Nat} {v : Value} (hg1 : w.heap.size ≤ g) (hg2 : g < w'.heap.size) (hk : ¬ L.live k) (hkl : k < s.files.length) (f0 : w'.cell? ⟨g, 0, none⟩ = some v) (f1 : w'.cell? ⟨g, 1, none⟩ = some (.int .i64 (getF s k).2)) (fz : Fz w' g) (bv : BV w' v (getF s k).1) (bo : ∀ b, bown v = some b → w.heap.size ≤ b ∧ b ≠ g) :
    ∃ L', (∀ j, L'.live j ↔ (L.live j ∨ j = k)) ∧ (∀ j, L.live j → L'.fb j = L.fb j) ∧ L'.fb k = g ∧ L'.dl = L.dl ∧ L'.bd = L.bd ∧ L.dl.map (nmE L'.fb) = L.dl.map (nmE L.fb) ∧ (∀ b, L'.role b ≠ .free → L.role b ≠ .free ∨ w.heap.size ≤ b) ∧ PD w' d L' s := by
  classical
  have hkk := h.keep hf
  have hne : ∀ j, L.live j → j ≠ k := fun j hj e => hk (e ▸ hj)
  have hfb : ∀ j, L.live j → (if j = k then g else L.fb j) = L.fb j := fun j hj => if_neg (hne j hj)
  have hnm : ∀ l : List Nm, (∀ x ∈ l, L.live x.2) → l.map (nmE (fun j => if j = k then g else L.fb j)) = l.map (nmE L.fb) := fun l hl => List.map_congr_left fun x hx => by show (x.1, ptrV (if x.2 = k then g else L.fb x.2)) = _; rw [hfb _ (hl x hx)]; rfl
  obtain ⟨role', hr⟩ : ∃ role' : Nat → Role, role' = fun b => if b = g then .file k else if bown v = some b then .bytes k else L.role b := ⟨_, rfl⟩
  have hro : ∀ b, b < w.heap.size → role' b = L.role b := fun b hb => by
    rw [hr]
    show (if b = g then _ else if bown v = some b then _ else L.role b) = _
    rw [if_neg (by omega), if_neg (fun e => by have := (bo b e).1; omega)]
  have key : ∀ b r, r ≠ .free → L.role b = r → role' b = r := fun b r hr hb => by
    rw [hro b (h.rb b (by rw [hb]; exact hr)), hb]
  have hpaC : ∀ p ∈ L.pa, paC (fun j => if j = k then g else L.fb j) p = paC L.fb p := by
    intro p hp
    have hl := h.la p.1 (by rw [← h.ap]; exact List.mem_map.2 ⟨p, hp, rfl⟩)
    obtain ⟨a, x, y⟩ := p
    cases a with
    | put j n => unfold paC paV; simp only []; rw [hfb j hl]
    | _ => rfl
  have hpf : ∀ l : List (DAct × Nat × Nat), (∀ p ∈ l, p ∈ L.pa) → l.flatMap (paC (fun j => if j = k then g else L.fb j)) = l.flatMap (paC L.fb) := by
    intro l hl
    induction l with
    | nil => rfl
    | cons x l ih => rw [List.flatMap_cons, List.flatMap_cons, hpaC x (hl x (by simp)), ih (fun p hp => hl p (List.mem_cons_of_mem _ hp))]
  have hdlm := hnm L.dl (fun x hx => h.ld x (h.dp.mem_iff.1 hx))
  refine ⟨{ L with live := fun j => L.live j ∨ j = k, fb := fun j => if j = k then g else L.fb j, vb := fun j => if j = k then v else L.vb j, role := role' }, fun j => Iff.rfl, hfb, if_pos rfl, rfl, rfl, hdlm, fun b hb => ?_, ?_⟩
  · rcases Nat.lt_or_ge b w.heap.size with hlt | hge
    · replace hb : role' b ≠ .free := hb
      rw [hro b hlt] at hb; exact .inl hb
    · exact .inr hge
  · exact { hkk with
      dirm := by show GMap _ _ _ (L.dl.map (nmE _)); rw [hdlm]; exact hkk.dirm
      surem := by show GMap _ _ _ (L.sl.map (nmE _)); rw [hnm L.sl (fun x hx => h.ls x (h.sp.mem_iff.1 hx))]; exact hkk.surem
      loose := by show w'.ownsRow _ _ _ _ _ (L.pa.flatMap (paC _)); rw [hpf L.pa (fun _ h => h)]; exact hkk.loose
      caps := fun p hp => by
        have hc := hkk.caps p hp
        have hl := h.la p.1 (by rw [← h.ap]; exact List.mem_map.2 ⟨p, hp, rfl⟩)
        obtain ⟨a, x, y⟩ := p
        cases a with
        | mk n j => exact ⟨hc.1.trans (by show some (ptrV (L.fb j)) = some (ptrV (if j = k then g else L.fb j)); rw [hfb j hl]), hc.2.1, key _ _ (by simp) hc.2.2.1, key _ _ (by simp) hc.2.2.2⟩
        | mv n m => exact ⟨hc.1, hc.2.1, key _ _ (by simp) hc.2.2.1, key _ _ (by simp) hc.2.2.2⟩
        | rm n => exact ⟨hc.1, key _ _ (by simp) hc.2⟩
        | put j n => trivial
      files := fun j hj => by
        by_cases e : j = k
        · subst e
          refine ⟨?_, ?_, ?_, ?_, ?_, ?_⟩
          · show w'.cell? ⟨if j = j then g else _, 0, none⟩ = some (if j = j then _ else _)
            rw [if_pos rfl, if_pos rfl]; exact f0
          · show w'.cell? ⟨if j = j then g else _, 1, none⟩ = _
            rw [if_pos rfl]; exact f1
          · show Fz w' (if j = j then g else _)
            rw [if_pos rfl]; exact fz
          · show role' (if j = j then g else _) = _
            rw [if_pos rfl, hr]; exact if_pos rfl
          · show BV w' (if j = j then _ else _) _
            rw [if_pos rfl]; exact bv
          · intro b hb
            replace hb : bown (if j = j then v else L.vb _) = some b := hb
            rw [if_pos rfl] at hb
            show role' b = _
            rw [hr]
            show (if b = g then _ else if bown v = some b then _ else _) = _
            rw [if_neg (bo b hb).2, if_pos hb]
        · have hjl : L.live j := hj.resolve_right e
          have q := hkk.files j hjl
          refine ⟨?_, ?_, ?_, ?_, ?_, ?_⟩
          · show w'.cell? ⟨if j = k then g else L.fb j, 0, none⟩ = some (if j = k then _ else L.vb j)
            rw [if_neg e, if_neg e]; exact q.f0
          · show w'.cell? ⟨if j = k then g else L.fb j, 1, none⟩ = _
            rw [if_neg e]; exact q.f1
          · show Fz w' (if j = k then g else L.fb j)
            rw [if_neg e]; exact q.fz
          · show role' (if j = k then g else L.fb j) = _
            rw [if_neg e]; exact key _ _ (by simp) q.fr
          · show BV w' (if j = k then _ else L.vb j) _
            rw [if_neg e]; exact q.bv
          · intro b hb
            replace hb : bown (if j = k then v else L.vb j) = some b := hb
            rw [if_neg e] at hb
            exact key _ _ (by simp) (q.br b hb)
      ld := fun x hx => .inl (h.ld x hx)
      ls := fun x hx => .inl (h.ls x hx)
      la := fun a ha => by
        have := h.la a ha
        cases a <;> first | exact .inl this | trivial
      lv := fun j hj => by
        rcases hj with hj | rfl
        · exact h.lv j hj
        · exact hkl
      r0 := key _ _ (by simp) h.r0, rd := key _ _ (by simp) h.rd, rs := key _ _ (by simp) h.rs, rf := key _ _ (by simp) h.rf
      rl := fun b hb => key _ _ (by simp) (h.rl b hb)
      rb := fun b hb => by
        by_cases e : b = g
        · rw [e]; exact hg2
        · by_cases e2 : bown v = some b
          · exact bv.own_lt e2
          · replace hb : role' b ≠ .free := hb
            rw [hr] at hb
            replace hb : (if b = g then Role.file k else if bown v = some b then .bytes k else L.role b) ≠ .free := hb
            rw [if_neg e, if_neg e2] at hb
            exact hkk.rb b hb }

theorem updN_no (n : ByteArray) (k : Nat) {l : List Nm} (h : ofI l n = none) : updN n k l = l ++ [(n, k)] := by
  unfold updN
  have : l.any (fun p => decide (p.1 = n)) = false := List.any_eq_false.2 fun x hx => by simpa using ofI_none.1 h x hx
  rw [this]; rfl

/-- the crash's second loop: one more file in the new disk -/
theorem PD.add_file (h : PD w d L s) (hf : Frm (fun _ => False) w w') {g k : Nat} {v : Value} {name : ByteArray} (hg1 : w.heap.size ≤ g) (hg2 : g < w'.heap.size) (hk : ¬ L.live k) (hkl : k < s.files.length) (f0 : w'.cell? ⟨g, 0, none⟩ = some v) (f1 : w'.cell? ⟨g, 1, none⟩ = some (.int .i64 (getF s k).2)) (fz : Fz w' g) (bv : BV w' v (getF s k).1) (bo : ∀ b, bown v = some b → w.heap.size ≤ b ∧ b ≠ g) {w2 : World} (hm : GMap strKy w2 L.bd (upd name (ptrV g) (L.dl.map (nmE L.fb)))) (hf2 : Frm (· = L.bd) w' w2) (hno : Dk.ofI s.dir name = none) :
    ∃ L', (∀ j, L'.live j ↔ (L.live j ∨ j = k)) ∧ L'.bd = L.bd ∧ (∀ b, L'.role b ≠ .free → L.role b ≠ .free ∨ w.heap.size ≤ b) ∧ PD w2 d L' { s with dir := s.dir ++ [(name, k)] } := by
  obtain ⟨L1, h1, h2, h3, h4, h5, h6, h7, h8⟩ := h.put_file hf hg1 hg2 hk hkl f0 f1 fz bv bo
  have hno' : Dk.ofI L.dl name = none := ofI_none.2 fun x hx => ofI_none.1 hno x (h.dp.mem_iff.1 hx)
  have hm1 : GMap strKy w2 L1.bd ((L.dl ++ [(name, k)]).map (nmE L1.fb)) := by
    rw [h5, ← updN_no name k hno', ← upd_nmE, h6, h3]; exact hm
  refine ⟨{ L1 with dl := L.dl ++ [(name, k)] }, h1, h5, h7, h8.dir_step (dl := L.dl ++ [(name, k)]) (by rw [h5]; exact hf2) hm1 (h.dp.append_right _) (fun x hx => ?_)⟩
  rcases List.mem_append.1 hx with hx | hx
  · exact (h1 _).2 (.inl (h.ld x hx))
  · rw [List.mem_singleton.1 hx]; exact (h1 _).2 (.inr rfl)
/-- the disk that New gives, with other files beside it -/
theorem PD.reFiles (h : PD w d L s) (hl : ∀ k, ¬ L.live k) (fs : List Fl) : PD w d L { s with files := fs } :=
  { h with files := fun k hk => (hl k hk).elim, lv := fun k hk => (hl k hk).elim }
end Go.Proofs.Ytngickhakedonaa
