/- PROVED: tussocklaw07.LruMore returns true for every budget, every greater one and every script (of any length, with any texts), and leaves its arguments as they were. Conditions: none of ours (the form's own reach). -/
import Derived.Test.YteecdpdidhjdlaaLruW9
import Derived.ProofKit
import Derived.SizedLaws
import Derived.Deep.Slices
import Derived.SliceStrings
set_option linter.all false
namespace Go.Proofs.Yteecdpdidhjdlaa
open Go.RowKit Go.Tk Go.Lru Go.ChangeShapes Go.WideShapes Go.ChangeAt
theorem Try.cells3 : Try.prog.cellsOf 3 = 1 := by kernel_rfl
theorem Try.cells9 : Try.prog.cellsOf 9 = 1 := by kernel_rfl
theorem Try.cells27 : Try.prog.cellsOf 27 = 1 := by kernel_rfl
theorem Try.cells29 : Try.prog.cellsOf 29 = 4 := by kernel_rfl
theorem Try.own : ownKnob Try.prog.godebug = none := by kernel_rfl
theorem Try.laidOut : laidOutB Try.prog = true := by kernel_rfl

section
variable {H : Type} {enc : TypeId × Value → H} {W : World} {sp : Nat → Bool}
/-- a []string that was read -/
theorem strSl_of_trod {n : Nat} {v : Value} {y : DataW H × List MemPlace} (h : DataW.trod enc Try.prog W 0 sp true n 27 [v] = some y) (hsp : ∀ b, sp b = true) :
    ∃ ao cap ks, v = .slice ao (List.length ks) cap ∧ StrSl W v ks ∧ ks.length ≤ 9223372036854775807 ∧ (ks ≠ [] → ∀ b, v.ownBlock = some b → b < W.heap.size) := by
  rcases open_strings Try.underlying27 Try.underlying9 Try.cells9 h with ⟨hcs, _⟩ | ⟨a, len, cap, ss, hcs, _, hl, hm, hz, _, hcell, _⟩
  · simp at hcs
    subst hcs
    exact ⟨none, 0, [], rfl, ⟨none, 0, rfl, Nat.le_refl _, fun i hi => by simp at hi⟩, by simp, fun h => absurd rfl h⟩
  · simp at hcs
    subst hcs
    rw [hsp, if_pos rfl] at hz
    have hlt : (ss.take len).length = len := by simp; omega
    have hblk : ∀ i, i < len → ∃ b off, a = ⟨b, off, none⟩ ∧ W.cell? ⟨b, off + i, none⟩ = some (.string (ss.getD i ByteArray.empty)) := by
      intro i hi
      have h0 := hcell 0 (by omega)
      obtain ⟨b, off, spot⟩ := a
      have hs : spot = none := by simpa [Addr.add] using World.cell?_spot h0
      subst hs
      exact ⟨b, off, rfl, by rw [← add_plain]; exact hcell i (by omega)⟩
    refine ⟨some a, cap, ss.take len, by rw [hlt], ⟨some a, cap, by rw [hlt], by omega, fun i hi => ?_⟩, by rw [hlt]; unfold maxLen at hm; omega, fun hne b hb => ?_⟩
    · obtain ⟨b, off, rfl, hc⟩ := hblk i (by omega)
      refine ⟨b, off, rfl, ?_⟩
      rw [hc]
      simp only [List.getElem_take, List.getD_eq_getElem?_getD]
      rw [List.getElem?_eq_getElem (by omega)]
      rfl
    · have : 0 < len := by
        rcases Nat.eq_zero_or_pos len with h | h
        · subst h; simp at hne
        · exact h
      obtain ⟨b', off, rfl, hc⟩ := hblk 0 this
      simp [Value.ownBlock] at hb
      subst hb
      exact World.block_lt_of_cell? _ _ hc

theorem weightsAll_mem {P : Program} {e : TypeId} {d : DataW H} {l : List (DataW H)} (h : d ∈ l) : ∀ n ∈ d.weights P e, n ∈ DataW.weightsAll P e l := by
  induction l with
  | nil => simp at h
  | cons x l ih =>
    intro n hn
    simp only [DataW.weightsAll, List.mem_append]
    rcases List.mem_cons.1 h with rfl | h
    · exact .inl hn
    · exact .inr (ih h n hn)

set_option maxRecDepth 100000 in
/-- the script, element by element -/
theorem open_script {n : Nat} {v : Value} {y : DataW H × List MemPlace} (h : DataW.trod enc Try.prog W 0 sp true n 22 [v] = some y) (hsp : ∀ b, sp b = true) (hw : ∀ m ∈ y.1.weights Try.prog 22, m ≤ reachBytes) :
    ∃ (ao : Option Addr) (len cap : Nat) (ops : Nat → Op7), v = .slice ao len cap ∧ len ≤ 9223372036854775807 ∧ ∀ i, i < len → OpAt W ao i (ops i) := by
  rcases Go.Deep.open_slice Try.underlying22 h with ⟨hcs, _⟩ | ⟨a, len, cap, m, n', D, Pl, hcs, _, hl, hm, hmm, rfl, hel⟩
  · simp at hcs
    subst hcs
    exact ⟨none, 0, 0, fun _ => ⟨0, ⟨#[]⟩, ⟨#[]⟩, none, 0, []⟩, rfl, by decide, fun i hi => by omega⟩
  · simp at hcs
    subst hcs
    rw [hsp, if_pos rfl] at hmm
    have key : ∀ i, i < len → ∃ o, OpAt W (some a) i o := by
      intro i hi
      obtain ⟨cs', hc, ht⟩ := hel i (by omega)
      rw [Try.cells29] at hc
      obtain ⟨ys, n2, _, hy, hlen, hyl, hf⟩ := DataW.trod_struct Try.underlying29 ht
      obtain ⟨_, hcl, hat⟩ := World.cells?_some hc
      match cs', hcl with
      | [c0, c1, c2, c3], _ =>
        match ys, hyl with
        | [y0, y1, y2, y3], _ =>
          have f0 : DataW.trod enc Try.prog W 0 sp true n2 3 (List.take (Try.prog.cellsOf 3) (List.drop 0 [c0, c1, c2, c3])) = [y0, y1, y2, y3][0]? := hf 0 _ rfl
          have f1 : DataW.trod enc Try.prog W 0 sp true n2 9 (List.take (Try.prog.cellsOf 9) (List.drop 1 [c0, c1, c2, c3])) = [y0, y1, y2, y3][1]? := hf 1 _ rfl
          have f2 : DataW.trod enc Try.prog W 0 sp true n2 9 (List.take (Try.prog.cellsOf 9) (List.drop 2 [c0, c1, c2, c3])) = [y0, y1, y2, y3][2]? := hf 2 _ rfl
          have f3 : DataW.trod enc Try.prog W 0 sp true n2 27 (List.take (Try.prog.cellsOf 27) (List.drop 3 [c0, c1, c2, c3])) = [y0, y1, y2, y3][3]? := hf 3 _ rfl
          rw [Try.cells3] at f0
          rw [Try.cells9] at f1 f2
          rw [Try.cells27] at f3
          simp only [List.drop_zero, List.drop_succ_cons, List.take_succ_cons, List.take_zero, List.getElem?_cons_zero, List.getElem?_cons_succ] at f0 f1 f2 f3
          obtain ⟨k, e0, rfl, wk⟩ := DataW.trod_int Try.underlying3 f0
          obtain ⟨s1, e1, rfl, _⟩ := DataW.trod_string Try.underlying9 f1
          obtain ⟨s2, e2, rfl, _⟩ := DataW.trod_string Try.underlying9 f2
          obtain ⟨ao, kc, ks, e3, hsl, hkl, hoff⟩ := strSl_of_trod f3 hsp
          simp only [List.cons.injEq, and_true] at e0 e1 e2
          subst e0 e1 e2 e3
          have h0 := hat 0 (by omega)
          have h1 := hat 1 (by omega)
          have h2 := hat 2 (by omega)
          have h3 := hat 3 (by omega)
          simp only [List.getElem?_cons_zero, List.getElem?_cons_succ] at h0 h1 h2 h3
          obtain ⟨b, off, spot⟩ := a
          have hs : spot = none := by
            obtain ⟨cs0, hc0, _⟩ := hel 0 (by omega)
            rw [Try.cells29] at hc0
            obtain ⟨_, hl0, ha0⟩ := World.cells?_some hc0
            have e0 := ha0 0 (by omega)
            rw [List.getElem?_eq_getElem (by omega)] at e0
            have := World.cell?_spot e0
            simpa [Addr.add] using this
          subst hs
          rw [add_plain, add_plain] at h0 h1 h2 h3
          simp only [Prod.mk.injEq] at hy
          have hD : D i ∈ (List.range len).map D := List.mem_map.2 ⟨i, List.mem_range.2 hi, rfl⟩
          have hwm : ∀ q ∈ (D i).weights Try.prog 29, q ≤ reachBytes := by
            intro q hq
            refine hw q ?_
            simp only [DataW.weights, Try.underlying22, List.mem_cons, List.mem_append]
            exact .inr (.inl (weightsAll_mem hD q hq))
          rw [hy.1] at hwm
          have q1 := hwm s1.data.toList.length (by simp [DataW.weights, Try.underlying29, DataW.weightsEach])
          have q2 := hwm s2.data.toList.length (by simp [DataW.weights, Try.underlying29, DataW.weightsEach])
          simp only [reachBytes] at q1 q2
          have hk := wk
          simp [Lit.wf, IntKind.min, IntKind.max, IntKind.signed, IntKind.bits] at hk
          refine ⟨⟨k, s1, s2, ao, kc, ks⟩, b, off, rfl, h0, h1, h2, h3, hsl, fun hne b hb h => by have := hoff hne b hb; omega, hkl, by show _ ≤ k; omega, by show k ≤ _; omega, ?_, ?_⟩
          · show s1.data.size ≤ _
            have e : s1.data.size = s1.data.toList.length := by simp
            rw [e]; omega
          · show s2.data.size ≤ _
            have e : s2.data.size = s2.data.toList.length := by simp
            rw [e]; omega
    refine ⟨some a, len, cap, fun i => if hi : i < len then Classical.choose (key i hi) else ⟨0, ⟨#[]⟩, ⟨#[]⟩, none, 0, []⟩, rfl, by unfold maxLen at hm; omega, fun i hi => ?_⟩
    simp only [dif_pos hi]
    exact Classical.choose_spec (key i hi)
end

set_option maxRecDepth 100000 in
theorem lruMore_lifted (os : Os) (started : os.Started) (H : Type) (enc : TypeId × Value → H) :
    ReturnsInHanded {} Try.checked os 3 .any (Rows.lruMoreSpec.pre6 enc Try.prog Try.f3 Rows.lruMoreRow.domain false) (Rows.lruMoreSpec.post enc Try.prog Try.f3 false true false false) := by
  refine returnsInHanded_of_change_sized (C := Try.checked) Try.own started (by kernel_rfl) Try.func3
    (ChangeSpec.witness6 (enc := enc) (C := Try.checked) false ⟨#[], #[.int .i64 0, .int .i64 0, .slice none 0 0], []⟩ 8 (by kernel_rfl) (by kernel_rfl) (by kernel_rfl) (by kernel_rfl)) ?_
  intro W base args ds gs before hval0 hW _ hsz0 _
  have hsz : (DataW.weightsEach Try.prog (Try.f3.params.toList ++ Rows.lruMoreSpec.plain.varTypes Try.prog) (ds ++ gs)).all (· ≤ reachBytes) = true := hsz0
  clear hsz0
  have hval : ∀ (j : Nat) t v, Try.f3.params[j]? = some t → args[j]? = some v → Value.okWide Try.prog W .any base t v := hval0
  have hW' := hW
  obtain ⟨p, q, hA0, hV, rfl, _, _⟩ := hW
  have hA : DataW.TrodAll enc Try.prog W 0 (fun _ => true) true Try.f3.params.toList args.toList ds p := hA0
  rw [Try.params3] at hA hval hsz
  obtain ⟨v0, v1, v2, d0, d1, d2, p0, p1, p2, rfl, rfl, rfl, h0, h1, h2⟩ := trodAll_three hA
  obtain ⟨rfl, rfl⟩ := trodVars_none hV
  obtain ⟨x0, rfl, rfl, rfl, w0⟩ := open_int Try.underlying3 (hval 0 3 v0 rfl rfl) h0
  obtain ⟨x1, rfl, rfl, rfl, w1⟩ := open_int Try.underlying3 (hval 1 3 v1 rfl rfl) h1
  clear hA0 hval0
  simp only [List.append_nil, List.nil_append] at hW'
  have hlt : ∀ x ∈ p2, x.block < W.heap.size := fun x hx => hW'.lt x hx
  have hargs : ∀ (W' : World), Below W.heap.size W W' → DataW.Trod enc Try.prog W' 0 (fun b => decide (b < W.heap.size)) true 22 v2 d2 p2 :=
    fun W' hn => Below.trod Try.laidOut (by kernel_rfl) (of_decide_eq_true (by kernel_rfl)) h2 hn hlt
  obtain ⟨a0, l0, c0, rfl⟩ := okWide_slice Try.underlying22 (hval 2 22 v2 rfl rfl)
  obtain ⟨fuel, hf⟩ := h2
  simp only [Value.cells] at hf
  obtain ⟨ao, len, cap, ops, hv2, hlen, hops⟩ := open_script hf (fun _ => rfl) (fun m hm => by
    have := List.all_eq_true.1 hsz m (DataW.weights_mem_each (j := 2) (t := 22) (d := d2) rfl rfl m hm)
    simpa using this)
  have b0 := w0
  have b1 := w1
  simp [Lit.wf, IntKind.min, IntKind.max, IntKind.signed, IntKind.bits] at b0 b1
  cases hv2
  have er : Rows.lruMoreSpec.fn H ([.lit (.int .i64 x0), .lit (.int .i64 x1), d2] ++ []) = { results := [.lit (.bool true)], args := [.lit (.int .i64 x0), .lit (.int .i64 x1), d2] } := rfl
  refine (more_any x0 x1 a0 l0 c0 ops W (by omega) (by omega) (by omega) (by omega) hlen hops).mono fun e W' ⟨he, hfr⟩ => ?_
  subst he
  have hb := hfr.below (fun _ _ h => h)
  refine ⟨_, rfl, _, _, _, [], [] ++ ([] ++ p2), [], hW', ?_, ?_, ?_, hb.frame _, fun h => by cases h⟩
  · rw [er]; exact trodAll_mk1 (shut_bool Try.underlying4 _)
  · rw [er]; exact trodAll_mk3 (shut_int Try.underlying3 w0) (shut_int Try.underlying3 w1) (hargs _ hb)
  · rw [er]; exact rfl

theorem lruMore_holds : Rows.LruMoreSaid :=
  OpenClaim.holds_of_wide 3 Try.f3 rfl rfl rfl rfl rfl rfl rfl ⟨rfl, rfl, rfl, rfl, rfl⟩ rfl rfl rfl rfl rfl (by kernel_rfl) Try.func3 (by kernel_rfl)
    (of_decide_eq_true (by kernel_rfl)) (by unfold Func.isWrapper; first | (rw [if_pos (by decide +kernel)]; kernel_rfl) | (rw [if_neg (by decide +kernel)]; exact ⟨rfl, rfl⟩))
    (fun os started H enc _ => lruMore_lifted os started H enc)
#print axioms lruMore_holds
end Go.Proofs.Yteecdpdidhjdlaa
