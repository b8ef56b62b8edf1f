/- PROVED: tussocklaw03.DiskPlays returns true for every room and every script (of any length, with any names and texts), and leaves its arguments as they were. Condition: the one of the form 'UptoSaid' (the arguments' bulk is at most 1048576), and none of ours. -/
import Derived.Test.YtngickhakedonaaDp28
import Derived.Test.YtngickhakedonaaRows
import Derived.ProofKit
import Derived.SizedLaws
import Derived.JoinedCond
import Derived.Deep.Slices
import Derived.ChangeSlices
import Derived.OpenShut
set_option linter.all false
namespace Go.Proofs.Ytngickhakedonaa
open Go.RowKit Go.Tk Go.Dk Go.ChangeShapes Go.WideShapes Go.ChangeAt

theorem Try.cells3 : Try.prog.cellsOf 3 = 1 := by kernel_rfl
theorem Try.cells5 : Try.prog.cellsOf 5 = 1 := by kernel_rfl
theorem Try.cells9 : Try.prog.cellsOf 9 = 1 := by kernel_rfl
theorem Try.cells45 : Try.prog.cellsOf 45 = 1 := by kernel_rfl
theorem Try.cells47 : Try.prog.cellsOf 47 = 6 := by kernel_rfl
theorem Try.own : ownKnob Try.prog.godebug = none := by kernel_rfl
theorem Try.laidOut : laidOutB Try.prog = true := by kernel_rfl

theorem bulk_part {H : Type} {d : DataW H} {l : List (DataW H)} (h : d ∈ l) : Rows.uptoBulk d ≤ Rows.uptoBulkAll l := by
  induction l with
  | nil => cases h
  | cons x r ih =>
    simp only [Rows.uptoBulkAll]
    rcases List.mem_cons.1 h with e | e
    · subst e; omega
    · have := ih e; omega
theorem bulk_one {H : Type} (d : DataW H) : 1 ≤ Rows.uptoBulk d := by
  cases d with
  | lit l => cases l <;> simp [Rows.uptoBulk]
  | _ => simp [Rows.uptoBulk]
theorem bulk_len {H : Type} (l : List (DataW H)) : l.length ≤ Rows.uptoBulkAll l := by
  induction l with
  | nil => simp [Rows.uptoBulkAll]
  | cons x r ih => have := bulk_one x; simp only [Rows.uptoBulkAll, List.length_cons]; omega

section
variable {H : Type} {enc : TypeId × Value → H} {W : World} {sp : Nat → Bool}
/-- bytes that were read -/
theorem bytes_of_trod {n : Nat} {v : Value} {y : DataW H × List MemPlace} (h : DataW.trod enc Try.prog W 0 sp true n 45 [v] = some y) (hsp : ∀ b, sp b = true) (hb : Rows.uptoBulk y.1 ≤ 1048576) :
    ∃ ao cap x, v = .slice ao (ByteArray.size x) cap ∧ Reads W ao x ∧ x.size ≤ 1048576 ∧ x.size ≤ cap ∧ (∀ a, ao = some a → 0 < x.size → a.block < W.heap.size) := by
  rcases open_ints Try.underlying45 Try.underlying5 Try.cells5 h with ⟨hcs, _⟩ | ⟨a, len, cap, zs, hcs, _, hl, hm, hz, hy, hcell, hwf⟩
  · simp at hcs
    subst hcs
    exact ⟨none, 0, ⟨#[]⟩, rfl, ⟨fun _ => rfl, fun a ha => by cases ha⟩, by decide, by decide, fun a ha => by cases ha⟩
  · simp at hcs
    subst hcs
    rw [hsp, if_pos rfl] at hz
    have hlt : (zs.take len).length = len := by rw [List.length_take]; omega
    have hsize : (⟨((zs.take len).map fun z => UInt8.ofNat z.toNat).toArray⟩ : ByteArray).size = len := by
      show (((zs.take len).map fun z => UInt8.ofNat z.toNat).toArray).size = len
      rw [List.size_toArray, List.length_map, hlt]
    have hcells : ∀ j u, (byC ⟨((zs.take len).map fun z => UInt8.ofNat z.toNat).toArray⟩)[j]? = some u → W.cell? (a.add j) = some u := by
      intro j u hj
      have hjl := (List.getElem?_eq_some_iff.1 hj).1
      rw [byC_len, hsize] at hjl
      rw [hcell j (by omega), ← hj]
      have hmem : zs.getD j 0 ∈ zs := by
        rw [List.getD_eq_getElem?_getD, List.getElem?_eq_getElem (by omega)]
        exact List.getElem_mem _
      have hw := hwf _ hmem
      simp [Lit.wf, IntKind.min, IntKind.max, IntKind.signed, IntKind.bits] at hw
      unfold byC
      rw [List.getElem?_map]
      show some (Value.int .u8 (zs.getD j 0)) = Option.map _ ((((zs.take len).map fun z => UInt8.ofNat z.toNat).toArray).toList[j]?)
      rw [List.toList_toArray, List.getElem?_map, List.getElem?_take, if_pos hjl, List.getD_eq_getElem?_getD]
      rw [List.getElem?_eq_getElem (by omega)] at hw ⊢
      simp only [Option.map_some, Option.getD_some] at hw ⊢
      congr 2
      rw [UInt8.toNat_ofNat']
      omega
    refine ⟨some a, cap, ⟨((zs.take len).map fun z => UInt8.ofNat z.toNat).toArray⟩, by rw [hsize], ⟨(fun h => by cases h), (fun a' ha => by cases ha; exact hcells)⟩, ?_, by rw [hsize]; exact hl, fun a' ha hp => ?_⟩
    · rw [hsize]
      rw [hy] at hb
      simp only [Rows.uptoBulk] at hb
      have := bulk_len (H := H) (lits .u8 (zs.take len))
      have e : (lits (H := H) .u8 (zs.take len)).length = len := by unfold lits; rw [List.length_map, hlt]
      omega
    · cases ha
      rw [hsize] at hp
      have := hcell 0 (by omega)
      have h2 := World.block_lt_of_cell? _ _ this
      rwa [add_block] at h2

set_option maxRecDepth 100000 in
/-- the script, element by element -/
theorem open_script {n : Nat} {v : Value} {y : DataW H × List MemPlace} (h : DataW.trod enc Try.prog W 0 sp true n 37 [v] = some y) (hsp : ∀ b, sp b = true) (hb : Rows.uptoBulk y.1 ≤ 1048576) :
    ∃ (ao : Option Addr) (len cap : Nat) (ops : Nat → Op3), v = .slice ao len cap ∧ len ≤ 9223372036854775807 ∧ ∀ i, i < len → OpAt W.heap.size 1048576 W ao i (ops i) := by
  rcases Go.Deep.open_slice Try.underlying37 h with ⟨hcs, _⟩ | ⟨a, len, cap, m, n', D, Pl, hcs, _, hl, hm, hmm, rfl, hel⟩
  · simp at hcs
    subst hcs
    exact ⟨none, 0, 0, fun _ => ⟨0, ⟨#[]⟩, ⟨#[]⟩, ⟨#[]⟩, 0, 0, none, 0⟩, rfl, by decide, fun i hi => by omega⟩
  · simp at hcs
    subst hcs
    rw [hsp, if_pos rfl] at hmm
    have key : ∀ i, i < len → ∃ o, OpAt W.heap.size 1048576 W (some a) i o := by
      intro i hi
      obtain ⟨cs', hc, ht⟩ := hel i (by omega)
      rw [Try.cells47] at hc
      obtain ⟨ys, n2, _, hy, hlen, hyl, hf⟩ := DataW.trod_struct Try.underlying47 ht
      obtain ⟨_, hcl, hat⟩ := World.cells?_some hc
      match cs', hcl with
      | [c0, c1, c2, c3, c4, c5], _ =>
        match ys, hyl with
        | [y0, y1, y2, y3, y4, y5], _ =>
          have f0 : DataW.trod enc Try.prog W 0 sp true n2 3 (List.take (Try.prog.cellsOf 3) (List.drop 0 [c0, c1, c2, c3, c4, c5])) = [y0, y1, y2, y3, y4, y5][0]? := hf 0 _ rfl
          have f1 : DataW.trod enc Try.prog W 0 sp true n2 9 (List.take (Try.prog.cellsOf 9) (List.drop 1 [c0, c1, c2, c3, c4, c5])) = [y0, y1, y2, y3, y4, y5][1]? := hf 1 _ rfl
          have f2 : DataW.trod enc Try.prog W 0 sp true n2 9 (List.take (Try.prog.cellsOf 9) (List.drop 2 [c0, c1, c2, c3, c4, c5])) = [y0, y1, y2, y3, y4, y5][2]? := hf 2 _ rfl
          have f3 : DataW.trod enc Try.prog W 0 sp true n2 45 (List.take (Try.prog.cellsOf 45) (List.drop 3 [c0, c1, c2, c3, c4, c5])) = [y0, y1, y2, y3, y4, y5][3]? := hf 3 _ rfl
          have f4 : DataW.trod enc Try.prog W 0 sp true n2 3 (List.take (Try.prog.cellsOf 3) (List.drop 4 [c0, c1, c2, c3, c4, c5])) = [y0, y1, y2, y3, y4, y5][4]? := hf 4 _ rfl
          have f5 : DataW.trod enc Try.prog W 0 sp true n2 3 (List.take (Try.prog.cellsOf 3) (List.drop 5 [c0, c1, c2, c3, c4, c5])) = [y0, y1, y2, y3, y4, y5][5]? := hf 5 _ rfl
          rw [Try.cells3] at f0 f4 f5
          rw [Try.cells9] at f1 f2
          rw [Try.cells45] at f3
          simp only [List.drop_zero, List.drop_succ_cons, List.take_succ_cons, List.take_zero, List.getElem?_cons_zero, List.getElem?_cons_succ] at f0 f1 f2 f3 f4 f5
          simp only [Prod.mk.injEq] at hy
          have hD : D i ∈ (List.range len).map D := List.mem_map.2 ⟨i, List.mem_range.2 hi, rfl⟩
          have hbD : Rows.uptoBulk (D i) ≤ 1048576 := by
            have h1 := bulk_part hD
            simp only [Rows.uptoBulk] at hb
            omega
          rw [hy.1] at hbD
          simp only [Rows.uptoBulk, Rows.uptoBulkAll, List.map_cons, List.map_nil] at hbD
          obtain ⟨k, e0, rfl, wk⟩ := DataW.trod_int Try.underlying3 f0
          obtain ⟨s1, e1, rfl, _⟩ := DataW.trod_string Try.underlying9 f1
          obtain ⟨s2, e2, rfl, _⟩ := DataW.trod_string Try.underlying9 f2
          obtain ⟨kn, e4, rfl, wn⟩ := DataW.trod_int Try.underlying3 f4
          obtain ⟨kt, e5, rfl, wt⟩ := DataW.trod_int Try.underlying3 f5
          obtain ⟨ao, kc, x, e3, hrd, hxs, hxc, hlow⟩ := bytes_of_trod f3 hsp (by omega)
          simp only [List.cons.injEq, and_true] at e0 e1 e2 e4 e5
          subst e0 e1 e2 e3 e4 e5
          have h0 := hat 0 (by omega)
          have h1 := hat 1 (by omega)
          have h2 := hat 2 (by omega)
          have h3 := hat 3 (by omega)
          have h4 := hat 4 (by omega)
          have h5 := hat 5 (by omega)
          simp only [List.getElem?_cons_zero, List.getElem?_cons_succ] at h0 h1 h2 h3 h4 h5
          obtain ⟨b, off, spot⟩ := a
          have hs : spot = none := by
            obtain ⟨cs0, hc0, _⟩ := hel 0 (by omega)
            rw [Try.cells47] at hc0
            obtain ⟨_, hl0, ha0⟩ := World.cells?_some hc0
            have e0 := ha0 0 (by omega)
            rw [List.getElem?_eq_getElem (by omega)] at e0
            have := World.cell?_spot e0
            simpa [Addr.add] using this
          subst hs
          rw [add_pl, add_pl] at h0 h1 h2 h3 h4 h5
          simp only [Rows.uptoBulk] at hbD
          simp [Lit.wf, IntKind.min, IntKind.max, IntKind.signed, IntKind.bits] at wk wn wt
          have z1 : s1.size = s1.data.toList.length := by simp
          have z2 : s2.size = s2.data.toList.length := by simp
          exact ⟨⟨k, s1, s2, x, kn, kt, ao, kc⟩, b, off, rfl, World.block_lt_of_cell? _ _ h0, h0, h1, h2, h3, h4, h5, ⟨wk, wn, wt, by show s1.size ≤ _; omega, by show s2.size ≤ _; omega, hxs, hxc, hrd, hlow⟩⟩
    refine ⟨some a, len, cap, fun i => if hi : i < len then Classical.choose (key i hi) else ⟨0, ⟨#[]⟩, ⟨#[]⟩, ⟨#[]⟩, 0, 0, none, 0⟩, rfl, by unfold maxLen at hm; omega, fun i hi => ?_⟩
    simp only [dif_pos hi]
    exact Classical.choose_spec (key i hi)
end

set_option maxRecDepth 100000 in
theorem diskPlays_lifted (os : Os) (started : os.Started) (H : Type) (enc : TypeId × Value → H) (F : Stop.Interp) :
    ReturnsInHanded {} Try.checked os 4 .any ((Rows.OpenSpec.upto Rows.diskPlaysSpec).pre6 enc Try.prog Try.f4 Rows.diskPlaysUptoRow.domain false) (((Rows.OpenSpec.upto Rows.diskPlaysSpec).at F).post enc Try.prog Try.f4 false true false false) := by
  refine returnsInHanded_of_cond (C := Try.checked) (s := Rows.OpenSpec.upto Rows.diskPlaysSpec) (k := Rows.uptoSmall) rfl Try.own started (by kernel_rfl) Try.func4
    (OpenSpec.witness (enc := enc) (C := Try.checked) (s := Rows.OpenSpec.upto Rows.diskPlaysSpec) (k := Rows.uptoSmall) rfl false ⟨#[], #[.int .i64 0, .slice none 0 0], []⟩ 8 (by kernel_rfl) (by kernel_rfl) (by kernel_rfl)
      (x := ([.lit (.int .i64 0), .nil], [], [])) (by kernel_rfl) rfl (by kernel_rfl)) ?_
  intro W base args ds gs before hval0 hW _ hk0 _
  have hk : Rows.uptoSmall H (ds ++ gs) = true := hk0
  clear hk0
  have hval : ∀ (j : Nat) t v, Try.f4.params[j]? = some t → args[j]? = some v → Value.okWide Try.prog W .any base t v := hval0
  have hW' := hW
  obtain ⟨p, q, hA0, hV, rfl, _, _⟩ := hW
  have hA : DataW.TrodAll enc Try.prog W 0 (fun _ => true) true Try.f4.params.toList args.toList ds p := hA0
  rw [Try.params4] at hA hval
  obtain ⟨v0, v1, d0, d1, p0, p1, rfl, rfl, rfl, h0, h1⟩ := trodAll_two hA
  obtain ⟨rfl, rfl⟩ := trodVars_none hV
  obtain ⟨x0, rfl, rfl, rfl, w0⟩ := open_int Try.underlying3 (hval 0 3 v0 rfl rfl) h0
  clear hA0 hval0
  simp only [List.append_nil, List.nil_append] at hW' hk
  have hlt : ∀ x ∈ p1, x.block < W.heap.size := fun x hx => hW'.lt x hx
  have hargs : ∀ (W' : World), Below W.heap.size W W' → DataW.Trod enc Try.prog W' 0 (fun b => decide (b < W.heap.size)) true 37 v1 d1 p1 :=
    fun W' hn => Below.trod Try.laidOut (by kernel_rfl) (of_decide_eq_true (by kernel_rfl)) h1 hn hlt
  obtain ⟨a0, l0, c0, rfl⟩ := okWide_slice Try.underlying37 (hval 1 37 v1 rfl rfl)
  have hbulk : Rows.uptoBulk d1 ≤ 1048576 := by
    have h : Rows.uptoBulkAll [DataW.lit (H := H) (.int .i64 x0), d1] ≤ 1048576 := of_decide_eq_true hk
    have := bulk_part (H := H) (d := d1) (l := [DataW.lit (H := H) (.int .i64 x0), d1]) (by simp)
    omega
  obtain ⟨fuel, hf⟩ := h1
  simp only [Value.cells] at hf
  obtain ⟨ao, len, cap, ops, hv2, hlen, hops⟩ := open_script hf (fun _ => rfl) hbulk
  have b0 := w0
  simp [Lit.wf, IntKind.min, IntKind.max, IntKind.signed, IntKind.bits] at b0
  cases hv2
  have er : ((Rows.OpenSpec.upto Rows.diskPlaysSpec).at F).fn H ([.lit (.int .i64 x0), d1] ++ []) = { results := [.lit (.bool true)], args := [.lit (.int .i64 x0), d1] } := rfl
  refine (plays_any x0 a0 l0 c0 1048576 ops W (by omega) (by omega) hlen (by omega) hops).mono fun e W' ⟨he, hfr⟩ => ?_
  subst he
  have hb := hfr.below (fun _ _ h => h)
  refine ⟨_, rfl, _, _, _, [], [] ++ p1, [], hW', ?_, ?_, ?_, hb.frame _, fun h => by cases h⟩
  · rw [er]; exact trodAll_mk1 (shut_bool Try.underlying4 _)
  · rw [er]; exact trodAll_mk2 (shut_int Try.underlying3 w0) (hargs _ hb)
  · rw [er]; exact rfl

theorem diskPlays_holds : Rows.DiskPlaysUptoSaid :=
  OpenClaim.holds_of_cond 4 Try.f4 rfl rfl rfl rfl rfl rfl rfl ⟨rfl, rfl, rfl, rfl, rfl⟩ rfl rfl rfl rfl rfl (by kernel_rfl) Try.func4 (by kernel_rfl)
    (of_decide_eq_true (by kernel_rfl)) (by unfold Func.isWrapper; first | (rw [if_pos (by decide +kernel)]; kernel_rfl) | (rw [if_neg (by decide +kernel)]; exact ⟨rfl, rfl⟩))
    (fun os started H enc _ F => diskPlays_lifted os started H enc F)
#print axioms diskPlays_holds
end Go.Proofs.Ytngickhakedonaa
