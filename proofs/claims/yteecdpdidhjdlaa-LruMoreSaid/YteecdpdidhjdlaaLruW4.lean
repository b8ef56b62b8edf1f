/- A text of a claim's proof: see the last text of the claim. -/
import Derived.Test.YteecdpdidhjdlaaLruW3
set_option linter.all false
namespace Go.Proofs.Yteecdpdidhjdlaa
open Go.RowKit Go.Tk Go.Lru

/-- who stands next behind what was gone through -/
def nextB (cb : Nat) (l : List (Nat × KV)) : Nat := (l.map (·.1)).headD cb
theorem info56 : (Try.prog.info? 56).map (fun i => i.size) = some 4 := by kernel_rfl

theorem keys_frm {w wr wa : World} {v : Value} {n : Nat} {xs : List Value} {o : Obj} (hf : Frm (fun _ => False) w wr) (hown : wr.ownsRow w.heap.size 9 1 v n xs) (hg : (wr.alloc o).grownBy wa v.ownBlock) :
    Frm (fun b => w.heap.size ≤ b) wr wa ∧ Frm (fun _ => False) w wa := by
  have e := ((Frm.refl (fun b => w.heap.size ≤ b) wr).alloc o).trans' (Frm.of_grown (S := fun b => w.heap.size ≤ b) hg (fun k hk _ => (hown.lt k hk).1)) (fun _ _ h => h)
  exact ⟨e, hf.trans' e (fun b hb h => by omega)⟩
theorem keys_cell {w wr wa : World} {cb mb bud : Nat} {l : List (Nat × KV)} {x : Nat × KV} {v : Value} (hlt : ∀ b ∈ fp cb mb l, b < w.heap.size) (hl : Lru wr cb mb bud l) (h : Frm (fun b => w.heap.size ≤ b) wr wa ∧ Frm (fun _ => False) w wa) (hx : x ∈ l)
    (hc : wr.cell? ⟨x.1, 3, none⟩ = some v) : wa.cell? ⟨x.1, 3, none⟩ = some v := by
  have hb : x.1 ∈ fp cb mb l := List.mem_cons_of_mem _ (List.mem_cons_of_mem _ (List.mem_map.2 ⟨x, hx, rfl⟩))
  exact (h.1.cell (p := ⟨x.1, 3, none⟩) (World.block_lt_of_cell? _ _ hc) (Nat.not_le_of_lt (hlt _ hb))).trans hc

set_option maxRecDepth 100000 in
set_option maxHeartbeats 400000 in
theorem keys_any (cb mb bud : Nat) (l : List (Nat × KV)) (w : World) (h : Lru w cb mb bud l) (hlen : l.length ≤ 1000000) :
    Calls Try.prog 10 #[.pointer (some ⟨cb, 0, none⟩)] w fun e w' => ∃ v, e = .returned v ∧ StrSl w' v (l.map (·.2.1)) ∧ Frm (fun _ => False) w w' ∧ ∀ b, v.ownBlock = some b → w.heap.size ≤ b := by
  obtain ⟨i0, hi, hz0, hz1, hz2⟩ := info_parts infoS
  obtain ⟨i4, hi4, hz4⟩ := Option.map_eq_some_iff.1 info56
  have c3 : w.cell? ⟨cb, 3, none⟩ = some (.pointer (some ⟨nextB cb l, 0, none⟩)) := (chain_head h.ring.chain).1
  go_enter Try.func10, Try.ntmps10
  go_wp2_with fail
  go_loopg [3, 4] (l.length + 1) (fun g v x wr => ∃ don rest, rest.length < g ∧ l = don ++ rest ∧ x = .pointer (some ⟨nextB cb rest, 0, none⟩) ∧ Lru wr cb mb bud l ∧ wr.ownsRow w.heap.size 9 1 v don.length (don.map fun x => .string x.2.1) ∧ Frm (fun _ => False) w wr)
  case atStart => exact ⟨[], l, by omega, rfl, rfl, h, World.ownsRow_nil _ _ _ _, Frm.refl _ _⟩
  case round =>
    obtain ⟨don, rest, hg, hL, rfl, hl, hown, hf⟩ := hrel
    have HL := Lib.hid hL
    clear hL c3
    cases rest with
    | nil =>
      have hne := run_neq_ptr_same wr ⟨cb, 0, none⟩ Try.underlying54 hi4
      rw [show nextB cb [] = cb from rfl]
      go_wp2_with fail
      go_ret
      obtain ⟨g1, g2⟩ := strSl_of_owns (ks := don.map (·.2.1)) (by simpa [Function.comp_def] using hown)
      refine ⟨_, rfl, ?_, hf, g2⟩
      rw [HL.out, List.append_nil]; exact g1
    | cons x rest =>
      have hxl : x ∈ l := by rw [HL.out]; simp
      have hxc : x.1 ≠ cb := by
        intro e
        have := hl.ring.nodup
        rw [← e, List.nodup_cons] at this
        exact this.1 (List.mem_map.2 ⟨x, hxl, rfl⟩)
      have hne := run_neq_ptr_other wr (tp := 54) Try.underlying54 hi4 (by rw [hz4]; decide) hxc (hl.ring.fz x.1 (List.mem_cons_of_mem _ (List.mem_map.2 ⟨x, hxl, rfl⟩))) (hl.ring.fz cb List.mem_cons_self)
      have k0 := hl.ring.key x hxl
      have hnx : wr.cell? ⟨x.1, 3, none⟩ = some (.pointer (some ⟨nextB cb rest, 0, none⟩)) := by
        have := hl.ring.chain
        rw [HL.out, List.map_append, List.map_cons] at this
        exact (chain_head (chain_append.1 this).2).1
      have hdl : don.length ≤ 1000000 := by have := HL.out; have := congrArg List.length this; simp at this; omega
      have q1 : ∀ j u, [Value.string x.2.1][j]? = some u → (wr.alloc (.cells #[.string x.2.1] 9)).cell? ((⟨wr.heap.size, 0, none⟩ : Addr).add j) = some u := cell_one_new wr _ _
      have Q := Lib.hid (And.intro q1 (show ∀ u ∈ [Value.string x.2.1], u.oneCell' = true by simp [Value.oneCell']))
      have hsz : w.heap.size ≤ (wr.alloc (.cells #[.string x.2.1] 9)).heap.size := by rw [World.size_alloc]; exact Nat.le_succ_of_le hf.size
      clear hxc q1
      rw [show nextB cb (x :: rest) = x.1 from rfl]
      have HHl := Lib.hid (And.intro hl (And.intro h.lt hnx))
      clear hl hnx
      have hown0 := hown
      go_wp2_with (first | (at_builtin; refine wpList_append_own _ rfl _ _ 27 rfl w.heap.size 9 i0 (.string ⟨#[]⟩) 1 16 Try.underlying27 hi hz0 hz1 hz2 rfl (by decide) _ _ _ rfl (hown.alloc _) ⟨wr.heap.size, 0, none⟩ 1 1 [.string x.2.1] rfl rfl Q.out.1 Q.out.2 (by unfold maxLen; omega) (by omega) hsz ?_; intro v' wa hown' hgrow _; have HF := Lib.hid (keys_frm hf hown hgrow); clear hgrow hown; have hnx' := keys_cell HHl.out.2.1 HHl.out.1 HF.out hxl HHl.out.2.2))
      go_roundg (rest.length + 1)
      case measure => simp at hg; omega
      case rel => exact ⟨don ++ [x], rest, Nat.lt_succ_self _, by rw [HL.out]; simp, rfl, HHl.out.1.frm HF.out.1 (fun b hb => Nat.not_le_of_lt (HHl.out.2.1 b hb)), by simpa using hown', HF.out.2⟩
end Go.Proofs.Yteecdpdidhjdlaa
