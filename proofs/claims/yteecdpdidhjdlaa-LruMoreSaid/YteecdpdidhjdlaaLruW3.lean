/- A text of a claim's proof: see the last text of the claim. -/
import Derived.Test.YteecdpdidhjdlaaLruW2
import Derived.Deep.LoopGhost
set_option linter.all false
namespace Go.Proofs.Yteecdpdidhjdlaa
open Go.RowKit Go.Tk Go.Lru

theorem use_lru (cb mb bud : Nat) (t : Int) (L : List (Nat × KV)) (x : Nat × KV) (m : List (ByteArray × Value)) (w : World) (hr : Ring w cb L) (c4 : w.cell? ⟨cb, 4, none⟩ = some (.map (some mb))) (c5 : w.cell? ⟨cb, 5, none⟩ = some (.int .i64 bud)) (c6 : w.cell? ⟨cb, 6, none⟩ = some (.int .i64 t))
    (hm : GMap strKy w mb m) (hmb : mb ∉ cb :: L.map (·.1)) (hmx : mb ≠ x.1) (hx : x.1 ∉ cb :: L.map (·.1))
    (hk : w.cell? ⟨x.1, 0, none⟩ = some (.string x.2.1)) (hv : w.cell? ⟨x.1, 1, none⟩ = some (.string x.2.2)) (u1 u2 : Value) (h2 : w.cell? ⟨x.1, 2, none⟩ = some u1) (h3 : w.cell? ⟨x.1, 3, none⟩ = some u2)
    (hz : Fz w x.1) :
    Calls Try.prog 24 #[.pointer (some ⟨cb, 0, none⟩), .pointer (some ⟨x.1, 0, none⟩)] w fun e w1 => e = .returned (.tuple #[]) ∧
      Ring w1 cb (x :: L) ∧ w1.cell? ⟨cb, 4, none⟩ = some (.map (some mb)) ∧ w1.cell? ⟨cb, 5, none⟩ = some (.int .i64 bud) ∧ w1.cell? ⟨cb, 6, none⟩ = some (.int .i64 t) ∧ GMap strKy w1 mb m ∧ Frm (· ∈ x.1 :: cb :: L.map (·.1)) w w1 ∧ w1.frozen? ⟨cb, 6, none⟩ = false := by
  obtain ⟨⟨k1, k2⟩, hcx, hfx, _⟩ := hr.use rfl hx hk hv u1 u2 h2 h3 hz
  refine (use_any cb x.1 _ u1 u2 _ w hcx hfx k1 h2 h3 k2 (hz.frozen 2) (hz.frozen 3) ((hr.fz cb List.mem_cons_self).frozen 3) ((hr.fz _ ?_).frozen 2)).mono ?_
  · have := headD_mem (L.map (·.1)) cb
    simp only [List.mem_cons]
    grind
  · rintro e w1 ⟨rfl, hw1⟩
    exact ⟨rfl, use_keeps hr c4 c5 c6 hm hmb hmx hx hk hv u1 u2 h2 h3 hz rfl hw1⟩

theorem strSl_one (w : World) (s : ByteArray) (T : TypeId) : StrSl (w.alloc (.cells #[.string s] T)) (.slice (some ⟨w.heap.size, 0, none⟩) 1 1) [s] :=
  ⟨_, 1, rfl, Nat.le_refl _, fun i hi => ⟨w.heap.size, 0, rfl, by
    have : i = 0 := by simp at hi; omega
    subst this
    simp⟩⟩

theorem infoS : (Try.prog.info? 9).map (fun i => (i.zero, i.size, i.bytes)) = some (some (.string ⟨#[]⟩), 1, 16) := by kernel_rfl

set_option maxRecDepth 100000 in
set_option maxHeartbeats 1000000 in
theorem put_ok (cb mb bud : Nat) (l : List (Nat × KV)) (key val : ByteArray) (w : World) (h : Lru w cb mb bud l) (hfit : key.size + val.size ≤ bud) (ht : tot (kvs l) ≤ bud) (hb : bud ≤ 2305843009213693952) (hlen : l.length ≤ 1000000) :
    Calls Try.prog 9 #[.pointer (some ⟨cb, 0, none⟩), .string key, .string val] w fun e w' => ∃ xb gv, e = .returned (.tuple #[gv, .int .i64 0]) ∧ w.heap.size ≤ xb ∧
      Lru w' cb mb bud (evictI bud ((xb, (key, val)) :: woI key l)) ∧ Frm (· ∈ fp cb mb l) w w' ∧
      StrSl w' gv ((((xb, (key, val)) :: woI key l).drop (evictI bud ((xb, (key, val)) :: woI key l)).length).reverse.map (·.2.1)) ∧ ∀ b, gv.ownBlock = some b → w.heap.size ≤ b := by
  have c5 := h.c5
  have hfz := h.lt
  have hcb : cb < w.heap.size := hfz cb (by simp [fp])
  have t0 : (key.size : Int) + val.size ≤ bud := by omega
  have td : decide ((bud : Int) < (key.size : Int) + val.size) = false := by simp; omega
  have hoff : Off (Value.slice (some ⟨w.heap.size, 0, none⟩) 1 1) (· ∈ fp cb mb l) := by
    intro b hb hin
    simp [Value.ownBlock] at hb
    subst hb
    exact Nat.lt_irrefl _ (hfz _ hin)
  have HH := Lib.hid (And.intro hfz hoff)
  clear hfz hoff
  go_enter Try.func9, Try.ntmps9
  go_wp2_with fail
  refine (drop_any cb mb bud l _ [key] _ (h.alloc _) (strSl_one _ _ _) (fun _ => HH.out.2) (by simp) (by omega)).mono ?_
  rintro e w1 ⟨⟨n, rfl⟩, hl1, hf1⟩
  clear c5
  replace hl1 : Lru w1 cb mb bud (woI key l) := hl1
  obtain ⟨m, hm, hfind⟩ := hl1.map
  have c4 := hl1.c4
  have c5 := hl1.c5
  have c6 := hl1.c6
  have hkeys := hl1.keys
  have hmb := mb_not hl1
  have hlt1 := hl1.lt
  have hring := hl1.ring
  have hcb1 : cb < w1.heap.size := hlt1 cb (by simp [fp])
  have hmb1 : mb < w1.heap.size := hlt1 mb (by simp [fp])
  have hs1 : w.heap.size + 1 ≤ w1.heap.size := by have := hf1.size; simpa using this
  have Hfind := Lib.hid (find_upd (x := (w1.heap.size, (key, val))) hfind rfl)
  have Hlt1 := Lib.hid hlt1
  have Hxn := Lib.hid (show w1.heap.size ∉ cb :: (woI key l).map (·.1) from fun hin => Nat.lt_irrefl _ (hring.lt _ hin))
  have httw := tot_woI_le key l
  clear hfind hlt1
  go_wp2_with (first | (at_mapUpdate; refine wpList_update_g (hm.frm ((Frm.refl (fun _ => False) _).alloc _) (fun h => h)) Try.underlying53 Try.underlying9 key (.pointer (some ⟨w1.heap.size, 0, none⟩)) rfl _ _ _ rfl rfl rfl rfl ?_; intro w2 hm2 hf2))
  have hcbm : cb ≠ mb := fun e => hmb (e ▸ List.mem_cons_self)
  have hxm : w1.heap.size ≠ mb := by omega
  have hA : ∀ b o, b < w1.heap.size → b ≠ mb → w2.cell? ⟨b, o, none⟩ = w1.cell? ⟨b, o, none⟩ := fun b o hb hne =>
    (hf2.cell (p := ⟨b, o, none⟩) (by simp; omega) hne).trans (World.cell?_alloc_lt _ _ _ hb)
  have hX : ∀ o, w2.cell? ⟨w1.heap.size, o, none⟩ = #[Value.string key, .string val, .pointer none, .pointer none][o]? := fun o =>
    (hf2.cell (p := ⟨w1.heap.size, o, none⟩) (by simp) hxm).trans (World.cell?_alloc_new _ _ _ _)
  have hXz : Fz w2 w1.heap.size := (Fz.new _ _ _).frm hf2 hxm
  have hring2 : Ring w2 cb (woI key l) := (hring.frm ((Frm.refl (fun _ => False) w1).alloc _) (fun _ _ h => h)).frm hf2 (fun b hb e => hmb (e ▸ hb))
  have hU := use_lru cb mb bud _ (woI key l) (w1.heap.size, (key, val)) _ w2 hring2 ((hA cb 4 hcb1 hcbm).trans c4) ((hA cb 5 hcb1 hcbm).trans c5) ((hA cb 6 hcb1 hcbm).trans c6) hm2 hmb hxm.symm Hxn.out (hX 0) (hX 1) _ _ (hX 2) (hX 3) hXz
  have hfa : Frm (· ∈ fp cb mb l) w w2 := by
    have e1 : Frm (· ∈ fp cb mb l) w w1 := ((Frm.refl _ w).alloc _).trans' hf1 (fun _ _ h => h)
    exact (e1.alloc _).trans' (hf2.mono (T := (· ∈ fp cb mb l)) (fun b _ hb => by subst hb; simp [fp])) (fun _ _ h => h)
  clear hA hX hXz hring2 hm hm2 c4 c5 c6 hring hmb hl1 hf1 hf2
  refine hU.mono ?_
  rintro e w3 ⟨rfl, hr3, c4, c5, c6, hm3, hf3, z6⟩
  clear hU
  have hfb : Frm (· ∈ fp cb mb l) w w3 := hfa.trans' (hf3.mono (T := fun b => b ∈ fp cb mb l ∨ w.heap.size ≤ b) (fun b _ hb => by
    rcases List.mem_cons.1 hb with rfl | hb
    · right; show w.heap.size ≤ w1.heap.size; omega
    · left; exact fp_sub (sub_woI key l) b (List.mem_cons_of_mem _ hb))) (fun b hb h => h.resolve_right (by omega))
  have hlt3 := hr3.lt w1.heap.size (List.mem_cons_of_mem _ List.mem_cons_self)
  clear hfa hf3 hmb1 hcbm hxm
  have ta : ((tot (kvs (woI key l)) : Nat) : Int) + (↑key.size + ↑val.size) = ((tot (kvs ((w1.heap.size, (key, val)) :: woI key l)) : Nat) : Int) := by simp [kvs, tot, wt]; omega
  have Ta := Lib.hid ta
  clear ta
  have tb : ((tot (kvs (woI key l)) : Nat) : Int) ≤ bud := by omega
  have hclose : Lru (w3.setCell ⟨cb, 6, none⟩ (.int .i64 (↑(tot (kvs (woI key l))) + (↑key.size + ↑val.size)))) cb mb bud ((w1.heap.size, (key, val)) :: woI key l) :=
    lru_close hr3 c4 c5 c6 hm3 Hfind.out (by rw [List.map_cons, List.nodup_cons]; exact ⟨not_mem_woI, hkeys⟩) Ta.out
  have hfc : Frm (· ∈ fp cb mb l) w (w3.setCell ⟨cb, 6, none⟩ (.int .i64 (↑(tot (kvs (woI key l))) + (↑key.size + ↑val.size)))) := hfb.setCell (fun _ => by simp [fp]) _
  obtain ⟨L0, hL0⟩ : ∃ L0, L0 = (w1.heap.size, (key, val)) :: woI key l := ⟨_, rfl⟩
  have hltB := hclose.lt
  rw [← hL0] at hclose hltB
  have HltB := Lib.hid hltB
  have Hlen : L0.length ≤ 1000001 := by rw [hL0]; have := List.length_filter_le (fun x : Nat × KV => !decide (x.2.1 = key)) l; simp [woI]; omega
  have hT0 : tot (kvs L0) ≤ 4611686018427387904 := by rw [hL0]; simp [kvs, tot, wt] at httw ht ⊢; omega
  have HL0 := Lib.hid hL0
  clear hL0 hltB Hfind hkeys Ta hm3 hr3
  obtain ⟨i0, hi, hz0, hz1, hz2⟩ := info_parts infoS
  go_wp2_with fail
  clear c4 c5 c6 z6
  generalize hW0 : w3.setCell ⟨cb, 6, none⟩ (.int .i64 (↑(tot (kvs (woI key l))) + (↑key.size + ↑val.size))) = W0 at hclose hfc HltB ⊢
  clear hW0
  go_loopg [9] (L0.length + 1) (fun g gv wr => ∃ cur rest, cur.length < g ∧ L0 = cur ++ rest ∧ evictI bud cur = evictI bud L0 ∧ Lru wr cb mb bud cur ∧ wr.ownsRow W0.heap.size 9 1 gv rest.length (rest.reverse.map fun x => .string x.2.1) ∧ Frm (· ∈ fp cb mb l) w wr ∧ W0.heap.size ≤ wr.heap.size)
  case atStart => exact ⟨L0, [], by omega, by simp, rfl, hclose, World.ownsRow_nil _ _ _ _, hfc, Nat.le_refl _⟩
  case round =>
    obtain ⟨cur, rest, hcl, hL, hev, hl, hown, hf, hB⟩ := hrel
    have c5 := hl.c5
    have c6 := hl.c6
    have HL := Lib.hid hL
    have Hev := Lib.hid hev
    clear hL hev
    by_cases hgt : bud < tot (kvs cur)
    · have hgt' : (bud : Int) < (tot (kvs cur) : Nat) := by omega
      obtain ⟨c, x, rfl⟩ : ∃ c x, cur = c ++ [x] := by
        rcases List.eq_nil_or_concat cur with h | ⟨c, x, h⟩
        · subst h; simp [kvs, tot] at hgt
        · exact ⟨c, x, by simpa using h⟩
      obtain ⟨e1, e2⟩ := hl.last
      have hrl : rest.length + (c.length + 1) = L0.length := by rw [HL.out]; simp; omega
      have hrl' : rest.length ≤ 1000000 := by omega
      clear hrl
      go_wp2_with fail
      go_quiet (fail)
      go_wp2_with fail
      refine (eldest_any cb x.1 _ (by exact e1)).mono ?_
      rintro e w' ⟨rfl, rfl⟩
      have q1 : ∀ j u, [Value.string x.2.1][j]? = some u → ((wr.drewN nq).alloc (.cells #[.string x.2.1] 9)).cell? ((⟨wr.heap.size, 0, none⟩ : Addr).add j) = some u := cell_one_new (wr.drewN nq) _ _
      have q2 : ∀ u ∈ [Value.string x.2.1], u.oneCell' = true := by simp [Value.oneCell']
      have q3 : rest.length + 1 ≤ maxLen := by unfold maxLen; omega
      have q4 : (rest.length + 1) * 16 ≤ 140737488355328 := by omega
      have q5 : W0.heap.size ≤ ((wr.drewN nq).alloc (.cells #[.string x.2.1] 9)).heap.size := by rw [World.size_alloc]; exact Nat.le_succ_of_le hB
      have Q := Lib.hid (And.intro q1 (And.intro q2 (And.intro q3 (And.intro q4 q5))))
      clear q1 q2 q3 q4 q5
      go_wp2_with (first | (at_builtin; refine wpList_append_own _ rfl _ _ 27 rfl W0.heap.size 9 i0 (.string ⟨#[]⟩) 1 16 Try.underlying27 hi hz0 hz1 hz2 rfl (by decide) _ _ _ rfl (hown.alloc _) ⟨wr.heap.size, 0, none⟩ 1 1 [.string x.2.1] rfl rfl Q.out.1 Q.out.2.1 Q.out.2.2.1 Q.out.2.2.2.1 Q.out.2.2.2.2 ?_; intro v' wa hown' hgrow _))
      have hF1 : Frm (fun b => W0.heap.size ≤ b) (wr.drewN nq) wa := ((Frm.refl (fun b => W0.heap.size ≤ b) (wr.drewN nq)).alloc _).trans' (Frm.of_grown (S := fun b => W0.heap.size ≤ b) hgrow (fun k hk _ => (hown.lt k hk).1)) (fun _ _ h => h)
      have hfpc : ∀ b ∈ fp cb mb (c ++ [x]), ¬ W0.heap.size ≤ b := fun b hb h' => by
        have := HltB.out b (fp_sub (l := L0) (by rw [HL.out]; intro y hy; simp at hy ⊢; grind) b hb)
        omega
      have hla : Lru wa cb mb bud (c ++ [x]) := (hl.frm (S := fun _ => False) ((Frm.refl _ _).drewN nq) (fun _ _ h => h)).frm hF1 hfpc
      obtain ⟨a1, a2⟩ := hla.last
      have hfra : Frm (· ∈ fp cb mb l) w wa := (hf.drewN nq).trans' hF1 (fun b hb h' => absurd (Nat.le_trans hfc.size h') (by omega))
      have hBa : W0.heap.size ≤ wa.heap.size := Nat.le_trans hB (by simpa using hF1.size)
      have Hfpc := Lib.hid hfpc
      clear hown hgrow hF1 hl hf hB e1 e2 c5 c6 hfpc
      go_wp2_with fail
      refine (eldest_any cb x.1 _ (by exact a1)).mono ?_
      rintro e w' ⟨rfl, rfl⟩
      have hoff : Off (Value.slice (some ⟨wa.heap.size, 0, none⟩) 1 1) (· ∈ fp cb mb (c ++ [x])) := by
        intro b hb hin
        simp [Value.ownBlock] at hb
        subst hb
        exact Nat.lt_irrefl _ (hla.lt _ hin)
      have hT : tot (kvs (c ++ [x])) ≤ 4611686018427387904 := by
        have e3 : kvs L0 = kvs (c ++ [x]) ++ kvs rest := by rw [HL.out]; simp [kvs]
        have e4 := congrArg tot e3
        rw [tot_append] at e4
        omega
      have hwl : woI x.2.1 (c ++ [x]) = c := woI_last hla.keys
      have Hwl := Lib.hid hwl
      clear hwl
      go_wp2_with fail
      refine (drop_any cb mb bud (c ++ [x]) _ [x.2.1] _ (hla.alloc _) (strSl_one _ _ _) (fun _ => hoff) (by simp) hT).mono ?_
      rintro e w4 ⟨⟨n4, rfl⟩, hl4, hf4⟩
      replace hl4 : Lru w4 cb mb bud (woI x.2.1 (c ++ [x])) := hl4
      rw [Hwl.out] at hl4
      have hF4 : Frm (· ∈ fp cb mb (c ++ [x])) wa w4 := ((Frm.refl _ _).alloc _).trans' hf4 (fun _ _ h => h)
      have hown4 : w4.ownsRow W0.heap.size 9 1 v' (rest.length + 1) (List.map (fun x => Value.string x.2.1) rest.reverse ++ [Value.string x.2.1]) := owns_frm hown' hF4 (fun b hb hin => Hfpc.out b hin hb)
      have hf4' : Frm (· ∈ fp cb mb l) w w4 := hfra.trans' (hF4.mono (T := fun b => b ∈ fp cb mb l ∨ w.heap.size ≤ b) (fun b hb hin => by
        have := fp_sub (l := L0) (l' := c ++ [x]) (by rw [HL.out]; intro y hy; simp at hy ⊢; grind) b hin
        rw [HL0.out] at this
        simp only [fp, List.map_cons, List.mem_cons] at this ⊢
        rcases this with h | h | h | h
        · exact .inl (.inl h)
        · exact .inl (.inr (.inl h))
        · right; show w.heap.size ≤ b; omega
        · have := fp_sub (cb := cb) (mb := mb) (sub_woI key l) b (by simp only [fp, List.mem_cons]; exact .inr (.inr h))
          left; simpa [fp] using this)) (fun b hb h => h.resolve_right (by omega))
      have hB4 : W0.heap.size ≤ w4.heap.size := Nat.le_trans hBa hF4.size
      clear hown' hla a1 a2 hfra hf4 hF4 hoff
      go_wp2_with fail
      go_roundg (c.length + 1)
      case measure => simp at hcl; omega
      case rel => exact ⟨c, x :: rest, Nat.lt_succ_self _, by rw [HL.out]; simp, by rw [← Hev.out, evictI_snoc hgt], hl4, by simpa using hown4, hf4', hB4⟩
    · have hgt' : decide ((bud : Int) < (tot (kvs cur) : Nat)) = false := by simp; omega
      go_wp2_with fail
      go_quiet (fail)
      go_wp2_with fail
      go_ret2
      have hfit' : evictI bud L0 = cur := by rw [← Hev.out]; exact evictI_fits (by omega)
      obtain ⟨g1, g2⟩ := strSl_of_owns (ks := rest.reverse.map (·.2.1)) (by simpa [Function.comp_def] using hown)
      refine ⟨w1.heap.size, u9, rfl, by omega, ?_, hf.drewN _, ?_, fun b hb => ?_⟩
      · rw [← HL0.out, hfit']; exact hl.frm (S := fun _ => False) ((Frm.refl _ _).drewN _) (fun _ _ h => h)
      · rw [← HL0.out, hfit', HL.out, List.drop_left]
        exact g1.frm (S := fun _ => False) ((Frm.refl _ _).drewN _) (fun _ _ _ h => h)
      · have := g2 b hb; have := hfc.size; omega
end Go.Proofs.Yteecdpdidhjdlaa
