/- A text of a claim's proof: see the last text of the claim. -/
import Derived.Test.YteecdpdidhjdlaaLruW1
import Derived.Lib.Hide
import Derived.StillTailTactics
set_option linter.all false
namespace Go.Proofs.Yteecdpdidhjdlaa
open Go.RowKit Go.Tk Go.Lru
theorem zp54 (w : World) : (zeroValue 54).run Try.prog w = .ok (.pointer none) w := by kernel_rfl

theorem dropI_take {ks : List ByteArray} {k : Nat} (h : k < ks.length) (l : List (Nat × KV)) : dropI (ks.take (k + 1)) l = woI ks[k] (dropI (ks.take k) l) := by
  unfold dropI
  rw [List.take_succ_eq_append_getElem h, List.foldl_append]; rfl
theorem tot_woI_le (k : ByteArray) (l : List (Nat × KV)) : tot (kvs (woI k l)) ≤ tot (kvs l) := by
  induction l with
  | nil => exact Nat.le_refl _
  | cons x l ih =>
    unfold woI kvs at *
    rw [List.filter_cons]
    split <;> simp only [List.map_cons, tot_cons] <;> omega
theorem tot_dropI_le (ks : List ByteArray) (l : List (Nat × KV)) : tot (kvs (dropI ks l)) ≤ tot (kvs l) := by
  induction ks generalizing l with
  | nil => exact Nat.le_refl _
  | cons k ks ih => exact Nat.le_trans (ih (woI k l)) (tot_woI_le k l)
theorem sub_woI (k : ByteArray) (l : List (Nat × KV)) : ∀ x ∈ woI k l, x ∈ l := fun x hx => (List.mem_filter.1 hx).1
theorem sub_dropI (ks : List ByteArray) (l : List (Nat × KV)) : ∀ x ∈ dropI ks l, x ∈ l := by
  induction ks generalizing l with
  | nil => exact fun _ h => h
  | cons k ks ih => exact fun x hx => sub_woI k l x (ih _ x hx)
theorem fp_sub {cb mb : Nat} {l l' : List (Nat × KV)} (h : ∀ x ∈ l', x ∈ l) : ∀ b, b ∈ fp cb mb l' → b ∈ fp cb mb l := by
  intro b hb
  simp only [fp, List.mem_cons, List.mem_map] at hb ⊢
  rcases hb with hb | hb | ⟨x, hx, e⟩
  · exact .inl hb
  · exact .inr (.inl hb)
  · exact .inr (.inr ⟨x, h x hx, e⟩)

theorem loose_lru (cb mb bud : Nat) (l1 l2 : List (Nat × KV)) (x : Nat × KV) (m : List (ByteArray × Value)) (w : World) (h : Lru w cb mb bud (l1 ++ x :: l2)) (hm : GMap strKy w mb m) :
    Calls Try.prog 23 #[.pointer (some ⟨cb, 0, none⟩), .pointer (some ⟨x.1, 0, none⟩)] w fun e w1 => e = .returned (.tuple #[]) ∧
      Ring w1 cb (l1 ++ l2) ∧ w1.cell? ⟨cb, 4, none⟩ = some (.map (some mb)) ∧ w1.cell? ⟨cb, 5, none⟩ = some (.int .i64 bud) ∧ w1.cell? ⟨cb, 6, none⟩ = some (.int .i64 (tot (kvs (l1 ++ x :: l2)))) ∧
      w1.cell? ⟨x.1, 0, none⟩ = some (.string x.2.1) ∧ w1.cell? ⟨x.1, 1, none⟩ = some (.string x.2.2) ∧ GMap strKy w1 mb m ∧ Frm (· ∈ fp cb mb (l1 ++ x :: l2)) w w1 ∧ w1.frozen? ⟨cb, 6, none⟩ = false ∧ (∃ u, w1.cell? ⟨x.1, 2, none⟩ = some u) ∧ (∃ u, w1.cell? ⟨x.1, 3, none⟩ = some u) ∧ Fz w1 x.1 := by
  obtain ⟨⟨p1, p2⟩, ⟨n1, n2⟩, _⟩ := h.ring.loose rfl rfl
  refine (loose_any cb x.1 _ _ _ _ w p2 n1 p1 n2 ((h.ring.fz _ ?_).frozen 3) ((h.ring.fz _ ?_).frozen 2)).mono ?_
  · have := getLastD_mem (l1.map (·.1)) cb
    simp only [List.map_append, List.mem_cons, List.mem_append] at this ⊢
    grind
  · have := headD_mem (l2.map (·.1)) cb
    simp only [List.map_append, List.map_cons, List.mem_cons, List.mem_append] at this ⊢
    grind
  · rintro e w1 ⟨rfl, hw1⟩
    exact ⟨rfl, loose_keeps h hm rfl rfl hw1⟩

set_option maxRecDepth 100000 in
set_option maxHeartbeats 400000 in
theorem drop_any (cb mb bud : Nat) (l : List (Nat × KV)) (v : Value) (ks : List ByteArray) (w : World) (h : Lru w cb mb bud l) (hv : StrSl w v ks) (ho : ks ≠ [] → Off v (· ∈ fp cb mb l))
    (hks : ks.length ≤ 9223372036854775807) (ht : tot (kvs l) ≤ 4611686018427387904) :
    Calls Try.prog 8 #[.pointer (some ⟨cb, 0, none⟩), v] w fun e w' => (∃ n, e = .returned (.int .i64 n)) ∧ Lru w' cb mb bud (dropI ks l) ∧ Frm (· ∈ fp cb mb l) w w' := by
  obtain ⟨ao, cap, rfl, _, hc⟩ := hv
  go_enter Try.func8, Try.ntmps8
  go_wp2
  go_loopw [5, 13] (fun n i wr => ∃ (k : Nat) (nn : Int), k ≤ ks.length ∧ 0 ≤ nn ∧ nn ≤ k ∧ i = .int .i64 k ∧ n = .int .i64 nn ∧ Lru wr cb mb bud (dropI (ks.take k) l) ∧ Frm (· ∈ fp cb mb l) w wr) (fun _ i _ => ks.length - (intOf i).toNat)
  case atStart => exact ⟨0, 0, Nat.zero_le _, Int.le_refl _, Int.le_refl _, rfl, rfl, by simpa [dropI] using h, Frm.refl _ _⟩
  case round =>
    obtain ⟨k, nn, hk, h0, h1, rfl, rfl, hl, hf⟩ := hrel
    by_cases hlt : k < ks.length
    · obtain ⟨b, off, rfl, hcell⟩ := hc k hlt
      have hcell' := (hf.cell (p := ⟨b, off + k, none⟩) (World.block_lt_of_cell? _ _ hcell) (ho (by rintro rfl; simp at hlt) b rfl)).trans hcell
      clear hcell hc
      obtain ⟨m, hm, hfind⟩ := hl.map
      have c4 := hl.c4
      have hdt := dropI_take hlt l
      have htt := Nat.le_trans (tot_dropI_le (ks.take k) l) ht
      have hsub := sub_dropI (ks.take k) l
      generalize hks' : ks[k] = s at hcell' hdt
      generalize hL : dropI (ks.take k) l = L at hl hfind hdt htt hsub
      clear hks' hL
      have Hdt := Lib.hid hdt
      clear hdt
      cases hfi : findI s L with
      | none =>
        have ha : assoc s m = none := by rw [hfind, hfi]; rfl
        have hw := findI_none hfi
        have Hw := Lib.hid hw
        clear hfi hw hfind
        go_wp2_with (first | (at_lookup; refine wpList_lookup_g hm Try.underlying53 Try.underlying9 zp54 s rfl _ _ rfl rfl rfl ?_))
        exact ⟨⟨k + 1, nn, by omega, h0, by omega, by go_num, rfl, by rw [Hdt.out, Hw.out]; exact hl, hf⟩, by simp [intOf]; omega⟩
      | some x =>
        have ha : assoc s m = some (.pointer (some ⟨x.1, 0, none⟩)) := by rw [hfind, hfi]; rfl
        obtain ⟨hxs, l1, l2, rfl, hwo⟩ := findI_some hl.keys hfi
        have Hwo := Lib.hid hwo
        have Hxs := Lib.hid hxs
        have Hdel := Lib.hid (find_del (k := s) hfind)
        have hkeys := hl.keys
        have hmb := mb_not hl
        have Htw := Lib.hid (show tot (kvs (l1 ++ x :: l2)) = tot (kvs (l1 ++ l2)) + (x.2.1.size + x.2.2.size) by simp [kvs, tot, wt]; omega)
        have hb1 : x.2.1.size + x.2.2.size ≤ tot (kvs (l1 ++ x :: l2)) := by have := Htw.out; omega
        clear hwo hfi hxs hfind
        go_wp2_with (first | (at_lookup; refine wpList_lookup_g hm Try.underlying53 Try.underlying9 zp54 s rfl _ _ rfl rfl rfl ?_) | (go_at_call 23; refine (loose_lru cb mb bud l1 l2 x m _ hl hm).mono ?_; rintro e w1 ⟨rfl, hr1, c41, c51, c61, x01, x11, hm1, hf1, z1, _⟩; clear c4 hcell' hm) | (at_delete; refine wpList_delete_g hm1 Try.underlying53 Try.underlying9 s 9 rfl _ _ rfl rfl rfl ?_; intro w2 hm2 hf2))
        have hcbn : cb ≠ mb := fun e => hmb (e ▸ List.mem_cons_self)
        have hxn : x.1 ≠ mb := fun e => hmb (e ▸ List.mem_cons_of_mem _ (List.mem_map.2 ⟨x, by simp, rfl⟩))
        have hlt1 := hr1.lt
        have hr2 := hr1.frm hf2 (fun b hb e => hmb (by subst e; simp only [List.map_append, List.map_cons, List.mem_cons, List.mem_append] at hb ⊢; grind))
        have c42 := (hf2.cell (p := ⟨cb, 4, none⟩) (hlt1 cb List.mem_cons_self) hcbn).trans c41
        have c52 := (hf2.cell (p := ⟨cb, 5, none⟩) (hlt1 cb List.mem_cons_self) hcbn).trans c51
        have c62 := (hf2.cell (p := ⟨cb, 6, none⟩) (hlt1 cb List.mem_cons_self) hcbn).trans c61
        have x02 := (hf2.cell (p := ⟨x.1, 0, none⟩) (World.block_lt_of_cell? _ _ x01) hxn).trans x01
        have x12 := (hf2.cell (p := ⟨x.1, 1, none⟩) (World.block_lt_of_cell? _ _ x11) hxn).trans x11
        have z2 := (hf2.frozen (p := ⟨cb, 6, none⟩) (hlt1 cb List.mem_cons_self) hcbn).trans z1
        clear c41 c51 c61 x01 x11 z1 hr1 hlt1 hm1
        have hF : Frm (· ∈ fp cb mb l) w w2 := (hf.trans' (hf1.mono (fun b _ hb => fp_sub hsub b hb)) (fun _ _ h => h)).trans' (hf2.mono (T := (· ∈ fp cb mb l)) (fun b _ hb => by subst hb; simp [fp])) (fun _ _ h => h)
        clear hf hf1 hf2 hl h ha hmb hcbn hxn hsub
        go_wp2_with fail
        go_still_tail 18, (by kernel_rfl)
        go_wp2
        have hclose : Lru (w2.setCell ⟨cb, 6, none⟩ (.int .i64 (↑(tot (kvs (l1 ++ x :: l2))) - (↑x.2.1.size + ↑x.2.2.size)))) cb mb bud (l1 ++ l2) :=
          lru_close hr2 c42 c52 c62 hm2 (by have := Hdel.out; rw [Hwo.out] at this; exact this) (by simp only [List.map_append, List.map_cons, List.nodup_append, List.nodup_cons] at hkeys ⊢; grind) (by have := Htw.out; omega)
        exact ⟨⟨k + 1, nn + 1, by omega, by omega, by omega, by go_num, rfl, by rw [Hdt.out, Hwo.out]; exact hclose.drew, (hF.setCell (fun _ => by simp [fp]) _).drew⟩, by simp [intOf]; omega⟩
    · have : k = ks.length := by omega
      subst this
      go_wp2
      go_ret
      rw [List.take_length] at hl
      exact ⟨⟨_, rfl⟩, hl, hf⟩
end Go.Proofs.Yteecdpdidhjdlaa
