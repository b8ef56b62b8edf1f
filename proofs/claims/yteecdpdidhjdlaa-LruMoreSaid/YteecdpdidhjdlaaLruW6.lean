/- A text of a claim's proof: see the last text of the claim. -/
import Derived.Test.YteecdpdidhjdlaaLruW5
set_option linter.all false
namespace Go.Proofs.Yteecdpdidhjdlaa
open Go.RowKit Go.Tk Go.Lru

theorem bytes_any (cb mb bud : Nat) (l : List (Nat × KV)) (w : World) (h : Lru w cb mb bud l) :
    Calls Try.prog 21 #[.pointer (some ⟨cb, 0, none⟩)] w fun e w' => e = .returned (.int .i64 (tot (kvs l))) ∧ w = w' := by
  have c6 := h.c6
  go_enter Try.func21, Try.ntmps21
  go_wp2
  go_ret
  exact ⟨rfl, rfl⟩

theorem put_big (cb mb bud : Nat) (l : List (Nat × KV)) (key val : ByteArray) (w : World) (h : Lru w cb mb bud l) (hk : key.size ≤ 2305843009213693952) (hv : val.size ≤ 2305843009213693952) (hbig : bud < key.size + val.size) (hb : bud ≤ 2305843009213693952) :
    Calls Try.prog 9 #[.pointer (some ⟨cb, 0, none⟩), .string key, .string val] w fun e w' => e = .returned (.tuple #[.slice none 0 0, .int .i64 70]) ∧ w = w' := by
  have c5 := h.c5
  have t0 : (bud : Int) < (key.size : Int) + val.size := by omega
  go_enter Try.func9, Try.ntmps9
  go_wp2_with fail
  go_ret2
  exact ⟨rfl, rfl⟩

theorem get_miss (cb mb bud : Nat) (l : List (Nat × KV)) (key : ByteArray) (w : World) (h : Lru w cb mb bud l) (hf : findI key l = none) :
    Calls Try.prog 20 #[.pointer (some ⟨cb, 0, none⟩), .string key] w fun e w' => e = .returned (.tuple #[.string ⟨#[]⟩, .bool false]) ∧ w = w' := by
  obtain ⟨m, hm, hfind⟩ := h.map
  have c4 := h.c4
  have ha : assoc key m = none := by rw [hfind, hf]; rfl
  clear hfind hf
  have hrun := hm.run_lookup Try.underlying53 Try.underlying9 (zp54 w) key
  rw [ha] at hrun
  replace hrun : (Instr.lookup 53 (.map (some mb)) (.string key) false).run Try.prog w = .ok (.pointer none) w := hrun
  go_enter Try.func20, Try.ntmps20
  go_wp2_with fail
  go_ret2
  exact ⟨rfl, rfl⟩

set_option maxRecDepth 100000 in
set_option maxHeartbeats 400000 in
theorem get_hit (cb mb bud : Nat) (l : List (Nat × KV)) (key : ByteArray) (x : Nat × KV) (w : World) (h : Lru w cb mb bud l) (hf : findI key l = some x) :
    Calls Try.prog 20 #[.pointer (some ⟨cb, 0, none⟩), .string key] w fun e w' => e = .returned (.tuple #[.string x.2.2, .bool true]) ∧ Lru w' cb mb bud (x :: woI key l) ∧ Frm (· ∈ fp cb mb l) w w' := by
  obtain ⟨m, hm, hfind⟩ := h.map
  have c4 := h.c4
  have ha : assoc key m = some (.pointer (some ⟨x.1, 0, none⟩)) := by rw [hfind, hf]; rfl
  obtain ⟨hxk, l1, l2, rfl, hwo⟩ := findI_some h.keys hf
  have Hf := Lib.hid (And.intro hfind (And.intro hxk hwo))
  clear hfind hf hxk hwo
  have hrun := hm.run_lookup Try.underlying53 Try.underlying9 (zp54 w) key
  rw [ha] at hrun
  replace hrun : (Instr.lookup 53 (.map (some mb)) (.string key) false).run Try.prog w = .ok (.pointer (some ⟨x.1, 0, none⟩)) w := hrun
  go_enter Try.func20, Try.ntmps20
  go_wp2_with fail
  refine (loose_lru cb mb bud l1 l2 x m _ h hm).mono ?_
  rintro e w1 ⟨rfl, hr1, c41, c51, c61, x01, x11, hm1, hf1, z1, ⟨u1, g1⟩, ⟨u2, g2⟩, gz⟩
  have hmb := mb_not h
  have hnd := h.ring.nodup
  have hkeys := h.keys
  have hcb : cb < w1.heap.size := hr1.lt cb List.mem_cons_self
  have hnd' := nd_parts (by rw [List.map_append, List.map_cons] at hnd; exact hnd)
  have hS : ∀ b ∈ cb :: (l1 ++ l2).map (·.1), b ∈ cb :: (l1 ++ x :: l2).map (·.1) := by
    intro b hb
    simp only [List.map_append, List.map_cons, List.mem_cons, List.mem_append] at hb ⊢
    grind
  have hmx : mb ≠ x.1 := fun e => hmb (e ▸ List.mem_cons_of_mem _ (List.mem_map.2 ⟨x, by simp, rfl⟩))
  have hxn : x.1 ∉ cb :: (l1 ++ l2).map (·.1) := by
    obtain ⟨_, _, n3, n4, _⟩ := hnd'
    simp only [List.map_append, List.mem_cons, List.mem_append] at n3 ⊢
    grind
  have HH := Lib.hid (And.intro hmb (And.intro hkeys (And.intro hmx (And.intro hxn hS))))
  clear hmb hkeys hnd hnd' hmx hxn hS c4 ha hrun
  go_wp2_with fail
  refine (use_lru cb mb bud _ (l1 ++ l2) x m w1 hr1 c41 c51 c61 hm1 (fun h => HH.out.1 (HH.out.2.2.2.2 _ h)) HH.out.2.2.1 HH.out.2.2.2.1 x01 x11 u1 u2 g1 g2 gz).mono ?_
  rintro e w2 ⟨rfl, hr2, c42, c52, c62, hm2, hf2, z2⟩
  have x12 := hr2.val x List.mem_cons_self
  go_wp2_with fail
  go_ret2
  refine ⟨rfl, ?_, ?_⟩
  · rw [Hf.out.2.2]
    have ht : tot (kvs (x :: (l1 ++ l2))) = tot (kvs (l1 ++ x :: l2)) := by simp [kvs, tot]; omega
    refine ⟨hr2, c42, c52, by rw [ht]; exact c62, ⟨m, hm2, fun k => ?_⟩, ?_⟩
    · rw [Hf.out.1 k]
      congr 1
      have hk := HH.out.2.1
      clear HH
      unfold findI
      simp only [List.find?_cons, List.find?_append]
      cases hxk : decide (x.2.1 = k) with
      | false => rfl
      | true =>
        have hxk : x.2.1 = k := by simpa using hxk
        have : List.find? (fun x : Nat × KV => decide (x.2.1 = k)) l1 = none := by
          rw [List.find?_eq_none]
          intro y hy
          simp only [List.map_append, List.map_cons, List.nodup_append, List.mem_map, List.mem_cons] at hk
          simp
          exact fun e => hk.2.2 y.2.1 ⟨y, hy, rfl⟩ x.2.1 (.inl rfl) (e.trans hxk.symm)
        simp [this]
    · have hk := HH.out.2.1
      simp only [List.map_append, List.map_cons, List.nodup_append, List.nodup_cons, List.mem_append] at hk ⊢
      grind
  · refine hf1.trans' (hf2.mono (T := (· ∈ fp cb mb (l1 ++ x :: l2))) (fun b _ hb => ?_)) (fun _ _ h => h)
    rcases List.mem_cons.1 hb with rfl | hb
    · exact List.mem_cons_of_mem _ (List.mem_cons_of_mem _ (List.mem_map.2 ⟨x, by simp, rfl⟩))
    · exact List.mem_cons_of_mem _ (HH.out.2.2.2.2 _ hb)
end Go.Proofs.Yteecdpdidhjdlaa
