/- A text of a claim's proof: see the last text of the claim. -/
import Derived.Test.YteecdpdidhjdlaaLruW7
set_option linter.all false
namespace Go.Proofs.Yteecdpdidhjdlaa
open Go.RowKit Go.Tk Go.Lru

abbrev kA : KV := (⟨#[97]⟩, ⟨#[49]⟩)
abbrev kB : KV := (⟨#[98]⟩, ⟨#[50]⟩)
abbrev kC : KV := (⟨#[99]⟩, ⟨#[51]⟩)
abbrev kD : KV := (⟨#[100]⟩, ⟨#[52, 53]⟩)

theorem strSl_two (w : World) (s t : ByteArray) (T : TypeId) : StrSl (w.alloc (.cells #[.string s, .string t] T)) (.slice (some ⟨w.heap.size, 0, none⟩) 2 2) [s, t] :=
  ⟨_, 2, rfl, Nat.le_refl _, fun i hi => ⟨w.heap.size, 0, rfl, by
    have hi' : i < 2 := hi
    match i, hi' with
    | 0, _ => simp
    | 1, _ => simp⟩⟩

set_option maxRecDepth 100000 in
set_option maxHeartbeats 1000000 in
theorem shown_any (w : World) : Calls Try.prog 5 #[] w fun e w' => e = .returned (.bool true) ∧ Frm (fun _ => False) w w' := by
  go_enter Try.func5, Try.ntmps5
  go_wp2_with fail
  refine (new_lru 6 _).mono ?_
  rintro e w1 ⟨cb, mb, rfl, hmb, hcb, h1, f1⟩
  go_wp2_with fail
  refine (put_ok cb mb 6 [] _ _ w1 h1 (by decide) (by decide) (by decide) (by simp)).mono ?_
  rintro e w2 ⟨x1, g1, rfl, hx1, h2, f2, sg1, og1⟩
  rw [evictI_fits (by show tot [kA] ≤ 6; decide)] at h2
  replace h2 : Lru w2 cb mb 6 [(x1, kA)] := h2
  have F2 : Frm (fun _ => False) w w2 := f1.trans' f2 (fun b hb h => by simp [fp] at h; omega)
  have s1 := f1.size
  clear sg1 og1 h1 f2 f1
  go_wp2_with fail
  refine (put_ok cb mb 6 [(x1, kA)] _ _ w2 h2 (by decide) (by show tot [kA] ≤ 6; decide) (by decide) (by simp)).mono ?_
  rintro e w3 ⟨x2, g2, rfl, hx2, h3, f3, sg1, og1⟩
  rw [evictI_fits (by show tot [kB, kA] ≤ 6; decide)] at h3
  replace h3 : Lru w3 cb mb 6 [(x2, kB), (x1, kA)] := h3
  have F3 : Frm (fun _ => False) w w3 := F2.trans' f3 (fun b hb h => by simp [fp] at h; omega)
  have s2 := F2.size
  clear sg1 og1 h2 f3 F2
  go_wp2_with fail
  refine (put_ok cb mb 6 [(x2, kB), (x1, kA)] _ _ w3 h3 (by decide) (by show tot [kB, kA] ≤ 6; decide) (by decide) (by simp)).mono ?_
  rintro e w4 ⟨x3, g3, rfl, hx3, h4, f4, sg1, og1⟩
  rw [evictI_fits (by show tot [kC, kB, kA] ≤ 6; decide)] at h4
  replace h4 : Lru w4 cb mb 6 [(x3, kC), (x2, kB), (x1, kA)] := h4
  have F4 : Frm (fun _ => False) w w4 := F3.trans' f4 (fun b hb h => by simp [fp] at h; omega)
  have s3 := F3.size
  clear sg1 og1 h3 f4 F3
  go_wp2_with fail
  refine (get_hit cb mb 6 [(x3, kC), (x2, kB), (x1, kA)] ⟨#[97]⟩ (x1, kA) w4 h4 rfl).mono ?_
  rintro e w5 ⟨rfl, h5, f5⟩
  replace h5 : Lru w5 cb mb 6 [(x1, kA), (x3, kC), (x2, kB)] := h5
  have F5 : Frm (fun _ => False) w w5 := F4.trans' f5 (fun b hb h => by simp [fp] at h; omega)
  have s4 := F4.size
  clear h4 f5 F4
  go_wp2_with fail
  refine (put_ok cb mb 6 [(x1, kA), (x3, kC), (x2, kB)] _ _ w5 h5 (by decide) (by show tot [kA, kC, kB] ≤ 6; decide) (by decide) (by simp)).mono ?_
  rintro e w6 ⟨x4, g4, rfl, hx4, h6, f6, sg, og⟩
  have hev : evictI 6 ((x4, (⟨#[100]⟩, ⟨#[52, 53]⟩)) :: woI ⟨#[100]⟩ [(x1, kA), (x3, kC), (x2, kB)]) = [(x4, kD), (x1, kA)] := by
    show evictI 6 [(x4, kD), (x1, kA), (x3, kC), (x2, kB)] = _
    rw [show [(x4, kD), (x1, kA), (x3, kC), (x2, kB)] = [(x4, kD), (x1, kA), (x3, kC)] ++ [(x2, kB)] from rfl, evictI_snoc (by show 6 < tot [kD, kA, kC, kB]; decide)]
    rw [show [(x4, kD), (x1, kA), (x3, kC)] = [(x4, kD), (x1, kA)] ++ [(x3, kC)] from rfl, evictI_snoc (by show 6 < tot [kD, kA, kC]; decide)]
    exact evictI_fits (by show tot [kD, kA] ≤ 6; decide)
  rw [hev] at h6 sg
  replace sg : StrSl w6 g4 [⟨#[98]⟩, ⟨#[99]⟩] := sg
  have F6 : Frm (fun _ => False) w w6 := F5.trans' f6 (fun b hb h => by simp [fp] at h; omega)
  have s5 := F5.size
  clear h5 f6 F5 hev
  go_wp2_with fail
  refine (put_big cb mb 6 _ _ _ w6 h6 (by decide) (by decide) (by decide) (by decide)).mono ?_
  rintro e w7 ⟨rfl, rfl⟩
  go_wp2_with fail
  refine (same_any _ _ [⟨#[98]⟩, ⟨#[99]⟩] [⟨#[98]⟩, ⟨#[99]⟩] _ (sg.frm (S := fun _ => False) ((Frm.refl _ _).alloc _) (fun _ _ _ h => h)) (strSl_two _ _ _ _) (by decide)).mono ?_
  rintro e w7 ⟨he, f7⟩
  rw [decide_eq_true rfl] at he
  subst he
  have F7' : Frm (fun _ => False) w6 w7 := ((Frm.refl _ _).alloc _).trans f7
  have h7 := h6.frm F7' (fun _ _ h => h)
  have F7 := F6.trans F7'
  clear sg og h6 F6 f7 F7'
  go_wp2_with fail
  refine (keys_any cb mb 6 _ w7 h7 (by simp)).mono ?_
  rintro e w8 ⟨v8, rfl, sk, f8, ok8⟩
  replace sk : StrSl w8 v8 [⟨#[100]⟩, ⟨#[97]⟩] := sk
  have h8 := h7.frm f8 (fun _ _ h => h)
  have F8 := F7.trans f8
  clear h7 f8 F7 ok8
  go_wp2_with fail
  refine (same_any _ _ [⟨#[100]⟩, ⟨#[97]⟩] [⟨#[100]⟩, ⟨#[97]⟩] _ (sk.frm (S := fun _ => False) ((Frm.refl _ _).alloc _) (fun _ _ _ h => h)) (strSl_two _ _ _ _) (by decide)).mono ?_
  rintro e w9 ⟨he, f9⟩
  rw [decide_eq_true rfl] at he
  subst he
  have F9' : Frm (fun _ => False) w8 w9 := ((Frm.refl _ _).alloc _).trans f9
  have h9 := h8.frm F9' (fun _ _ h => h)
  have F9 := F8.trans F9'
  clear sk h8 F8 f9 F9'
  go_wp2_with fail
  refine (bytes_any cb mb 6 _ w9 h9).mono ?_
  rintro e w10 ⟨rfl, rfl⟩
  have ht : ((tot (kvs [(x4, kD), (x1, kA)]) : Nat) : Int) = 5 := by
    show ((tot [kD, kA] : Nat) : Int) = 5
    decide
  rw [ht]
  go_wp2_with fail
  go_ret
  exact ⟨rfl, F9⟩
end Go.Proofs.Yteecdpdidhjdlaa
