/- A text of a claim's proof: see the last text of the claim. -/
import Derived.Test.YteecdpdidhjdlaaLruW8
set_option linter.all false
namespace Go.Proofs.Yteecdpdidhjdlaa
open Go.RowKit Go.Tk Go.Lru

structure Op7 where
  kind : Int
  key : ByteArray
  val : ByteArray
  ka : Option Addr
  kc : Nat
  ks : List ByteArray

/-- the script's i-th element: four cells -/
def OpAt (w : World) (ao : Option Addr) (i : Nat) (o : Op7) : Prop :=
  ∃ b off, ao = some ⟨b, off, none⟩ ∧ w.cell? ⟨b, off + i * 4, none⟩ = some (.int .i64 o.kind) ∧ w.cell? ⟨b, off + i * 4 + 1, none⟩ = some (.string o.key) ∧ w.cell? ⟨b, off + i * 4 + 2, none⟩ = some (.string o.val) ∧
    w.cell? ⟨b, off + i * 4 + 3, none⟩ = some (.slice o.ka o.ks.length o.kc) ∧ StrSl w (.slice o.ka o.ks.length o.kc) o.ks ∧ (o.ks ≠ [] → Off (.slice o.ka o.ks.length o.kc) (fun b => w.heap.size ≤ b)) ∧ o.ks.length ≤ 9223372036854775807 ∧ -9223372036854775808 ≤ o.kind ∧ o.kind ≤ 9223372036854775807 ∧ o.key.size ≤ 2305843009213693952 ∧ o.val.size ≤ 2305843009213693952

/-- the round's own copy of it -/
def Box (w : World) (b : Nat) (o : Op7) : Prop :=
  w.cell? ⟨b, 0, none⟩ = some (.int .i64 o.kind) ∧ w.cell? ⟨b, 1, none⟩ = some (.string o.key) ∧ w.cell? ⟨b, 2, none⟩ = some (.string o.val) ∧ w.cell? ⟨b, 3, none⟩ = some (.slice o.ka o.ks.length o.kc)
theorem Box.frm {S : Nat → Prop} {w w' : World} {b : Nat} {o : Op7} (h : Box w b o) (hf : Frm S w w') (hn : ¬ S b) : Box w' b o := by
  obtain ⟨h0, h1, h2, h3⟩ := h
  have hb := World.block_lt_of_cell? _ _ h0
  exact ⟨(hf.cell (p := ⟨b, 0, none⟩) hb hn).trans h0, (hf.cell (p := ⟨b, 1, none⟩) hb hn).trans h1, (hf.cell (p := ⟨b, 2, none⟩) hb hn).trans h2, (hf.cell (p := ⟨b, 3, none⟩) hb hn).trans h3⟩
theorem Box.new (w : World) (o : Op7) : Box (w.alloc (.cells #[.int .i64 o.kind, .string o.key, .string o.val, .slice o.ka o.ks.length o.kc] 29)) w.heap.size o := by
  refine ⟨?_, ?_, ?_, ?_⟩ <;> simp

theorem evictI_length (b : Nat) (l : List (Nat × KV)) : (evictI b l).length ≤ l.length := by
  induction hn : l.length generalizing l with
  | zero => have : l = [] := List.length_eq_zero_iff.1 hn; subst this; rw [evictI]; simp
  | succ n ih =>
    rw [evictI]
    split
    · omega
    · have := ih l.dropLast (by simp; omega); omega
theorem woI_length (k : ByteArray) (l : List (Nat × KV)) : (woI k l).length ≤ l.length := List.length_filter_le _ _
theorem dropI_length (ks : List ByteArray) (l : List (Nat × KV)) : (dropI ks l).length ≤ l.length := by
  induction ks generalizing l with
  | nil => exact Nat.le_refl _
  | cons k ks ih => exact Nat.le_trans (ih _) (woI_length k l)
theorem evictI_sub (b : Nat) (l : List (Nat × KV)) : ∀ x ∈ evictI b l, x ∈ l := by
  induction hn : l.length generalizing l with
  | zero => have : l = [] := List.length_eq_zero_iff.1 hn; subst this; rw [evictI]; simp
  | succ n ih =>
    rw [evictI]
    split
    · exact fun _ h => h
    · exact fun x hx => List.dropLast_subset _ (ih l.dropLast (by simp; omega) x hx)
theorem evictI_tot (b : Nat) (l : List (Nat × KV)) : tot (kvs (evictI b l)) ≤ b := by
  induction hn : l.length generalizing l with
  | zero => have : l = [] := List.length_eq_zero_iff.1 hn; subst this; rw [evictI]; simp [kvs, tot]
  | succ n ih =>
    rw [evictI]
    split
    · rename_i h
      rcases h with h | h
      · exact h
      · subst h; simp [kvs, tot]
    · exact ih _ (by simp; omega)

set_option maxRecDepth 100000 in
set_option maxHeartbeats 1000000 in
theorem more_any (budget more : Int) (ao : Option Addr) (len cap : Nat) (ops : Nat → Op7) (w : World) (hb : -9223372036854775808 ≤ budget) (hb' : budget ≤ 9223372036854775807) (hm : -9223372036854775808 ≤ more) (hm' : more ≤ 9223372036854775807)
    (hlen : len ≤ 9223372036854775807) (hops : ∀ i, i < len → OpAt w ao i (ops i)) :
    Calls Try.prog 3 #[.int .i64 budget, .int .i64 more, .slice ao len cap] w fun e w' => e = .returned (.bool true) ∧ Frm (fun _ => False) w w' := by
  go_enter Try.func3, Try.ntmps3
  go_wp2_with fail
  refine (shown_any w).mono ?_
  rintro e w1 ⟨rfl, f1⟩
  go_wp2_with fail
  refine (pick_any budget 200 _ hb hb' (by decide) (by decide)).mono ?_
  rintro e _ ⟨rfl, rfl⟩
  have p1 := pickI_lo budget 200 (by decide)
  have p2 := pickI_hi budget 200 (by decide)
  have q1 := pickI_lo more 200 (by decide)
  have q2 := pickI_hi more 200 (by decide)
  obtain ⟨bc, hbc⟩ := Int.eq_ofNat_of_zero_le p1
  obtain ⟨dd, hdd⟩ := Int.eq_ofNat_of_zero_le q1
  rw [hbc] at p1 p2 ⊢
  go_wp2_with fail
  refine (new_lru bc _).mono ?_
  rintro e w2 ⟨cb, mb, rfl, hmb, hcb, hc, f2⟩
  go_wp2_with fail
  refine (pick_any more 200 _ hm hm' (by decide) (by decide)).mono ?_
  rintro e _ ⟨rfl, rfl⟩
  rw [hdd] at q1 q2 ⊢
  clear hbc hdd
  go_wp2_with fail
  rw [show (bc : Int) + (dd : Int) = ((bc + dd : Nat) : Int) by omega]
  refine (new_lru (bc + dd) _).mono ?_
  rintro e w3 ⟨db, md, rfl, hmd, hdb, hd, f3⟩
  have hc3 := hc.frm f3 (fun _ _ h => h)
  have f13 : Frm (fun _ => False) w w3 := f1.trans (f2.trans f3)
  have hfpc : ∀ b ∈ fp cb mb [], w.heap.size ≤ b := by have := f1.size; intro b hb; simp [fp] at hb; omega
  have hfpd : ∀ b ∈ fp db md [], w.heap.size ≤ b := by have := (f1.trans f2).size; intro b hb; simp [fp] at hb; omega
  have hdis : ∀ b ∈ fp db md [], b ∉ fp cb mb [] := by
    intro b hb hb'
    have := hc.lt b hb'
    simp [fp] at hb
    omega
  have Hfp := Lib.hid (And.intro hfpc (And.intro hfpd hdis))
  have hops' := Lib.hid hops
  clear hc f3 f1 f2 hmb hcb hmd hdb hfpc hfpd hdis hops
  go_wp2_with fail
  go_loopw [11] (fun i wr => ∃ (k : Nat) (lc ld : List (Nat × KV)), k ≤ len ∧ k ≤ 100 ∧ i = .int .i64 k ∧ Lru wr cb mb bc lc ∧ Lru wr db md (bc + dd) ld ∧ kvs lc <+: kvs ld ∧ tot (kvs lc) ≤ bc ∧ tot (kvs ld) ≤ bc + dd ∧ lc.length ≤ k ∧ ld.length ≤ k ∧
    (∀ b ∈ fp cb mb lc, w.heap.size ≤ b) ∧ (∀ b ∈ fp db md ld, w.heap.size ≤ b) ∧ (∀ b ∈ fp db md ld, b ∉ fp cb mb lc) ∧ Frm (fun _ => False) w wr) (fun i _ => 100 - (intOf i).toNat)
  case atStart => exact ⟨0, [], [], by omega, by omega, rfl, hc3, hd, List.prefix_refl _, by simp [kvs, tot], by simp [kvs, tot], by simp, by simp, Hfp.out.1, Hfp.out.2.1, Hfp.out.2.2, f13⟩
  case round =>
    obtain ⟨k, lc, ld, hk, hk', rfl, hc, hd, hpre, htc, htd, hlc, hld, hfc, hfd, hdis, hf⟩ := hrel
    have H := Lib.hid (And.intro hpre (And.intro hfc (And.intro hfd hdis)))
    clear hpre hfc hfd hdis
    by_cases h1 : k < len
    · by_cases h2 : k < 100
      · obtain ⟨b, off, rfl, o0, o1, o2, o3, o4, o5, o6, o7, o8, o9, o10⟩ := hops'.out k h1
        generalize ops k = o at o0 o1 o2 o3 o4 o5 o6 o7 o8 o9 o10
        have r0 := (hf.cell (p := ⟨b, off + k * 4, none⟩) (World.block_lt_of_cell? _ _ o0) (fun h => h)).trans o0
        have r1 := (hf.cell (p := ⟨b, off + k * 4 + 1, none⟩) (World.block_lt_of_cell? _ _ o1) (fun h => h)).trans o1
        have r2 := (hf.cell (p := ⟨b, off + k * 4 + 2, none⟩) (World.block_lt_of_cell? _ _ o2) (fun h => h)).trans o2
        have r3 := (hf.cell (p := ⟨b, off + k * 4 + 3, none⟩) (World.block_lt_of_cell? _ _ o3) (fun h => h)).trans o3
        have Ho := Lib.hid (And.intro o4 o5)
        clear o0 o1 o2 o3 o4 o5 hc3
        have h2' : (k : Int) < 100 := by omega
        have hbox := Box.new wr o
        have hco := hc.alloc (.cells #[.int .i64 o.kind, .string o.key, .string o.val, .slice o.ka o.ks.length o.kc] 29)
        have hdo := hd.alloc (.cells #[.int .i64 o.kind, .string o.key, .string o.val, .slice o.ka o.ks.length o.kc] 29)
        have hfo := hf.alloc (.cells #[.int .i64 o.kind, .string o.key, .string o.val, .slice o.ka o.ks.length o.kc] 29)
        have hclt := hc.lt
        have hdlt := hd.lt
        have HX := Lib.hid (And.intro hbox (And.intro hco (And.intro hdo (And.intro hfo (And.intro hclt hdlt)))))
        have ws : w.heap.size ≤ wr.heap.size := hf.size
        clear hbox hco hdo hfo hc hd hf hclt hdlt
        by_cases hbig : bc < o.key.size + o.val.size
        · have hbig' : (bc : Int) < (o.key.size : Int) + o.val.size := by omega
          go_wp2_with fail
          obtain ⟨_, a1, a2, a3, _⟩ := HX.out
          obtain ⟨b1, b2, b3, b4⟩ := H.out
          exact ⟨⟨k + 1, lc, ld, by omega, by omega, by go_num, a1, a2, b1, htc, htd, by omega, by omega, b2, b3, b4, a3⟩, by simp [intOf]; omega⟩
        · have hbig' : decide ((bc : Int) < (o.key.size : Int) + o.val.size) = false := by simp; omega
          go_wp2_with fail
          refine (pick_any o.kind 7 _ o7 o8 (by decide) (by decide)).mono ?_
          rintro e _ ⟨rfl, rfl⟩
          generalize pickI o.kind 7 = r
          generalize hwo : wr.alloc (.cells #[.int .i64 o.kind, .string o.key, .string o.val, .slice o.ka o.ks.length o.kc] 29) = wo at HX ⊢
          have wos : wo.heap.size = wr.heap.size + 1 := by rw [← hwo]; simp
          have Wos := Lib.hid wos
          clear hwo r0 r1 r2 r3 wos
          by_cases hr : r = 6
          · subst hr
            have x3 := HX.out.1.2.2.2
            obtain ⟨hbox, hc, hd, hf, hclt, hdlt⟩ := HX.out
            obtain ⟨hpre, hfc, hfd, hdis⟩ := H.out
            have hsl := Ho.out.1.frm hf (fun _ _ _ h => h)
            have hof : o.ks ≠ [] → Off (.slice o.ka o.ks.length o.kc) (· ∈ fp cb mb lc) := fun hne b hb hin => Ho.out.2 hne b hb (hfc b hin)
            have hof' : o.ks ≠ [] → Off (.slice o.ka o.ks.length o.kc) (· ∈ fp db md ld) := fun hne b hb hin => Ho.out.2 hne b hb (hfd b hin)
            have hwl := Wos.out
            have hdr := drop_any cb mb bc lc _ o.ks wo hc hsl hof o6 (by omega)
            have HD := Lib.hid (And.intro hdr (And.intro hof hof'))
            clear hdr hof hof' hpre hfc hfd hdis hbox hc hf hclt hdlt hwl
            go_wp2_with fail
            refine HD.out.1.mono ?_
            rintro e w4 ⟨⟨n4, rfl⟩, hc4, f4⟩
            have x34 := (HX.out.1.frm f4 (fun h => Nat.lt_irrefl _ (HX.out.2.2.2.2.1 _ h))).2.2.2
            have hd4 := hd.frm f4 (fun b hb hb' => H.out.2.2.2 b hb hb')
            have hsl4 := hsl.frm f4 HD.out.2.1
            clear hsl x3 hd
            go_wp2_with fail
            refine (drop_any db md (bc + dd) ld _ o.ks w4 hd4 hsl4 HD.out.2.2 o6 (by omega)).mono ?_
            rintro e w5 ⟨⟨n5, rfl⟩, hd5, f5⟩
            have hc5 := hc4.frm f5 (fun b hb hb' => H.out.2.2.2 b hb' (fp_sub (sub_dropI o.ks lc) b hb))
            have hf5 : Frm (fun _ => False) w w5 := (HX.out.2.2.2.1.trans' f4 (fun b hb h => Nat.not_le_of_lt hb (H.out.2.1 b h))).trans' f5 (fun b hb h => Nat.not_le_of_lt hb (H.out.2.2.1 b h))
            have hpre5 := pre_drop o.ks H.out.1
            have htc5 := Nat.le_trans (tot_dropI_le o.ks lc) htc
            have htd5 := Nat.le_trans (tot_dropI_le o.ks ld) htd
            have hlc5 := Nat.le_trans (dropI_length o.ks lc) (Nat.le_succ_of_le hlc)
            have hld5 := Nat.le_trans (dropI_length o.ks ld) (Nat.le_succ_of_le hld)
            have hfc5 : ∀ b ∈ fp cb mb (dropI o.ks lc), w.heap.size ≤ b := fun b hb => H.out.2.1 b (fp_sub (sub_dropI o.ks lc) b hb)
            have hfd5 : ∀ b ∈ fp db md (dropI o.ks ld), w.heap.size ≤ b := fun b hb => H.out.2.2.1 b (fp_sub (sub_dropI o.ks ld) b hb)
            have hdis5 : ∀ b ∈ fp db md (dropI o.ks ld), b ∉ fp cb mb (dropI o.ks lc) := fun b hb hb' => H.out.2.2.2 b (fp_sub (sub_dropI o.ks ld) b hb) (fp_sub (sub_dropI o.ks lc) b hb')
            generalize dropI o.ks lc = lc1 at hc5 hpre5 htc5 hlc5 hfc5 hdis5
            generalize dropI o.ks ld = ld1 at hd5 hpre5 htd5 hld5 hfd5 hdis5
            clear hc4 f4 hd4 hsl4 f5 x34 HD
            go_wp2_with fail
            refine (keys_any cb mb bc lc1 w5 hc5 (by omega)).mono ?_
            rintro e w6 ⟨v6, rfl, s6, f6, _⟩
            go_wp2_with fail
            refine (keys_any db md (bc + dd) ld1 w6 (hd5.frm f6 (fun _ _ h => h)) (by omega)).mono ?_
            rintro e w7 ⟨v7, rfl, s7, f7, _⟩
            have s6' := s6.frm f7 (fun _ _ _ h => h)
            have s7' := s7
            obtain ⟨a6, c6, rfl, le6, _⟩ := s6
            obtain ⟨a7, c7, rfl, le7, _⟩ := s7
            obtain ⟨kt1, kt2⟩ := keys_take hpre5
            have hc7 := (hc5.frm f6 (fun _ _ h => h)).frm f7 (fun _ _ h => h)
            have hd7 := (hd5.frm f6 (fun _ _ h => h)).frm f7 (fun _ _ h => h)
            have hf7 := (hf5.trans f6).trans f7
            have s7t := StrSl.take (n := (lc1.map (·.2.1)).length) s7' (by rw [List.length_map, List.length_map]; exact kt2)
            have Kt' := Lib.hid (show lc1.map (·.2.1) = (ld1.map (·.2.1)).take (lc1.map (·.2.1)).length by rw [List.length_map]; exact kt1)
            have Inv := Lib.hid (And.intro hc7 (And.intro hd7 (And.intro hf7 (And.intro hpre5 (And.intro hfc5 (And.intro hfd5 hdis5))))))
            have Sl := Lib.hid (And.intro s6' s7t)
            clear kt1 hc5 hd5 hc7 hd7 hf5 hf7 hpre5 hfc5 hfd5 hdis5 s6' s7t f6 f7
            rw [List.length_map] at le6 le7
            have L1 : decide ((ld1.length : Int) < lc1.length) = false := by simp; omega
            have L2 : lc1.length ≤ c7 := by omega
            go_wp2_with fail
            have Sl1 := Sl.out.1
            have Sl2 := Sl.out.2
            rw [← Kt'.out] at Sl2
            rw [List.length_map] at Sl1 Sl2
            refine (same_any _ _ (lc1.map (·.2.1)) (lc1.map (·.2.1)) _ Sl1 Sl2 (by rw [List.length_map]; omega)).mono ?_
            rintro e w8 ⟨he, f8⟩
            rw [decide_eq_true rfl] at he
            subst he
            go_wp2_with fail
            obtain ⟨i1, i2, i3, i4, i5, i6, i7⟩ := Inv.out
            exact ⟨⟨k + 1, lc1, ld1, by omega, by omega, by go_num, i1.frm f8 (fun _ _ h => h), i2.frm f8 (fun _ _ h => h), i4, htc5, htd5, hlc5, hld5, i5, i6, i7, i3.trans f8⟩, by simp [intOf]; omega⟩
          · have hr' : (r == 6) = false := by rw [beq_eq_false_iff_ne]; exact hr
            clear hr
            obtain ⟨hbox, hc, hd, hf, hclt, hdlt⟩ := HX.out
            have x1 := hbox.2.1
            have x2 := hbox.2.2.1
            have hcc := Lib.hid (And.intro hc hd)
            clear hbox hc hd hf hclt hdlt
            go_wp2_with fail
            refine (put_ok cb mb bc lc o.key o.val wo hcc.out.1 (by omega) htc (by omega) (by omega)).mono ?_
            rintro e w4 ⟨y4, g4, rfl, hy4, hc4, f4, _, _⟩
            obtain ⟨_, x14, x24, _⟩ := HX.out.1.frm f4 (fun h => Nat.lt_irrefl _ (HX.out.2.2.2.2.1 _ h))
            have hd4 := hcc.out.2.frm f4 (fun b hb hb' => H.out.2.2.2 b hb hb')
            clear x1 x2
            go_wp2_with fail
            refine (put_ok db md (bc + dd) ld o.key o.val w4 hd4 (by omega) htd (by omega) (by omega)).mono ?_
            rintro e w5 ⟨y5, g5, rfl, hy5, hd5, f5, _, _⟩
            have w45 := Wos.out
            have hwo4 := f4.size
            have hsb := evictI_sub bc ((y4, (o.key, o.val)) :: woI o.key lc)
            have hsb' := evictI_sub (bc + dd) ((y5, (o.key, o.val)) :: woI o.key ld)
            have hd0 : ∀ b ∈ fp db md ld, b < wr.heap.size := HX.out.2.2.2.2.2
            have hc0 : ∀ b ∈ fp cb mb lc, b < wr.heap.size := HX.out.2.2.2.2.1
            have hc5 := hc4.frm f5 (fun b hb hb' => by
              rcases fp_put hb hsb with h | h
              · exact H.out.2.2.2 b hb' h
              · have := hd0 b hb'; omega)
            have hf5 : Frm (fun _ => False) w w5 := (HX.out.2.2.2.1.trans' f4 (fun b hb h => Nat.not_le_of_lt hb (H.out.2.1 b h))).trans' f5 (fun b hb h => Nat.not_le_of_lt hb (H.out.2.2.1 b h))
            have hpre5 := pre_put (b1 := bc) (b2 := bc + dd) (by omega) y4 y5 o.key o.val H.out.1
            have htc5 := evictI_tot bc ((y4, (o.key, o.val)) :: woI o.key lc)
            have htd5 := evictI_tot (bc + dd) ((y5, (o.key, o.val)) :: woI o.key ld)
            have hlc5 : (evictI bc ((y4, (o.key, o.val)) :: woI o.key lc)).length ≤ k + 1 := Nat.le_trans (evictI_length _ _) (by have := woI_length o.key lc; simp; omega)
            have hld5 : (evictI (bc + dd) ((y5, (o.key, o.val)) :: woI o.key ld)).length ≤ k + 1 := Nat.le_trans (evictI_length _ _) (by have := woI_length o.key ld; simp; omega)
            have hfc5 : ∀ b ∈ fp cb mb (evictI bc ((y4, (o.key, o.val)) :: woI o.key lc)), w.heap.size ≤ b := fun b hb => by
              rcases fp_put hb hsb with h | h
              · exact H.out.2.1 b h
              · omega
            have hfd5 : ∀ b ∈ fp db md (evictI (bc + dd) ((y5, (o.key, o.val)) :: woI o.key ld)), w.heap.size ≤ b := fun b hb => by
              rcases fp_put hb hsb' with h | h
              · exact H.out.2.2.1 b h
              · omega
            have hdis5 : ∀ b ∈ fp db md (evictI (bc + dd) ((y5, (o.key, o.val)) :: woI o.key ld)), b ∉ fp cb mb (evictI bc ((y4, (o.key, o.val)) :: woI o.key lc)) := fun b hb hb' => by
              rcases fp_put hb hsb' with h | h
              · rcases fp_put hb' hsb with h' | h'
                · exact H.out.2.2.2 b h h'
                · have := hd0 b h; omega
              · have := hc4.lt b hb'; omega
            generalize evictI bc ((y4, (o.key, o.val)) :: woI o.key lc) = lc1 at hc5 hpre5 htc5 hlc5 hfc5 hdis5
            generalize evictI (bc + dd) ((y5, (o.key, o.val)) :: woI o.key ld) = ld1 at hd5 hpre5 htd5 hld5 hfd5 hdis5
            clear hc4 f4 hd4 f5 x14 x24 hsb hsb' hd0 hc0
            go_wp2_with fail
            refine (keys_any cb mb bc lc1 w5 hc5 (by omega)).mono ?_
            rintro e w6 ⟨v6, rfl, s6, f6, _⟩
            go_wp2_with fail
            refine (keys_any db md (bc + dd) ld1 w6 (hd5.frm f6 (fun _ _ h => h)) (by omega)).mono ?_
            rintro e w7 ⟨v7, rfl, s7, f7, _⟩
            have s6' := s6.frm f7 (fun _ _ _ h => h)
            have s7' := s7
            obtain ⟨a6, c6, rfl, le6, _⟩ := s6
            obtain ⟨a7, c7, rfl, le7, _⟩ := s7
            obtain ⟨kt1, kt2⟩ := keys_take hpre5
            have hc7 := (hc5.frm f6 (fun _ _ h => h)).frm f7 (fun _ _ h => h)
            have hd7 := (hd5.frm f6 (fun _ _ h => h)).frm f7 (fun _ _ h => h)
            have hf7 := (hf5.trans f6).trans f7
            have s7t := StrSl.take (n := (lc1.map (·.2.1)).length) s7' (by rw [List.length_map, List.length_map]; exact kt2)
            have Kt' := Lib.hid (show lc1.map (·.2.1) = (ld1.map (·.2.1)).take (lc1.map (·.2.1)).length by rw [List.length_map]; exact kt1)
            have Inv := Lib.hid (And.intro hc7 (And.intro hd7 (And.intro hf7 (And.intro hpre5 (And.intro hfc5 (And.intro hfd5 hdis5))))))
            have Sl := Lib.hid (And.intro s6' s7t)
            clear kt1 hc5 hd5 hc7 hd7 hf5 hf7 hpre5 hfc5 hfd5 hdis5 s6' s7t f6 f7
            rw [List.length_map] at le6 le7
            have L1 : decide ((ld1.length : Int) < lc1.length) = false := by simp; omega
            have L2 : lc1.length ≤ c7 := by omega
            go_wp2_with fail
            have Sl1 := Sl.out.1
            have Sl2 := Sl.out.2
            rw [← Kt'.out] at Sl2
            rw [List.length_map] at Sl1 Sl2
            refine (same_any _ _ (lc1.map (·.2.1)) (lc1.map (·.2.1)) _ Sl1 Sl2 (by rw [List.length_map]; omega)).mono ?_
            rintro e w8 ⟨he, f8⟩
            rw [decide_eq_true rfl] at he
            subst he
            go_wp2_with fail
            obtain ⟨i1, i2, i3, i4, i5, i6, i7⟩ := Inv.out
            exact ⟨⟨k + 1, lc1, ld1, by omega, by omega, by go_num, i1.frm f8 (fun _ _ h => h), i2.frm f8 (fun _ _ h => h), i4, htc5, htd5, hlc5, hld5, i5, i6, i7, i3.trans f8⟩, by simp [intOf]; omega⟩
      · have h2' : decide ((k : Int) < 100) = false := by simp; omega
        have h1' : (k : Int) < len := by omega
        go_wp2_with fail
        go_ret
        exact ⟨rfl, hf⟩
    · have h1' : decide ((k : Int) < len) = false := by simp; omega
      go_wp2_with fail
      go_ret
      exact ⟨rfl, hf⟩
end Go.Proofs.Yteecdpdidhjdlaa
