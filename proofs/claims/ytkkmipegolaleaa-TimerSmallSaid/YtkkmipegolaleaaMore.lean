/-
  TimerMore: the plain law and the walk.
-/
import Derived.Test.YtkkmipegolaleaaIns
import Derived.Test.YtkkmipegolaleaaLeastN
import Derived.Deep.CutRange
import Derived.Deep.DeepCutAuto
namespace Go.Proofs.Ytkkmipegolaleaa
open Go.RowKit T

theorem insL_cases (zs : List Int) (k : Nat) (x : Int) (hk : k ≤ zs.length) (j : Nat) (hj : j < (insL zs k x).length) :
    (j < k ∧ (insL zs k x).getD j 0 = zs.getD j 0) ∨ (j = k ∧ (insL zs k x).getD j 0 = x) ∨ (k < j ∧ j - 1 < zs.length ∧ (insL zs k x).getD j 0 = zs.getD (j - 1) 0) := by
  rw [insL_len zs k x hk] at hj
  by_cases h : j < k
  · exact .inl ⟨h, insL_lt zs k x hk j h⟩
  · by_cases h2 : j = k
    · subst h2; exact .inr (.inl ⟨rfl, insL_eq zs j x hk⟩)
    · obtain ⟨i, rfl⟩ : ∃ i, j = i + 1 := ⟨j - 1, by omega⟩
      exact .inr (.inr ⟨by omega, by omega, by rw [insL_gt zs k x hk i (by omega)]; rfl⟩)

/-- Where the first least one of the longer list stands. -/
theorem more_ix (zs : List Int) (k : Nat) (x : Int) (hk : k ≤ zs.length) (h0 : 0 < zs.length) (i : Nat) (hi : am zs zs.length = i) :
    am (insL zs k x) (insL zs k x).length = if x < zs.getD i 0 ∨ (x = zs.getD i 0 ∧ k ≤ i) then k else if k ≤ i then i + 1 else i := by
  obtain ⟨a1, a2⟩ := am_least zs zs.length
  have hil := am_lt zs zs.length h0
  rw [hi] at a1 a2 hil
  have hL := insL_len zs k x hk
  by_cases c : x < zs.getD i 0 ∨ (x = zs.getD i 0 ∧ k ≤ i)
  · rw [if_pos c]
    refine am_unique (by omega) ?_ ?_
    · intro j hj
      rw [insL_eq zs k x hk]
      rcases insL_cases zs k x hk j hj with ⟨_, e⟩ | ⟨_, e⟩ | ⟨_, hh, e⟩
      · rw [e]; have := a1 j (by omega); omega
      · rw [e]; omega
      · rw [e]; have := a1 (j - 1) hh; omega
    · intro j hj
      rw [insL_eq zs k x hk, insL_lt zs k x hk j hj]
      have := a1 j (by omega)
      rcases c with c | ⟨c1, c2⟩
      · omega
      · have := a2 j (by omega); omega
  · rw [if_neg c]
    by_cases d : k ≤ i
    · rw [if_pos d]
      refine am_unique (by omega) ?_ ?_
      · intro j hj
        rw [insL_gt zs k x hk i d]
        rcases insL_cases zs k x hk j hj with ⟨_, e⟩ | ⟨_, e⟩ | ⟨_, hh, e⟩
        · rw [e]; exact a1 j (by omega)
        · rw [e]; omega
        · rw [e]; exact a1 (j - 1) hh
      · intro j hj
        rw [insL_gt zs k x hk i d]
        rcases insL_cases zs k x hk j (by omega) with ⟨h1, e⟩ | ⟨_, e⟩ | ⟨h1, hh, e⟩
        · rw [e]; exact a2 j (by omega)
        · rw [e]; omega
        · rw [e]; exact a2 (j - 1) (by omega)
    · rw [if_neg d]
      refine am_unique (by omega) ?_ ?_
      · intro j hj
        rw [insL_lt zs k x hk i (by omega)]
        rcases insL_cases zs k x hk j hj with ⟨_, e⟩ | ⟨_, e⟩ | ⟨_, hh, e⟩
        · rw [e]; exact a1 j (by omega)
        · rw [e]; omega
        · rw [e]; exact a1 (j - 1) hh
      · intro j hj
        rw [insL_lt zs k x hk i (by omega), insL_lt zs k x hk j (by omega)]
        exact a2 j hj
theorem chk_ins (zs : List Int) (k : Nat) (x : Int) (hk : k ≤ zs.length) (hl : zs.length ≤ 11) (h : ∀ j, j < zs.length → 1 ≤ zs.getD j 0 ∧ zs.getD j 0 ≤ 1000) (hx : 1 ≤ x ∧ x ≤ 1000) : chk (insL zs k x) = 0 := by
  refine chk_of_ok (by rw [insL_len zs k x hk]; omega) fun j hj => ?_
  rcases insL_cases zs k x hk j hj with ⟨h1, e⟩ | ⟨_, e⟩ | ⟨_, hh, e⟩
  · rw [e]; exact h j (by omega)
  · rw [e]; exact hx
  · rw [e]; exact h _ hh

theorem own_one (w : World) (n : Int) : (w.alloc (.cells #[.int .i64 n] 3)).ownsRow w.heap.size 3 1 (.slice (some ⟨w.heap.size, 0, none⟩) 1 1) 1 [.int .i64 n] :=
  ⟨by simp, .inr ⟨w.heap.size, 1, #[.int .i64 n], rfl, Nat.le_refl _, heap_alloc_new w _, Nat.le_refl _, by unfold maxLen; omega, by simp, by simp⟩⟩
theorem own_below' {w w1 : World} {base : Nat} {e : TypeId} {size : Nat} {v : Value} {n : Nat} {xs : List Value} (h : w.ownsRow base e size v n xs) (hb : Below w.heap.size w w1) : w1.ownsRow base e size v n xs := by
  obtain ⟨h1, h2⟩ := h
  refine ⟨h1, ?_⟩
  rcases h2 with h2 | ⟨g, cap, cur, hv, hg, hh, r⟩
  · exact .inl h2
  · exact .inr ⟨g, cap, cur, hv, hg, (hb.block g (lt_of_block hh)).trans hh, r⟩
theorem own_ge' {w : World} {base : Nat} {e : TypeId} {size : Nat} {v : Value} {n : Nat} {xs : List Value} (h : w.ownsRow base e size v n xs) (j : Nat) (ej : v.ownBlock = some j) : base ≤ j := by
  rcases h.2 with ⟨rfl, _⟩ | ⟨g, cap, cur, rfl, hg, _, _⟩
  · simp [Value.ownBlock] at ej
  · obtain rfl : g = j := by simpa [Value.ownBlock] using ej
    exact hg
theorem own_lt' {w : World} {base : Nat} {e : TypeId} {size : Nat} {v : Value} {n : Nat} {xs : List Value} (h : w.ownsRow base e size v n xs) : v.ownBlock ≠ some w.heap.size := by
  intro ej
  rcases h.2 with ⟨rfl, _⟩ | ⟨g, cap, cur, rfl, _, hh, _⟩
  · simp [Value.ownBlock] at ej
  · obtain rfl : g = w.heap.size := by simpa [Value.ownBlock] using ej
    exact absurd (lt_of_block hh) (Nat.lt_irrefl _)
theorem made_r1000 (bs : List Int) (j : Nat) (hj : j < (made bs).length) : 1 ≤ (made bs).getD j 0 ∧ (made bs).getD j 0 ≤ 1000 := by
  unfold made at hj ⊢
  rw [List.length_map] at hj
  rw [List.getD_eq_getElem?_getD, List.getElem?_map, List.getElem?_eq_getElem hj]
  show 1 ≤ mk1 _ ∧ mk1 _ ≤ 1000
  unfold mk1
  omega

set_option maxRecDepth 100000 in
set_option maxHeartbeats 8000000 in
theorem more_any (bs : List Int) (A : Option Addr) (c : Nat) (p n : Int) (w : World) (hv : Sb w A bs) (hc : bs.length ≤ c) (hc2 : c ≤ 9223372036854775807) (hp0 : 0 ≤ p) (hp1 : p ≤ 255) (hn0 : 0 ≤ n) (hn1 : n ≤ 255) :
    Calls Try.prog 8 #[.slice A bs.length c, .int .u8 p, .int .u8 n] w fun e w' => e = .returned (.bool true) ∧ Below w.heap.size w w' := by
  have hml : (made bs).length ≤ 12 := by unfold made; rw [List.length_map, List.length_take]; omega
  have hmr := made_r1000 bs
  have HM := Lib.hid (fun (w1 : World) (h : Sb w1 A bs) => made_any bs A c w1 h hc hc2)
  have hsb := hv.1
  have HV := Lib.hid hv
  clear hv
  obtain ⟨i0, hi0, hz0, hz1, hz2⟩ := info_parts (show (Try.prog.info? 3).map (fun i => (i.zero, i.size, i.bytes)) = some (some (.int .i64 0), 1, 8) by kernel_rfl)
  go_enter Try.func8, Try.ntmps8
  go_wp2_with fail
  refine (HM.out _ (HV.out.below (by go_grown))).mono ?_
  rintro e w1 ⟨A1, c1, rfl, hown1, hb1⟩
  have hB1 : Below w.heap.size w w1 := bl (by go_grown) hb1
  have hzw := hB1.size
  have h20 := Lib.hid (own_below' (own_one w 20) hb1)
  have HRD := Lib.hid (Reads.of_own hown1)
  clear hown1 hb1
  have h63 : 1 + (made bs).length ≤ maxLen := by unfold maxLen; omega
  go_upto_region 2 with (at_builtin; go_loud (refine wpList_append_any _ rfl (.tmp 17) (.tmp 19) _ rfl w.heap.size 3 i0 (.int .i64 0) 1 8 Try.underlying22 hi0 hz0 hz1 hz2 rfl (by omega) (.slice (some ⟨w.heap.size, 0, none⟩) 1 1) 1 [.int .i64 20] rfl h20.out w1.heap.size A1 (made bs).length c1 ((made bs).map (Value.int .i64)) rfl HRD.out (one_ints _) h63 (by omega) hzw ?_); intro v2 w2 hown2 hg2 _)
  have hB2 : Below w.heap.size w w2 := hB1.grown hg2 hzw (fun j ej => by have := own_ge' h20.out j ej; omega)
  obtain ⟨b, cap, hv2, hcap, hcm⟩ : ∃ b cap, v2 = .slice (some ⟨b, 0, none⟩) (1 + (made bs).length) cap ∧ 1 + (made bs).length ≤ cap ∧ cap ≤ maxLen := by
    rcases hown2.2 with ⟨_, h⟩ | ⟨g, cap, cur, h, _, _, h1, h2, _⟩
    · omega
    · exact ⟨g, cap, h, h1, h2⟩
  subst hv2
  have hzl : ((20 :: made bs).take 11).length = min (1 + (made bs).length) 11 := by rw [List.length_take, List.length_cons]; omega
  have hall : ∀ j, j < ((20 :: made bs).take 11).length → 1 ≤ ((20 :: made bs).take 11).getD j 0 ∧ ((20 :: made bs).take 11).getD j 0 ≤ 1000 := by
    intro j hj
    rw [hzl] at hj
    rw [List.getD_eq_getElem?_getD, List.getElem?_take_of_lt (by omega), ← List.getD_eq_getElem?_getD]
    cases j with
    | zero => simp
    | succ j => simpa using hmr j (by omega)
  have hmin : min (1 + ((made bs).length : Int)) 11 = ((min (1 + (made bs).length) 11 : Nat) : Int) := by omega
  have hsl : Sl w2 (some ⟨b, 0, none⟩) ((20 :: made bs).take 11) := by
    have hr := Reads.of_own hown2
    obtain ⟨ad, e, hb, hcell⟩ := hr.2 (by omega)
    injection e with e
    subst e
    refine ⟨by omega, by simp, fun _ => ⟨_, rfl, hb, fun j u hu => hcell j u ?_⟩⟩
    have hjm : j < ((20 :: made bs).take 11).length := by
      rcases Nat.lt_or_ge j ((20 :: made bs).take 11).length with h | h
      · exact h
      · rw [List.getElem?_eq_none (by simpa using h)] at hu; cases hu
    rw [List.map_take, List.getElem?_take_of_lt (by omega)] at hu
    exact hu
  unfold maxLen at hcm
  have HSL := Lib.hid hsl
  have HAL := Lib.hid hall
  have HZL := Lib.hid hzl
  clear hsl hall hown2 hg2 hmr HRD h20
  generalize (20 :: made bs).take 11 = zs at *
  go_wp2_with fail
  rw [← HZL.out]
  have hzlen := HZL.out
  have hl0 : 0 < zs.length := by omega
  have hl11 : zs.length ≤ 11 := by omega
  have hck : chk zs = 0 := chk_of_ok (by omega) HAL.out
  have hne : zs ≠ [] := List.length_pos_iff.1 hl0
  obtain ⟨i, hi⟩ : ∃ i, i = am zs zs.length := ⟨_, rfl⟩
  have hil : i < zs.length := by rw [hi]; exact am_lt zs _ hl0
  have hix : ix zs = (i : Int) := by rw [ix_nonneg hne, ← hi]
  have HI := Lib.hid hi
  have hv2 := HSL.out
  refine (first_some zs _ cap _ hv2 hck i (tk zs) hix rfl (by omega)).mono ?_
  rintro e w3 ⟨rfl, hb3⟩
  have hv3 := Lib.hid (hv2.below hb3)
  have hB3 := hB2.trans (hb3.mono hB2.size)
  have htk : tk zs = zs.getD i 0 := by rw [tk_of hne, ← hi]
  have htr := HAL.out i hil
  have HTR := Lib.hid htr
  obtain ⟨k, hk⟩ : ∃ k : Nat, p % ((zs.length : Int) + 1) = (k : Int) := ⟨(p % ((zs.length : Int) + 1)).toNat, by have := Int.emod_nonneg p (b := (zs.length : Int) + 1) (by omega); omega⟩
  have hkl : k ≤ zs.length := by have := Int.emod_lt_of_pos p (b := (zs.length : Int) + 1) (by omega); omega
  obtain ⟨x, hx⟩ : ∃ x : Int, 1 + n % 60 = x := ⟨_, rfl⟩
  have hx1 : 1 ≤ x := by omega
  have hx2 : x ≤ 60 := by omega
  clear hv2 hB2 hb3 hck hne hix hi hzl hzlen htr htk
  have hmin2 := HZL.out.symm
  go_wp2_with fail
  refine (clone_any zs _ cap _ hv3.out (by omega)).mono ?_
  rintro e w4 ⟨A4, c4, rfl, hown4, hb4⟩
  have hB4 := hB3.trans (hb4.mono hB3.size)
  have HOW := Lib.hid hown4
  have hsz4 := hb4.size
  have hsz3 := hB3.size
  clear hown4 hB4
  go_wp2_with fail
  have hb5 : Below w4.heap.size w4 (w4.alloc (.cells #[.int .i64 x] 3)) := (Below.refl _ _).alloc (Nat.le_refl _) _
  refine (insert_own zs _ k x _ w3.heap.size w4.heap.size (own_below' HOW.out hb5) hkl (by omega) (by simp; omega) (Blk.new w4 3 _) (own_lt' HOW.out)).mono ?_
  rintro e w5 ⟨⟨A5, c5, rfl, hs5⟩, hb6⟩
  have hb36 := (hb4.trans (hb5.mono hsz4)).trans hb6
  have hB5 := hB3.trans (hb36.mono hsz3)
  have hv5 := hv3.out.below hb36
  clear hb36 hb6 hb5 HOW hB3 hb4 hv3
  have hlen5 := insL_len zs k x hkl
  have HM5 := Lib.hid (more_ix zs k x hkl hl0 i HI.out.symm)
  have hck5 := Lib.hid (chk_ins zs k x hkl hl11 HAL.out ⟨hx1, by omega⟩)
  have hne5 : insL zs k x ≠ [] := List.length_pos_iff.1 (by omega)
  obtain ⟨ad, e5, had, hcell⟩ := hv5.at_ hil
  injection e5 with e5
  subst e5
  obtain ⟨y, hy⟩ : ∃ y, y = zs.getD i 0 := ⟨_, rfl⟩
  rw [← hy] at hcell
  have hI5 := ix_nonneg hne5
  obtain ⟨m, hm⟩ : ∃ m, m = am (insL zs k x) (insL zs k x).length := ⟨_, rfl⟩
  have hmr : m = if x < y ∨ (x = y ∧ k ≤ i) then k else if k ≤ i then i + 1 else i := by rw [hm, HM5.out, ← hy]
  have HMR := Lib.hid hmr
  have HIX : Hid (ix (insL zs k x) = (m : Int)) := Lib.hid (by rw [hI5, ← hm])
  have HY := Lib.hid hy
  clear hmr hm hI5 hy
  have hs5' := Lib.hid hs5
  have hv5' := Lib.hid hv5
  generalize insL zs k x = ys at *
  rw [← hlen5]
  have HL5 := Lib.hid hlen5
  have HC5 := Lib.hid hcell
  have HB5 := Lib.hid hB5
  clear hlen5 hcell hB5 HM5 hs5 hv5 had
  go_wp2_with fail
  refine (first_some ys A5 c5 _ hs5'.out hck5.out m (tk ys) HIX.out rfl (by omega)).mono ?_
  rintro e w6 ⟨rfl, hb6⟩
  have HB6 := Lib.hid (HB5.out.trans (hb6.mono HB5.out.size))
  have hv6 := Lib.hid (hv5'.out.below hb6)
  clear hb6
  go_upto_region 11 with fail
  obtain ⟨ad6, e6, had6, hcell6⟩ := hv6.out.at_ hil
  injection e6 with e6
  subst e6
  have hy6 : zs.getD i 0 = y := HY.out.symm
  rw [hy6] at hcell6
  have hcell7 : w6.cell? ⟨b, i, none⟩ = some (.int .i64 y) := by
    have h := hcell6
    simp only [Addr.add] at h
    split at h
    · rename_i h0; rw [h0]; exact h
    · rw [Nat.zero_add] at h; exact h
  clear hcell6 hy6
  have hmr := HMR.out
  by_cases c1 : x < y
  · have hmk : m = k := by rw [hmr, if_pos (.inl c1)]
    subst hmk
    clear hmr HMR
    go_wp2_with (go_at_call 10; refine (awake_any _).mono ?_; rintro e w7 ⟨rfl, hb7⟩)
    go_ret
    exact ⟨rfl, HB6.out.trans (hb7.mono HB6.out.size)⟩
  · by_cases c2 : x = y ∧ k ≤ i
    · have hmk : m = k := by rw [hmr, if_pos (.inr c2)]
      subst hmk
      obtain ⟨c2, c3⟩ := c2
      subst c2
      clear hmr HMR
      go_wp2_with (go_at_call 10; refine (awake_any _).mono ?_; rintro e w7 ⟨rfl, hb7⟩)
      go_ret
      exact ⟨rfl, HB6.out.trans (hb7.mono HB6.out.size)⟩
    · rw [if_neg (by intro h; rcases h with h | h; exact c1 h; exact c2 h)] at hmr
      by_cases c4 : k ≤ i
      · have c5 : ¬ x = y := fun h => c2 ⟨h, c4⟩
        rw [if_pos c4] at hmr
        subst hmr
        clear HMR c2
        go_wp2_with (go_at_call 10; refine (awake_any _).mono ?_; rintro e w7 ⟨rfl, hb7⟩)
        go_ret
        exact ⟨rfl, HB6.out.trans (hb7.mono HB6.out.size)⟩
      · rw [if_neg c4] at hmr
        subst hmr
        clear HMR c2
        go_wp2_with (go_at_call 10; refine (awake_any _).mono ?_; rintro e w7 ⟨rfl, hb7⟩)
        all_goals (go_ret; exact ⟨rfl, HB6.out.trans (hb7.mono HB6.out.size)⟩)
end Go.Proofs.Ytkkmipegolaleaa
