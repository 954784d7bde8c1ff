/-
  TimerLeast: the timeout that fires, and a timer of it alone beside a timer of all.
-/
import Derived.Test.YtkkmipegolaleaaTells
import Derived.Test.YtkkmipegolaleaaMade
namespace Go.Proofs.Ytkkmipegolaleaa
open Go.RowKit T

theorem sb_of {w : World} {a : Option Addr} {len cap : Nat} {zs : List Int} (h : (a = none ∧ len = 0 ∧ cap = 0 ∧ zs = []) ∨
    ∃ x, a = some x ∧ len ≤ cap ∧ cap ≤ maxLen ∧ zs.length = cap ∧ (∀ i, i < zs.length → w.cell? (x.add i) = some (.int .u8 (zs.getD i 0))) ∧ ∀ n ∈ zs, (Lit.int .u8 n).wf = true) :
    ∃ ys : List Int, ys.length = len ∧ len ≤ cap ∧ cap ≤ 9223372036854775807 ∧ Sb w a ys := by
  rcases h with ⟨rfl, rfl, rfl, rfl⟩ | ⟨x, rfl, hl, hm, hz, hc, hw⟩
  · exact ⟨[], rfl, by omega, by omega, by simp, fun j => by simp, by simpa using Reads.none_⟩
  · unfold maxLen at hm
    refine ⟨zs.take len, by rw [List.length_take]; omega, hl, by omega, ?_, fun j => ?_, ?_, fun h0 => ⟨x, rfl, ?_, fun j u hu => ?_⟩⟩
    · rw [List.length_take]; omega
    · rw [List.getD_eq_getElem?_getD]
      cases hj : (zs.take len)[j]? with
      | none => simp
      | some q =>
        have hq := hw q (List.mem_of_mem_take (List.mem_of_getElem? hj))
        simpa [Lit.wf, IntKind.min, IntKind.max, IntKind.signed, IntKind.bits] using hq
    · simp
    · have := World.block_lt_of_cell? w _ (hc 0 (by rw [List.length_take] at h0; omega))
      simpa [block_of_add] using this
    · rw [List.getElem?_map, List.getElem?_take] at hu
      split at hu
      · rename_i hj
        rw [hc j (by omega), List.getD_eq_getElem?_getD]
        rw [← hu, List.getElem?_eq_getElem (show j < zs.length by omega)]
        rfl
      · simp at hu

theorem one_ix (t : Int) : ix [t] = 0 ∧ tk [t] = t := by simp [ix, tk, am]
theorem Tm.only {w w1 : World} {t t' : Nat} {i k a : Int} {f : Bool} (h : Tm w t i k a f) (hg : w.grownBy w1 (some t')) (hne : t ≠ t') : Tm w1 t i k a f := Blk.grown (row := some t') h hg (by intro e; injection e with e; exact hne e)

/-- A timer after k ticks. -/
def TmN (w : World) (b : Nat) (i t : Int) (k : Nat) : Prop := Tm w b i t (if (k : Int) < t then k else t) (if (k : Int) < t then false else true)
theorem tm_start {w : World} {b : Nat} {i t : Int} (h : Tm w b i t 0 false) (ht : 0 < t) : TmN w b i t 0 := by unfold TmN; rw [if_pos (by omega), if_pos (by omega)]; exact h
theorem TmN.early {w : World} {b : Nat} {i t : Int} {k : Nat} (h : TmN w b i t k) (hk : (k : Int) < t) : Tm w b i t k false := by unfold TmN at h; rw [if_pos hk, if_pos hk] at h; exact h
theorem TmN.late {w : World} {b : Nat} {i t : Int} {k : Nat} (h : TmN w b i t k) (hk : ¬ (k : Int) < t) : Tm w b i t t true := by unfold TmN at h; rw [if_neg hk, if_neg hk] at h; exact h
theorem tm_early {w : World} {b : Nat} {i t : Int} {k : Nat} (h : Tm w b i t ((k : Int) + 1) false) (hk : (k : Int) + 1 < t) : TmN w b i t (k + 1) := by unfold TmN; rw [if_pos (by omega), if_pos (by omega)]; exact h
theorem tm_fires {w : World} {b : Nat} {i t : Int} {k : Nat} (h : Tm w b i t ((k : Int) + 1) true) (hk : (k : Int) + 1 = t) : TmN w b i t (k + 1) := by unfold TmN; rw [if_neg (by omega), if_neg (by omega), ← hk]; rw [← hk] at h; exact h
theorem tm_fired {w : World} {b : Nat} {i t : Int} {k : Nat} (h : Tm w b i t t true) (hk : t ≤ (k : Int)) : TmN w b i t (k + 1) := by unfold TmN; rw [if_neg (by omega), if_neg (by omega)]; exact h

set_option maxHeartbeats 4000000 in
set_option maxRecDepth 100000 in
theorem least_some (bs : List Int) (A : Option Addr) (c : Nat) (n : Int) (w : World) (hv : Sb w A bs) (hc : bs.length ≤ c) (hc2 : c ≤ 9223372036854775807) (h0 : 0 < bs.length) (hn0 : 0 ≤ n) (hn1 : n ≤ 255) :
    Calls Try.prog 4 #[.slice A bs.length c, .int .u8 n] w fun e w' => e = .returned (.bool true) ∧ Below w.heap.size w w' := by
  have hne : made bs ≠ [] := by intro h; have := made_len bs; rw [h] at this; simp at this; omega
  have hpos : 0 < (made bs).length := List.length_pos_iff.2 hne
  have hl12 : (made bs).length ≤ 12 := by rw [made_len]; omega
  have hil := am_lt (made bs) (made bs).length hpos
  have hx := ix_nonneg hne
  have ht := tk_of hne
  have hcz := made_chk bs
  have htr := tk_range hne hcz
  obtain ⟨al1, al2⟩ := am_least (made bs) (made bs).length
  rw [ht] at htr
  have hma := made_any bs A c w hv hc hc2
  generalize hz : made bs = zs at *
  clear hz
  generalize hi : am zs zs.length = i at *
  generalize hg : zs.getD i 0 = t at *
  have ht1 := htr.1
  have ht2 := htr.2
  have HC := Lib.hid hcz
  have HX := Lib.hid hx
  have HT := Lib.hid ht
  have HG := Lib.hid hg
  have HA1 := Lib.hid al1
  have HA2 := Lib.hid al2
  have HM := Lib.hid hma
  have hlen : decide (0 < (zs.length : Int)) = true := by rw [decide_eq_true_eq]; omega
  have hii : (i : Int) < (zs.length : Int) := by omega
  obtain ⟨N, hN⟩ : ∃ N, N = n % 41 := ⟨_, rfl⟩
  have hN0 : 0 ≤ N := by omega
  have hN1 : N < 41 := by omega
  have HN := Lib.hid hN
  clear hcz hx ht hg al1 al2 hma htr hi hne hv hN
  go_enter Try.func4, Try.ntmps4
  go_wp2_with fail
  refine HM.out.mono ?_
  rintro e w1 ⟨A', c', rfl, hown, hb1⟩
  have hv1 := own_sl hown (by omega)
  have hB1 := hb1
  clear hown hb1 HM
  go_wp2_with fail
  refine (first_some zs A' c' _ hv1 HC.out i t HX.out HT.out (by omega)).mono ?_
  rintro e w2 ⟨rfl, hb2⟩
  have hv2 := hv1.below hb2
  have hB2 := hB1.trans (hb2.mono hB1.size)
  clear hv1 hB1 hb2
  go_wp2_with fail
  refine (only_some zs A' c' _ hv2 HC.out i t HX.out HT.out (by omega)).mono ?_
  rintro e w3 ⟨b3, rfl, hlt3, blk3, hb3⟩
  have hv3 := hv2.below hb3
  have hB3 := hB2.trans (hb3.mono hB2.size)
  have so3 : Sl w3 (some ⟨b3, 0, none⟩) [t] := sl_blk [t] blk3 (by simp)
  clear hv2 hB2 hb3 blk3
  go_wp2_with fail
  refine (new_ok zs A' c' _ hv3 HC.out).mono ?_
  rintro e w4 ⟨ta, rfl, hlta, tma, hb4⟩
  rw [HX.out, HT.out] at tma
  have hv4 := hv3.below hb4
  have so4 := so3.below hb4
  have hB4 := hB3.trans (hb4.mono hB3.size)
  have hta : w.heap.size ≤ ta := by have := hB3.size; omega
  clear hv3 hB3 hb4 so3
  have ck1 : chk [t] = 0 := chk_of_ok (by simp) (fun j hj => by simp at hj; subst hj; exact ⟨ht1, by simpa using ht2⟩)
  have CK1 := Lib.hid ck1
  clear ck1
  go_wp2_with fail
  refine (new_ok [t] _ 1 _ so4 CK1.out).mono ?_
  rintro e w5 ⟨tb, rfl, hltb, tmb, hb5⟩
  rw [(one_ix t).1, (one_ix t).2] at tmb
  have tmb' := tmb
  have hv5 := hv4.below hb5
  have so5 := so4.below hb5
  have hB5 := hB4.trans (hb5.mono hB4.size)
  have tma5 := tma.below hb5
  have htb : w.heap.size ≤ tb := by have := hB4.size; omega
  have hab : ta < tb := by have := tma.lt; omega
  clear hv4 hB4 hb5 so4 tma tmb
  obtain ⟨ad1, hA1, _, hcell1⟩ := so5.at_ (k := 0) (by simp)
  injection hA1 with hA1
  subst hA1
  have hc1 : w5.cell? ⟨b3, 0, none⟩ = some (.int .i64 t) := by simpa [Addr.add] using hcell1
  obtain ⟨ad, rfl, had, hce⟩ := hv5.at_ hil
  rw [HG.out] at hce
  have hwz : IntKind.i64.wrap 0 = 0 := by decide
  have hi0 : decide ((i : Int) < 0) = false := by simp
  have hi1 : decide (zs.length ≤ i) = false := by rw [decide_eq_false_iff_not]; omega
  go_wp2_with fail
  go_quiet (fail)
  clear hwz hi0 hi1
  have hv6 := hv5.drewN nq
  have tma6 : Tm (w5.drewN nq) ta i t 0 false := tma5
  have tmb6 : Tm (w5.drewN nq) tb 0 t 0 false := tmb'
  have hB6 := below_drewN hB5 nq
  clear hv5 tma5 tmb' hB5 so5 hcell1 hce hc1
  generalize hw6 : w5.drewN nq = w6 at *
  clear hw6
  go_wp2_with fail
  go_loop [105] (fun v => ∃ k : Nat, k ≤ zs.length ∧ v = .int .i64 k) (fun v => zs.length - (intOf v).toNat)
  case atStart => exact ⟨0, by omega, rfl⟩
  case round =>
    obtain ⟨k, hk, rfl⟩ := hrel
    by_cases hlk : k < zs.length
    · obtain ⟨ad', hA', _, hck⟩ := hv6.at_ hlk
      injection hA' with hA'
      subst hA'
      obtain ⟨ad', hA', _, hci⟩ := hv6.at_ hil
      injection hA' with hA'
      subst hA'
      rw [HG.out] at hci
      have hge : t ≤ zs.getD k 0 := by exact HA1.out k hlk
      have hgt : k < i → ¬ zs.getD k 0 = t := by intro h; have := HA2.out k h; omega
      generalize hxk : zs.getD k 0 = x at hck hge hgt
      clear hxk
      by_cases hki : k < i
      · have hb : (x == t) = false := beq_eq_false_iff_ne.2 (hgt hki)
        clear hgt
        go_wp2_with fail
        go_round
        case rel => exact ⟨k + 1, by omega, by go_num⟩
        case measure => simp [intOf]; omega
      · clear hgt
        go_wp2_with fail
        go_round
        case rel => exact ⟨k + 1, by omega, by go_num⟩
        case measure => simp [intOf]; omega
    · go_wp2_with fail
      have htab : ¬ ta = tb := by omega
      go_loopw [132] (fun v wr => ∃ k : Nat, (k : Int) ≤ n % 41 ∧ v = .int .u8 k ∧ TmN wr ta i t k ∧ TmN wr tb 0 t k ∧ Below w.heap.size w wr) (fun v _ => (n % 41).toNat - (intOf v).toNat)
      case atStart => exact ⟨0, by omega, rfl, tm_start tma6 (by omega), tm_start tmb6 (by omega), hB6⟩
      case round =>
        obtain ⟨k, hk, rfl, tA, tB, hbr⟩ := hrel
        have hq : n % 41 < 41 := by omega
        by_cases hlt : (k : Int) < n % 41
        · have hk40 : k ≤ 40 := by omega
          by_cases hke : (k : Int) + 1 < t
          · replace tA := tA.early (by omega)
            replace tB := tB.early (by omega)
            go_wp2_with fail
            refine (tick_early ta (i : Int) t _ _ tA (by omega) (by omega) (by omega) (by omega)).mono ?_
            rintro e x1 ⟨rfl, og1, tA1⟩
            have tB1 := tB.only og1 (by omega)
            have X1 := below_only hbr og1 hta hbr.size
            clear tA tB hbr og1
            go_wp2_with fail
            refine (tick_early tb 0 t _ _ tB1 (by omega) (by omega) (by omega) (by omega)).mono ?_
            rintro e x2 ⟨rfl, og2, tB2⟩
            have tA2 := tA1.only og2 (by omega)
            have X2 := below_only X1 og2 htb X1.size
            clear tA1 tB1 X1 og2
            go_wp2_with fail
            refine (left_runs ta (i : Int) t _ _ tA2 (by omega) (by omega) (by omega) (by omega) (by omega)).mono ?_
            rintro e x3 ⟨rfl, hb3⟩
            have tA3 := tA2.below hb3
            have tB3 := tB2.below hb3
            have X3 := X2.trans (hb3.mono X2.size)
            clear tA2 tB2 X2 hb3
            go_wp2_with fail
            refine (left_runs tb 0 t _ _ tB3 (by omega) (by omega) (by omega) (by omega) (by omega)).mono ?_
            rintro e x4 ⟨rfl, hb4⟩
            have tA4 := tA3.below hb4
            have tB4 := tB3.below hb4
            have X4 := X3.trans (hb4.mono X3.size)
            clear tA3 tB3 X3 hb4
            go_wp2_with (first | (go_at_call_of 17 (Value.pointer (some ⟨ta, 0, none⟩)); refine (at_any ta _ _ _ _ _ tA4).mono ?_; rintro e w' ⟨rfl, rfl⟩) | (go_at_call_of 17 (Value.pointer (some ⟨tb, 0, none⟩)); refine (at_any tb _ _ _ _ _ tB4).mono ?_; rintro e w' ⟨rfl, rfl⟩) | (go_at_call_of 18 (Value.pointer (some ⟨ta, 0, none⟩)); refine (fired_any ta _ _ _ _ _ tA4).mono ?_; rintro e w' ⟨rfl, rfl⟩) | (go_at_call_of 18 (Value.pointer (some ⟨tb, 0, none⟩)); refine (fired_any tb _ _ _ _ _ tB4).mono ?_; rintro e w' ⟨rfl, rfl⟩))
            go_roundw
            case rel => exact ⟨k + 1, by omega, by go_num, tm_early tA4 (by omega), tm_early tB4 (by omega), X4⟩
            case measure => simp [intOf]; omega

          · by_cases hkt : (k : Int) + 1 = t
            · replace tA := tA.early (by omega)
              replace tB := tB.early (by omega)
              have HK := Lib.hid hkt
              clear hkt
              go_wp2_with fail
              refine (tick_fires ta (i : Int) t _ _ tA (by omega) (by omega) (by omega) HK.out).mono ?_
              rintro e x1 ⟨rfl, og1, tA1⟩
              have tB1 := tB.only og1 (by omega)
              have X1 := below_only hbr og1 hta hbr.size
              clear tA tB hbr og1
              go_wp2_with fail
              refine (tick_fires tb 0 t _ _ tB1 (by omega) (by omega) (by omega) HK.out).mono ?_
              rintro e x2 ⟨rfl, og2, tB2⟩
              have tA2 := tA1.only og2 (by omega)
              have X2 := below_only X1 og2 htb X1.size
              clear tA1 tB1 X1 og2
              go_wp2_with fail
              refine (left_not ta (i : Int) t _ true _ tA2 (.inr rfl)).mono ?_
              rintro e x3 ⟨rfl, hb3⟩
              have tA3 := tA2.below hb3
              have tB3 := tB2.below hb3
              have X3 := X2.trans (hb3.mono X2.size)
              clear tA2 tB2 X2 hb3
              go_wp2_with fail
              refine (left_not tb 0 t _ true _ tB3 (.inr rfl)).mono ?_
              rintro e x4 ⟨rfl, hb4⟩
              have tA4 := tA3.below hb4
              have tB4 := tB3.below hb4
              have X4 := X3.trans (hb4.mono X3.size)
              clear tA3 tB3 X3 hb4
              go_wp2_with (first | (go_at_call_of 17 (Value.pointer (some ⟨ta, 0, none⟩)); refine (at_any ta _ _ _ _ _ tA4).mono ?_; rintro e w' ⟨rfl, rfl⟩) | (go_at_call_of 17 (Value.pointer (some ⟨tb, 0, none⟩)); refine (at_any tb _ _ _ _ _ tB4).mono ?_; rintro e w' ⟨rfl, rfl⟩) | (go_at_call_of 18 (Value.pointer (some ⟨ta, 0, none⟩)); refine (fired_any ta _ _ _ _ _ tA4).mono ?_; rintro e w' ⟨rfl, rfl⟩) | (go_at_call_of 18 (Value.pointer (some ⟨tb, 0, none⟩)); refine (fired_any tb _ _ _ _ _ tB4).mono ?_; rintro e w' ⟨rfl, rfl⟩))
              go_roundw
              case rel => exact ⟨k + 1, by omega, by go_num, tm_fires tA4 HK.out, tm_fires tB4 HK.out, X4⟩
              case measure => simp [intOf]; omega

            · replace tA := tA.late (by omega)
              replace tB := tB.late (by omega)
              go_wp2_with fail
              refine (tick_fired ta (i : Int) t _ _ tA).mono ?_
              rintro e x1 ⟨rfl, rfl⟩
              go_wp2_with fail
              refine (tick_fired tb 0 t _ _ tB).mono ?_
              rintro e x2 ⟨rfl, rfl⟩
              go_wp2_with fail
              refine (left_not ta (i : Int) t _ true _ tA (.inr rfl)).mono ?_
              rintro e x3 ⟨rfl, hb3⟩
              have tA3 := tA.below hb3
              have tB3 := tB.below hb3
              have X3 := hbr.trans (hb3.mono hbr.size)
              clear tA tB hbr hb3
              go_wp2_with fail
              refine (left_not tb 0 t _ true _ tB3 (.inr rfl)).mono ?_
              rintro e x4 ⟨rfl, hb4⟩
              have tA4 := tA3.below hb4
              have tB4 := tB3.below hb4
              have X4 := X3.trans (hb4.mono X3.size)
              clear tA3 tB3 X3 hb4
              go_wp2_with (first | (go_at_call_of 17 (Value.pointer (some ⟨ta, 0, none⟩)); refine (at_any ta _ _ _ _ _ tA4).mono ?_; rintro e w' ⟨rfl, rfl⟩) | (go_at_call_of 17 (Value.pointer (some ⟨tb, 0, none⟩)); refine (at_any tb _ _ _ _ _ tB4).mono ?_; rintro e w' ⟨rfl, rfl⟩) | (go_at_call_of 18 (Value.pointer (some ⟨ta, 0, none⟩)); refine (fired_any ta _ _ _ _ _ tA4).mono ?_; rintro e w' ⟨rfl, rfl⟩) | (go_at_call_of 18 (Value.pointer (some ⟨tb, 0, none⟩)); refine (fired_any tb _ _ _ _ _ tB4).mono ?_; rintro e w' ⟨rfl, rfl⟩))
              go_roundw
              case rel => exact ⟨k + 1, by omega, by go_num, tm_fired tA4 (by omega), tm_fired tB4 (by omega), X4⟩
              case measure => simp [intOf]; omega

        · go_wp2_with (go_at_call 10; refine (awake_any _).mono ?_; rintro e w1 ⟨rfl, hb1⟩)
          go_ret
          exact ⟨rfl, hbr.trans (hb1.mono hbr.size)⟩
end Go.Proofs.Ytkkmipegolaleaa
