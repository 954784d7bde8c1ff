/-
  The reference of quote: ReadByte.
-/
import Derived.Test.YtdgihlelopfdeaaRefG
namespace Go.Proofs.Ytdgihlelopfdeaa
open Go.RowKit Q

/-- What ReadByte of the reference answers: the bytes that it may be are tried, each in all its forms. -/
def rdr (m : Int → Bool) (xs : List Int) : List Int → Int × Int × Int
  | [] => (0, 0, 20)
  | c :: t => match (fL (m c) c).find? (fun z => decide (z <+: xs)) with
    | some z => (c, (z.length : Int), 0)
    | none => rdr m xs t

theorem find_hit (p : List Int → Bool) : ∀ (zs : List (List Int)) (j : Nat), j < zs.length → (∀ i, i < j → p (zs.getD i []) = false) → p (zs.getD j []) = true → zs.find? p = some (zs.getD j [])
  | [], j, h, _, _ => by simp at h
  | z :: t, 0, _, _, h => by
    have h' : p z = true := by simpa using h
    rw [List.find?_cons_of_pos h']; simp
  | z :: t, j + 1, hj, hno, h => by
    have h0 : p z = false := by simpa using hno 0 (by omega)
    rw [List.find?_cons_of_neg (by simp [h0])]
    have := find_hit p t j (by simpa using hj) (fun i hi => by simpa using hno (i + 1) (by omega)) (by simpa using h)
    rw [this]; simp
theorem find_miss (p : List Int → Bool) : ∀ (zs : List (List Int)), (∀ i, i < zs.length → p (zs.getD i []) = false) → zs.find? p = none
  | [], _ => rfl
  | z :: t, h => by
    have h0 : p z = false := by simpa using h 0 (by simp)
    rw [List.find?_cons_of_neg (by simp [h0])]
    exact find_miss p t (fun i hi => by simpa using h (i + 1) (by simpa using hi))
theorem drop_at (ys : List Int) (k : Nat) (h : k < ys.length) : ys.drop k = ys.getD k 0 :: ys.drop (k + 1) := by
  rw [List.drop_eq_getElem_cons h, List.getD_eq_getElem?_getD, List.getElem?_eq_getElem h]; rfl
theorem rdr_hit (m : Int → Bool) (xs ys : List Int) (k : Nat) (h : k < ys.length) (j : Nat) (hj : j < (fL (m (ys.getD k 0)) (ys.getD k 0)).length) (hno : ∀ i, i < j → decide ((fL (m (ys.getD k 0)) (ys.getD k 0)).getD i [] <+: xs) = false)
    (hy : decide ((fL (m (ys.getD k 0)) (ys.getD k 0)).getD j [] <+: xs) = true) : rdr m xs (ys.drop k) = (ys.getD k 0, (((fL (m (ys.getD k 0)) (ys.getD k 0)).getD j []).length : Int), 0) := by
  rw [drop_at ys k h, rdr, find_hit _ _ j hj hno hy]
theorem rdr_miss (m : Int → Bool) (xs ys : List Int) (k : Nat) (h : k < ys.length) (hno : ∀ i, i < (fL (m (ys.getD k 0)) (ys.getD k 0)).length → decide ((fL (m (ys.getD k 0)) (ys.getD k 0)).getD i [] <+: xs) = false) : rdr m xs (ys.drop k) = rdr m xs (ys.drop (k + 1)) := by
  rw [drop_at ys k h, rdr, find_miss _ _ hno]

theorem dg_range (c : Int) : 0 ≤ dg c ∧ dg c ≤ 15 := by have := nib_range c; unfold dg; split <;> omega
theorem by_may {xs : List Int} (h : By xs) : By (mayL xs) := by
  match xs, h with
  | [], _ => intro x hx; simp [mayL] at hx
  | [c], h => intro x hx; have := h c (by simp); simp only [mayL] at hx; split at hx <;> simp at hx <;> omega
  | [c, d], h => intro x hx; have := h c (by simp); have := h d (by simp); simp only [mayL] at hx; split at hx <;> simp at hx <;> omega
  | [c, d, e], h => intro x hx; have := h c (by simp); have := h d (by simp); simp only [mayL] at hx; split at hx <;> simp at hx <;> omega
  | c :: d :: e :: f :: t, h =>
    intro x hx
    have := h c (by simp)
    have := h d (by simp)
    have := dg_range e
    have := dg_range f
    simp only [mayL] at hx
    split at hx <;> simp at hx <;> omega
theorem may_len (xs : List Int) : (mayL xs).length ≤ 5 := by
  match xs with
  | [] => simp [mayL]
  | [c] => simp only [mayL]; split <;> simp
  | [c, d] => simp only [mayL]; split <;> simp
  | [c, d, e] => simp only [mayL]; split <;> simp
  | c :: d :: e :: f :: t => simp only [mayL]; split <;> simp
theorem by_form (m : Bool) (c : Int) (h0 : 0 ≤ c) (h1 : c ≤ 255) : ∀ z ∈ fL m c, By z ∧ z.length ≤ 4 := by
  have a := hexd_range (n := c / 16) (by omega) (by omega)
  have b := hexd_range (n := c % 16) (by omega) (by omega)
  have a2 := hexu_range (n := c / 16) (by omega) (by omega)
  have b2 := hexu_range (n := c % 16) (by omega) (by omega)
  have hh : ∀ i, By (hx c i) ∧ (hx c i).length ≤ 4 := by
    intro i
    refine ⟨?_, by simp [hx]⟩
    intro x hxx
    have d1 : 0 ≤ dig (c / 16) (decide (i % 2 = 1)) ∧ dig (c / 16) (decide (i % 2 = 1)) ≤ 255 := by unfold dig; split <;> omega
    have d2 : 0 ≤ dig (c % 16) (decide (i / 2 = 1)) ∧ dig (c % 16) (decide (i / 2 = 1)) ≤ 255 := by unfold dig; split <;> omega
    simp [hx] at hxx
    omega
  intro z hz
  unfold fL at hz
  rcases List.mem_append.1 hz with hz | hz
  · rcases List.mem_append.1 hz with hz | hz
    · rcases List.mem_append.1 hz with hz | hz
      · unfold f1 at hz; split at hz
        · simp at hz; subst hz; exact ⟨by intro x hx; simp at hx; omega, by simp⟩
        · simp at hz
      · unfold f2 at hz; split at hz
        · simp at hz; subst hz; exact ⟨by intro x hx; simp at hx; omega, by simp⟩
        · simp at hz
    · simp only [f3] at hz
      rcases List.mem_append.1 hz with hz | hz
      · rcases List.mem_append.1 hz with hz | hz
        · split at hz
          · simp at hz; subst hz; exact ⟨by_dec _ (by decide), by simp⟩
          · simp at hz
        · split at hz
          · simp at hz; subst hz; exact ⟨by_dec _ (by decide), by simp⟩
          · simp at hz
      · split at hz
        · simp at hz; subst hz; exact ⟨by_dec _ (by decide), by simp⟩
        · simp at hz
  · simp only [f4] at hz
    simp at hz
    rcases hz with rfl | rfl | rfl | rfl
    · exact hh 0
    · exact hh 1
    · exact hh 2
    · exact hh 3
theorem form_len (m : Bool) (c : Int) : (fL m c).length ≤ 9 := by have := fp_len m c 4; exact this

theorem Sl5.at_ {w : World} {A : Option Addr} {zs : List Int} {k : Nat} (h : Sl5 w A zs) (hk : k < zs.length) :
    ∃ ad, A = some ad ∧ ad.block < w.heap.size ∧ w.cell? (ad.add k) = some (.int .u8 (zs.getD k 0)) := by
  obtain ⟨ad, u, rfl, hb, hx, hc⟩ := Reads.at_ h hk
  refine ⟨ad, rfl, hb, hc.trans ?_⟩
  rw [← hx, List.getElem?_map, List.getD_eq_getElem?_getD, List.getElem?_eq_getElem hk]
  rfl
theorem Sl5.below {w w1 : World} {A : Option Addr} {zs : List Int} (h : Sl5 w A zs) (hb : Below w.heap.size w w1) : Sl5 w1 A zs := (Reads.below h hb).more hb.size
theorem Sl55.at_ {w : World} {A : Option Addr} {zs : List (List Int)} {k : Nat} (h : Sl55 w A zs) (hk : k < zs.length) :
    ∃ ad, A = some ad ∧ ad.block < w.heap.size ∧ w.cell? (ad.add k) = some (.string (strOfNums (zs.getD k []))) := by
  obtain ⟨ad, u, rfl, hb, hx, hc⟩ := Reads.at_ h hk
  refine ⟨ad, rfl, hb, hc.trans ?_⟩
  rw [← hx, List.getElem?_map, List.getD_eq_getElem?_getD, List.getElem?_eq_getElem hk]
  rfl

set_option maxRecDepth 100000 in
set_option maxHeartbeats 8000000 in
/-- ReadByte of the reference. -/
theorem rrd_any (S : Array Value) (h : Int → Bool) (xs : List Int) (w : World) (hS : Rs S h) (hb : By xs) (hl : xs.length ≤ 1000000000) (r : Int × Int × Int) (hr : rdr (mkr h) xs (mayL xs) = r) :
    Calls Try.prog 27 #[.string (strOfNums xs), .agg S] w fun e w' => e = .returned (.tuple #[.int .u8 r.1, .int .i64 r.2.1, .int .i64 r.2.2]) ∧ Below w.heap.size w w' := by
  have HMAY := Lib.hid (fun w => may_any xs w hb hl)
  have hby := by_may hb
  have hyl := may_len xs
  generalize mayL xs = ys at *
  have HR := Lib.hid hr
  clear hr
  have HS := Lib.hid hS
  have hs := Lib.hid hS.1
  clear hS
  have hK0 := Blk.new w 60 S
  go_enter Try.func27, Try.ntmps27
  go_wp2_with (go_at_call 43; refine (HMAY.out _).mono ?_; rintro e w1 ⟨⟨A, cp, rfl, hA⟩, hb1⟩)
  have hK1 := hK0.below hb1 hK0.lt
  have hB1 : Below w.heap.size w w1 := bl (by go_grown) hb1
  clear hb1 hK0 HMAY
  go_loopw [8] (fun i wr => ∃ k : Nat, k ≤ ys.length ∧ i = .int .i64 k ∧ rdr (mkr h) xs (ys.drop k) = r ∧ Sl5 wr A ys ∧ Blk wr w.heap.size 60 S ∧ Below w.heap.size w wr) (fun i _ => ys.length - (intOf i).toNat)
  case atStart => exact ⟨0, by omega, rfl, by simpa using HR.out, hA, hK1, hB1⟩
  case round =>
    clear hA hK1 hB1
    obtain ⟨k, hk, rfl, hrd, hA, hK, hB⟩ := hrel
    have HRD := Lib.hid hrd
    clear hrd
    by_cases hlt : k < ys.length
    · obtain ⟨ad, hAd, hab, hac⟩ := hA.at_ hlt
      have hcr := by_getD hby k
      have HIT := Lib.hid (rdr_hit (mkr h) xs ys k hlt)
      have MISS := Lib.hid (rdr_miss (mkr h) xs ys k hlt)
      have HFO := Lib.hid (fun w => forms_any S h (ys.getD k 0) w HS.out hcr.1 hcr.2)
      have HBF := Lib.hid (by_form (mkr h (ys.getD k 0)) (ys.getD k 0) hcr.1 hcr.2)
      have hzl := form_len (mkr h (ys.getD k 0)) (ys.getD k 0)
      generalize hgc : ys.getD k 0 = c at *
      have HGC := Lib.hid hgc
      clear hgc
      generalize fL (mkr h c) c = zs at *
      subst hAd
      have pc : ∀ p : Bw wr, p.val.cell? (ad.add k) = some (.int .u8 c) := Bw.cell (by rw [block_of_add]; exact hab) hac
      go_upto_region 5 with fail
      refine wp_region_bw_tail 5 (by kernel_rfl) (by kernel_rfl) ?_
      simp only [List.take_succ_cons, List.take_zero, List.drop_succ_cons, List.drop_zero]
      repeat (go_big_quiet_step (fail))
      refine wpQuiet_byK (.agg S) rfl (quiet_load60 (.tmp 3) rfl rfl hs.out (bw_blk hK)) (fun K hK => ?_)
      go_simp
      refine hK _ ?_
      clear hK K
      refine wpQuiet_nil ?_
      rintro _ ⟨p, rfl⟩
      obtain ⟨w5, hb5⟩ := p
      dsimp only
      have hA5 := hA.below hb5
      have hK5 := hK.below hb5 hK.lt
      have hB5 := bl hB hb5
      clear hb5 hA hK hB pc hab hac
      go_wp2_with (go_at_call 44; refine (HFO.out _).mono ?_; rintro e w6 ⟨⟨F, cf, rfl, hF⟩, hb6⟩)
      have hA6 := hA5.below hb6
      have hK6 := hK5.below hb6 hK5.lt
      have hB6 := bl hB5 hb6
      clear hb6 hA5 hK5 hB5 HFO
      go_loopw [10] (fun i w' => ∃ j : Nat, j ≤ zs.length ∧ i = .int .i64 j ∧ (∀ i : Nat, i < j → decide (zs.getD i [] <+: xs) = false) ∧ w' = w6) (fun i _ => zs.length - (intOf i).toNat)
      case atStart => exact ⟨0, by omega, rfl, fun i hi => absurd hi (by omega), rfl⟩
      case round =>
        obtain ⟨j, hj, rfl, hno, rfl⟩ := hrel
        have HNO := Lib.hid hno
        clear hno
        by_cases hjl : j < zs.length
        · obtain ⟨fd, hFd, hfb, hfc⟩ := hF.at_ hjl
          obtain ⟨ad2, hAd2, hab2, hac2⟩ := hA6.at_ hlt
          obtain rfl : ad = ad2 := by injection hAd2
          rw [HGC.out] at hac2
          have hmem : zs.getD j [] ∈ zs := by rw [List.getD_eq_getElem?_getD, List.getElem?_eq_getElem hjl]; exact List.getElem_mem hjl
          have HBG := Lib.hid (fun w => begins_any xs (zs.getD j []) w hb (HBF.out _ hmem).1 hl (by have := (HBF.out _ hmem).2; omega))
          have HIT2 := Lib.hid (HIT.out j hjl HNO.out)
          have hzs := strOfNums_size (zs.getD j [])
          have hz4 := (HBF.out _ hmem).2
          have hsp : ∀ (b : Bool), decide (zs.getD j [] <+: xs) = b → Hid (decide (zs.getD j [] <+: xs) = b) := fun b h => Lib.hid h
          subst hFd
          cases hd : decide (zs.getD j [] <+: xs) with
          | true =>
            have HD := Lib.hid hd
            rw [hd] at HBG
            have HQ := Lib.hid (HIT2.out hd)
            clear hd hsp HIT2 hmem
            generalize strOfNums (zs.getD j []) = sz at *
            generalize (zs.getD j []).length = lz at *
            have pc : ∀ p : Bw wr, p.val.cell? (ad.add k) = some (.int .u8 c) := Bw.cell (by rw [block_of_add]; exact hab2) hac2
            have pf : ∀ p : Bw wr, p.val.cell? (fd.add j) = some (.string sz) := Bw.cell (by rw [block_of_add]; exact hfb) hfc
            go_wp2_with (go_at_call 45; refine (HBG.out _).mono ?_; rintro e w7 ⟨rfl, rfl⟩)
            refine wp_region_bw (by kernel_rfl) (by kernel_rfl) ?_
            repeat (go_big_quiet_step (fail))
            refine wpQuiet_nil ?_
            rintro _ ⟨p, rfl⟩
            obtain ⟨w8, hb8⟩ := p
            dsimp only
            go_wp2_with fail
            go_ret3
            refine ⟨?_, bl hB6 hb8⟩
            rw [← HRD.out, HQ.out]
            rfl
          | false =>
            have HD := Lib.hid hd
            rw [hd] at HBG
            clear hd hsp HIT2 hmem
            generalize strOfNums (zs.getD j []) = sz at *
            go_wp2_with (go_at_call 45; refine (HBG.out _).mono ?_; rintro e w7 ⟨rfl, rfl⟩)
            go_roundw
            case rel =>
              refine ⟨j + 1, by omega, by go_num, fun i hi => ?_, by trivial⟩
              by_cases e : i = j
              · subst e; exact HD.out
              · exact HNO.out i (by omega)
            case measure => simp [intOf]; omega
        · obtain rfl : j = zs.length := by omega
          have HM := Lib.hid (MISS.out HNO.out)
          go_wp2_with fail
          go_roundw
          case rel => exact ⟨k + 1, by omega, by go_num, by rw [← HM.out]; exact HRD.out, hA6, hK6, hB6⟩
          case measure => simp [intOf]; omega
    · obtain rfl : k = ys.length := by omega
      go_wp2_with fail
      go_ret3
      refine ⟨?_, hB⟩
      rw [← HRD.out, List.drop_length]
      rfl
end Go.Proofs.Ytdgihlelopfdeaa
