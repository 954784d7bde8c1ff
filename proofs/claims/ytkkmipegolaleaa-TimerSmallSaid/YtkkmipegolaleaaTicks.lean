/-
  ticks of the timer's law: whatever the two lists of timeouts and the number of ticks.
-/
import Derived.Test.YtkkmipegolaleaaParts
import Derived.Test.YtkkmipegolaleaaMore
namespace Go.Proofs.Ytkkmipegolaleaa
open Go.RowKit T

set_option maxHeartbeats 400000 in
/-- Enter at timeouts that are not right. -/
theorem enter_bad (zs : List Int) (A : Option Addr) (c : Nat) (t : Nat) (i k a : Int) (f : Bool) (w : World) (ht : Tm w t i k a f) (hv : Sl w A zs) (hc : chk zs ≠ 0) :
    Calls Try.prog 21 #[.pointer (some ⟨t, 0, none⟩), .slice A zs.length c] w fun e w' => e = .returned (.int .i64 (chk zs)) ∧ w = w' := by
  have hb : (chk zs != 0) = true := by simpa using hc
  go_enter Try.func21, Try.ntmps21
  go_wp2_with (first | (go_at_call 34; refine (is_any t i k a _ _ ht).mono ?_; rintro e w' ⟨rfl, rfl⟩) | (go_at_call 29; refine (check_any zs A c _ hv).mono ?_; rintro e w' ⟨rfl, rfl⟩))
  go_ret
  exact ⟨rfl, rfl⟩

set_option maxHeartbeats 1000000 in
set_option maxRecDepth 100000 in
theorem ticks_bad (zs : List Int) (A A' : Option Addr) (c m' c' : Nat) (n : Int) (w : World) (hv : Sl w A zs) (hl : zs.length ≤ 100) (hc : chk zs ≠ 0) :
    Calls Try.prog 22 #[.slice A zs.length c, .slice A' m' c', .int .i64 n] w fun e w' => e = .returned (.bool true) ∧ Below w.heap.size w w' := by
  have hb0 : (chk zs == 0) = false := beq_eq_false_iff_ne.2 hc
  have hb1 : (chk zs != 0) = true := by simpa using hc
  go_enter Try.func22, Try.ntmps22
  go_wp2_with fail
  refine (clone_any zs A c w hv (by omega)).mono ?_
  rintro e w1 ⟨A1, c1, rfl, hown, hbb1⟩
  have ho1 := own_sl hown (by omega)
  have hv1 := hv.below hbb1
  clear hv hown
  go_wp2_with fail
  refine (new_bad zs A1 c1 _ ho1 hc).mono ?_
  rintro e w2 ⟨rfl, hbb2⟩
  have hv2 := hv1.below hbb2
  have hB2 := hbb1.trans (hbb2.mono hbb1.size)
  clear hv1 ho1 hbb1 hbb2
  go_wp2_with fail
  refine (rcheck_any zs A c _ hv2).mono ?_
  rintro e w' ⟨rfl, rfl⟩
  go_wp2_with fail
  go_ret
  exact ⟨rfl, hB2⟩

def cnti (i t : Int) (j : Nat) : Int := if i < 0 then j else cnt t j
def frdi (i t : Int) (j : Nat) : Bool := if i < 0 then false else if (j : Int) < t then false else true
/-- The timer behind j ticks. -/
def TmJ (w : World) (b : Nat) (i t : Int) (j : Nat) : Prop := Tm w b i t (cnti i t j) (frdi i t j)
theorem cnti_none {i t : Int} {j : Nat} (h : i < 0) : cnti i t j = j := by simp [cnti, h]
theorem frdi_none {i t : Int} {j : Nat} (h : i < 0) : frdi i t j = false := by simp [frdi, h]
theorem cnti_run {i t : Int} {j : Nat} (h : 0 ≤ i) (h2 : (j : Int) ≤ t) : cnti i t j = j := by
  unfold cnti cnt; rw [if_neg (by omega)]; split <;> omega
theorem frdi_run {i t : Int} {j : Nat} (h : 0 ≤ i) (h2 : (j : Int) < t) : frdi i t j = false := by
  unfold frdi; rw [if_neg (by omega), if_pos h2]
theorem cnti_end {i t : Int} {j : Nat} (h : 0 ≤ i) (h2 : t ≤ j) : cnti i t j = t := by
  unfold cnti cnt; rw [if_neg (by omega), if_neg (by omega)]
theorem frdi_end {i t : Int} {j : Nat} (h : 0 ≤ i) (h2 : t ≤ j) : frdi i t j = true := by
  unfold frdi; rw [if_neg (by omega), if_neg (by omega)]
theorem tmJ_cast {w : World} {b : Nat} {i t a : Int} {f : Bool} {j : Nat} (h : Tm w b i t a f) (ha : cnti i t j = a) (hf : frdi i t j = f) : TmJ w b i t j := by unfold TmJ; rw [ha, hf]; exact h
theorem tmJ_get {w : World} {b : Nat} {i t a : Int} {f : Bool} {j : Nat} (h : TmJ w b i t j) (ha : cnti i t j = a) (hf : frdi i t j = f) : Tm w b i t a f := by unfold TmJ at h; rw [ha, hf] at h; exact h
theorem tm_store {w : World} {t : Nat} {i k a : Int} {f : Bool} (h : Tm w t i k a f) {p : Addr} (hp : t ≠ p.block) (u : Value) : Tm (w.setCell p u) t i k a f := Blk.far h hp u
theorem slb_store {w : World} {B : Nat} {A : Option Addr} {zs : List Int} (h : Slb w B A zs) {p : Addr} (hp : B ≤ p.block) (u : Value) : Slb (w.setCell p u) B A zs :=
  ⟨h.1, by simpa [World.setCell] using h.2.1, h.2.2.setCell hp u⟩

/-- The list of the first round, and that of the second one. -/
def zk (zs ys : List Int) (k : Nat) : List Int := if k = 0 then zs else ys
def Row1 (w : World) (B : Nat) (A : Option Addr) (c n : Nat) : Prop := ∃ xs, w.ownsRow B 3 1 (.slice A n c) n xs
def Rdy (w : World) (t : Nat) (zs ys : List Int) (k : Nat) : Prop := k < 2 → chk (zk zs ys k) = 0 ∧ Tm w t (ix (zk zs ys k)) (tk (zk zs ys k)) 0 false
theorem rdy_get {w : World} {t g : Nat} {zs ys : List Int} {k B : Nat} {A A' : Option Addr} {c c' : Nat} (h : Rdy w t zs ys k) (hk : k < 2) (hG : Blk w g 22 #[.slice A zs.length c, .slice A' ys.length c'])
    (va : Slb w B A zs) (vb : Slb w B A' ys) : ∃ (us : List Int) (Au : Option Addr) (cu : Nat), w.cell? ⟨g, k, none⟩ = some (.slice Au us.length cu) ∧ Slb w B Au us ∧ chk us = 0 ∧ Tm w t (ix us) (tk us) 0 false := by
  obtain ⟨h1, h2⟩ := h hk
  rcases (by omega : k = 0 ∨ k = 1) with rfl | rfl
  · exact ⟨zs, A, c, hG.cell 0, va, h1, h2⟩
  · exact ⟨ys, A', c', hG.cell 1, vb, h1, h2⟩
theorem rdy_next {w : World} {t : Nat} {zs ys : List Int} {k : Nat} (h : chk ys = 0) (ht : Tm w t (ix ys) (tk ys) 0 false) : Rdy w t zs ys (k + 1) := fun _ => by
  unfold zk; rw [if_neg (by omega)]; exact ⟨h, ht⟩
theorem ix_case {us : List Int} (hc : chk us = 0) {i t : Int} (hi : ix us = i) (ht : tk us = t) : i < 0 ∨ ∃ m : Nat, i = m ∧ m < us.length ∧ us.getD m 0 = t ∧ 1 ≤ t ∧ t ≤ 1000 := by
  by_cases h : us = []
  · subst h; left; rw [← hi]; decide
  · right
    have hr := tk_range h hc
    refine ⟨am us us.length, by rw [← hi, ix_nonneg h], am_lt us us.length (List.length_pos_iff.2 h), by rw [← ht, tk_of h], by omega, by omega⟩
theorem blk_only {w w1 : World} {g t : Nat} {ty : TypeId} {cs : Array Value} {i k a : Int} {f : Bool} (h : Blk w g ty cs) (ht : Tm w t i k a f) (hne : ty ≠ 50) (hg : w.grownBy w1 (some t)) : Blk w1 g ty cs :=
  h.grown hg (fun e => Blk.ne_ h ht hne (by injection e))

set_option maxHeartbeats 16000000 in
set_option maxRecDepth 100000 in
theorem ticks_ok (zs ys : List Int) (A A' : Option Addr) (c c' : Nat) (n : Nat) (w : World) (hv : Sl w A zs) (hv' : Sl w A' ys) (hl : zs.length ≤ 100) (hn : n ≤ 100) (hc : chk zs = 0) :
    Calls Try.prog 22 #[.slice A zs.length c, .slice A' ys.length c', .int .i64 n] w fun e w' => e = .returned (.bool true) ∧ Below w.heap.size w w' := by
  have HC := Lib.hid hc
  clear hc
  go_enter Try.func22, Try.ntmps22
  go_wp2_with fail
  refine (clone_any zs A c w hv (by omega)).mono ?_
  rintro e w1 ⟨A1, c1, rfl, hown, hb1⟩
  have ho1 := own_sl hown (by omega)
  have hs1 := hv.slb.below hb1
  have hs1' := hv'.slb.below hb1
  clear hv hv'
  go_wp2_with fail
  refine (new_ok zs A1 c1 _ ho1 HC.out).mono ?_
  rintro e w2 ⟨t, rfl, hlt, tm2, hb2⟩
  have hs2 := hs1.below hb2
  have hs2' := hs1'.below hb2
  have ow2 : Row1 w2 w.heap.size A1 c1 zs.length := ⟨_, hown.kept (only_of_below hb2 none) (by cases h : (Value.slice A1 zs.length c1).ownBlock <;> simp)⟩
  have hB2 := hb1.trans (hb2.mono hb1.size)
  have htB : w.heap.size ≤ t := by have := hb1.size; omega
  clear hb1 hb2 hown ho1 hs1 hs1' hlt
  go_wp2_with fail
  refine (rcheck_ok A c _ hs2.sl HC.out).mono ?_
  rintro e w' ⟨rfl, rfl⟩
  go_wp2_with fail
  go_loopw [50] (fun v wr => ∃ k : Nat, k ≤ zs.length ∧ v = .int .i64 k ∧ Row1 wr w.heap.size A1 c1 zs.length ∧ Tm wr t (ix zs) (tk zs) 0 false ∧ Slb wr w.heap.size A zs ∧ Slb wr w.heap.size A' ys ∧ Below w.heap.size w wr) (fun v _ => zs.length - (intOf v).toNat)
  case atStart => exact ⟨0, by omega, rfl, ow2, tm2, hs2, hs2', hB2⟩
  case round =>
    clear ow2 tm2 hs2 hs2' hB2
    obtain ⟨k, hk, rfl, hrow, tA, va, vb, hbr⟩ := hrel
    by_cases hlt : k < zs.length
    · obtain ⟨xs, how⟩ := hrow
      obtain ⟨g, cap, hform, hgB, hgl⟩ := how.form (by omega)
      obtain ⟨rfl, -, rfl⟩ : A1 = some ⟨g, 0, none⟩ ∧ True ∧ c1 = cap := by injection hform with a _ b; exact ⟨a, trivial, b⟩
      clear hform
      have hxl : k < xs.length := by have := how.1; omega
      have hcell : wr.cell? ⟨g, k, none⟩ = some xs[k] := (how.cellAt k (by omega)).trans (List.getElem?_eq_getElem hxl)
      have hfz := how.frozenAt k
      have htg : t ≠ g := fun e => own_blk_ne how tA (by decide) (by rw [e]; rfl)
      have hst := (how.stored k (.int .i64 1)).1
      generalize xs[k] = xv at hcell
      have HST := Lib.hid hst
      clear hst how
      go_wp2_with fail
      go_roundw
      case rel => exact ⟨k + 1, by omega, by go_num, ⟨_, HST.out⟩, tm_store tA htg _, slb_store va hgB _, slb_store vb hgB _, hbr.setCell hgB _⟩
      case measure => simp [intOf]; omega
    · clear hrow
      obtain ⟨wo, rfl⟩ : ∃ wo : World, wo = wr := ⟨_, rfl⟩
      have hS := hbr.size
      have hbn : Below wo.heap.size wo (wo.alloc (.cells #[.slice A zs.length c, .slice A' ys.length c'] 22)) := (Below.refl _ _).alloc (Nat.le_refl _) _
      have v0 := va.below hbn
      have v1 := vb.below hbn
      have B1 := hbr.trans (hbn.mono hS)
      have t1 := Tm.below tA hbn
      have G0 := Blk.new wo 22 #[.slice A zs.length c, .slice A' ys.length c']
      go_wp2_with fail
      go_loopw [61] (fun v wr => ∃ k : Nat, k ≤ 2 ∧ v = .int .i64 k ∧ Blk wr wo.heap.size 22 #[.slice A zs.length c, .slice A' ys.length c'] ∧ Slb wr w.heap.size A zs ∧ Slb wr w.heap.size A' ys ∧ Below w.heap.size w wr ∧ Rdy wr t zs ys k) (fun v _ => 2 - (intOf v).toNat)
      case atStart => exact ⟨0, by omega, rfl, G0, v0, v1, B1, fun _ => ⟨HC.out, t1⟩⟩
      case round =>
        clear v0 v1 B1 t1 G0 hbn va vb tA hbr hk hlt
        obtain ⟨k, hk, rfl, hG, va, vb, hbr, hrdy⟩ := hrel
        by_cases hk2 : k < 2
        · obtain ⟨us, Au, cu, hcell, vu, hcu, tU⟩ := rdy_get hrdy hk2 hG va vb
          obtain ⟨i, hi⟩ : ∃ i, ix us = i := ⟨_, rfl⟩
          obtain ⟨tt, ht⟩ : ∃ tt, tk us = tt := ⟨_, rfl⟩
          rw [hi, ht] at tU
          have hcase := ix_case hcu hi ht
          have HU := Lib.hid hcu
          have HI := Lib.hid hi
          have HR := Lib.hid hrdy
          have HCase := Lib.hid hcase
          have HT := Lib.hid ht
          clear hcu hi hrdy hcase ht
          go_wp2_with fail
          refine (rfirst_any us Au cu _ vu.sl HU.out).mono ?_
          rintro e w' ⟨rfl, rfl⟩
          rw [HI.out]
          have tJ0 : TmJ wr t i tt 0 := tmJ_cast tU (by rcases HCase.out with h | ⟨m, rfl, _, _, h, _⟩; exact cnti_none h; exact cnti_run (by omega) (by omega)) (by rcases HCase.out with h | ⟨m, rfl, _, _, h, _⟩; exact frdi_none h; exact frdi_run (by omega) (by omega))
          have C0 : (Value.int .i64 0) = .int .i64 (cnti i tt 0) := by rcases HCase.out with h | ⟨m, rfl, _, _, h, _⟩; rw [cnti_none h]; rfl; rw [cnti_run (by omega) (by omega)]; rfl
          have F0 : (Value.bool false) = .bool (frdi i tt 0) := by rcases HCase.out with h | ⟨m, rfl, _, _, h, _⟩; rw [frdi_none h]; rw [frdi_run (by omega) (by omega)]
          have HC0 := Lib.hid C0
          have HF0 := Lib.hid F0
          clear C0 F0 tU
          obtain ⟨w2, rfl⟩ : ∃ w2 : World, w2 = wr := ⟨_, rfl⟩
          go_wp2_with fail
          go_loopw [15, 16, 68] (fun pa pf v wr => ∃ j : Nat, j ≤ n ∧ pa = .int .i64 (cnti i tt j) ∧ pf = .bool (frdi i tt j) ∧ v = .int .i64 j ∧ TmJ wr t i tt j ∧ Blk wr wo.heap.size 22 #[.slice A zs.length c, .slice A' ys.length c'] ∧ Slb wr w.heap.size A zs ∧ Slb wr w.heap.size A' ys ∧ Slb wr w.heap.size Au us ∧ Below w.heap.size w wr) (fun _ _ v _ => n - (intOf v).toNat)
          case atStart => exact ⟨0, by omega, HC0.out, HF0.out, rfl, tJ0, hG, va, vb, vu, hbr⟩
          case round =>
            clear tJ0 hG va vb vu hbr hcell HR
            obtain ⟨j, hj, hpa, hpf, rfl, tJ, hG, va, vb, vu, hbr⟩ := hrel
            by_cases hlt : j < n
            · rcases HCase.out with hneg | ⟨m, him, hil, hget, ht1, ht2⟩
              · rw [cnti_none hneg] at hpa
                rw [frdi_none hneg] at hpf
                subst hpa hpf
                replace tJ := tmJ_get tJ (cnti_none hneg) (frdi_none hneg)
                have hd : decide (0 ≤ i) = false := by simpa using hneg
                have hg1 := fun (x : World) => blk_only (w1 := x) hG tJ (by decide)
                go_wp2_with fail
                refine (tick_none t i tt _ _ tJ (by omega) (by omega) hneg).mono ?_
                rintro e x1 ⟨rfl, og1, tJ1⟩
                have G1 := hg1 _ og1
                have a1 := va.only og1 htB
                have b1 := vb.only og1 htB
                have u1 := vu.only og1 htB
                have X1 := below_only hbr og1 htB hbr.size
                clear tJ hG va vb vu hbr og1 hg1
                go_wp2_with fail
                refine (left_not t i tt _ false _ tJ1 (.inl hneg)).mono ?_
                rintro e x2 ⟨rfl, hb2⟩
                have G2 := Blk.below G1 hb2 G1.lt
                have a2 := a1.below hb2
                have b2 := b1.below hb2
                have u2 := u1.below hb2
                have tJ2 := tJ1.below hb2
                have X2 := X1.trans (hb2.mono X1.size)
                clear tJ1 G1 a1 b1 u1 X1 hb2
                go_wp2_with (first | (go_at_call 17; refine (at_any t _ _ _ _ _ tJ2).mono ?_; rintro e w' ⟨rfl, rfl⟩) | (go_at_call 18; refine (fired_any t _ _ _ _ _ tJ2).mono ?_; rintro e w' ⟨rfl, rfl⟩))
                go_roundw
                case rel => exact ⟨j + 1, by omega, by rw [cnti_none hneg]; go_num, by rw [frdi_none hneg], by go_num, tmJ_cast tJ2 (by rw [cnti_none hneg]; omega) (frdi_none hneg), G2, a2, b2, u2, X2⟩
                case measure => simp [intOf]; omega
              · subst him
                have hm0 : decide (0 ≤ (m : Int)) = true := by simp
                have hmi : (m : Int) < (us.length : Int) := by omega
                have hfar := Lib.hid (fun (x : World) (hx : Slb x w.heap.size Au us) => hx.sl.at_ hil)
                have HG := Lib.hid hget
                clear hget
                by_cases hje : (j : Int) + 1 < tt
                · rw [cnti_run (by omega) (by omega)] at hpa
                  rw [frdi_run (by omega) (by omega)] at hpf
                  subst hpa hpf
                  replace tJ := tmJ_get tJ (cnti_run (by omega) (by omega)) (frdi_run (by omega) (by omega))
                  have hb : ((j : Int) + 1 == tt) = false := beq_eq_false_iff_ne.2 (by omega)
                  have hg1 := fun (x : World) => blk_only (w1 := x) hG tJ (by decide)
                  go_wp2_with fail
                  refine (tick_early t (m : Int) tt _ _ tJ (by omega) (by omega) (by omega) (by omega)).mono ?_
                  rintro e x1 ⟨rfl, og1, tJ1⟩
                  have G1 := hg1 _ og1
                  have a1 := va.only og1 htB
                  have b1 := vb.only og1 htB
                  have u1 := vu.only og1 htB
                  have X1 := below_only hbr og1 htB hbr.size
                  clear tJ hG va vb vu hbr og1 hg1
                  obtain ⟨ad, rfl, had, hce⟩ := hfar.out _ u1
                  rw [HG.out] at hce
                  go_wp2_with fail
                  refine (left_runs t (m : Int) tt _ _ tJ1 (by omega) (by omega) (by omega) (by omega) (by omega)).mono ?_
                  rintro e x2 ⟨rfl, hb2⟩
                  have hce2 := cellk_below hb2 had hce
                  have G2 := Blk.below G1 hb2 G1.lt
                  have a2 := a1.below hb2
                  have b2 := b1.below hb2
                  have u2 := u1.below hb2
                  have tJ2 := tJ1.below hb2
                  have X2 := X1.trans (hb2.mono X1.size)
                  clear tJ1 G1 a1 b1 u1 X1 hb2 hce had
                  go_wp2_with (first | (go_at_call 17; refine (at_any t _ _ _ _ _ tJ2).mono ?_; rintro e w' ⟨rfl, rfl⟩) | (go_at_call 18; refine (fired_any t _ _ _ _ _ tJ2).mono ?_; rintro e w' ⟨rfl, rfl⟩))
                  go_roundw
                  case rel => exact ⟨j + 1, by omega, by rw [cnti_run (by omega) (by omega)]; go_num, by rw [frdi_run (by omega) (by omega)], by go_num, tmJ_cast tJ2 (by rw [cnti_run (by omega) (by omega)]; omega) (frdi_run (by omega) (by omega)), G2, a2, b2, u2, X2⟩
                  case measure => simp [intOf]; omega
                · by_cases hjt : (j : Int) + 1 = tt
                  · rw [cnti_run (by omega) (by omega)] at hpa
                    rw [frdi_run (by omega) (by omega)] at hpf
                    subst hpa hpf
                    replace tJ := tmJ_get tJ (cnti_run (by omega) (by omega)) (frdi_run (by omega) (by omega))
                    have hb : ((j : Int) + 1 == tt) = true := beq_iff_eq.2 hjt
                    have hg1 := fun (x : World) => blk_only (w1 := x) hG tJ (by decide)
                    have HJ := Lib.hid hjt
                    have hj1 : (j : Int) + 1 ≤ tt := by omega
                    have hj2 : tt ≤ (j : Int) + 1 := by omega
                    clear hjt hje
                    go_wp2_with fail
                    refine (tick_fires t (m : Int) tt _ _ tJ (by omega) (by omega) (by omega) HJ.out).mono ?_
                    rintro e x1 ⟨rfl, og1, tJ1⟩
                    have G1 := hg1 _ og1
                    have a1 := va.only og1 htB
                    have b1 := vb.only og1 htB
                    have u1 := vu.only og1 htB
                    have X1 := below_only hbr og1 htB hbr.size
                    clear tJ hG va vb vu hbr og1 hg1
                    obtain ⟨ad, rfl, had, hce⟩ := hfar.out _ u1
                    rw [HG.out] at hce
                    go_wp2_with fail
                    refine (left_not t (m : Int) tt _ true _ tJ1 (.inr rfl)).mono ?_
                    rintro e x2 ⟨rfl, hb2⟩
                    have hce2 := cellk_below hb2 had hce
                    have G2 := Blk.below G1 hb2 G1.lt
                    have a2 := a1.below hb2
                    have b2 := b1.below hb2
                    have u2 := u1.below hb2
                    have tJ2 := tJ1.below hb2
                    have X2 := X1.trans (hb2.mono X1.size)
                    clear tJ1 G1 a1 b1 u1 X1 hb2 hce had
                    go_wp2_with (first | (go_at_call 17; refine (at_any t _ _ _ _ _ tJ2).mono ?_; rintro e w' ⟨rfl, rfl⟩) | (go_at_call 18; refine (fired_any t _ _ _ _ _ tJ2).mono ?_; rintro e w' ⟨rfl, rfl⟩))
                    go_roundw
                    case rel => exact ⟨j + 1, by omega, by rw [cnti_run (by omega) (by omega)]; go_num, by rw [frdi_end (by omega) (by omega)], by go_num, tmJ_cast tJ2 (by rw [cnti_run (by omega) (by omega)]; omega) (frdi_end (by omega) (by omega)), G2, a2, b2, u2, X2⟩
                    case measure => simp [intOf]; omega
                  · have hj1 : tt ≤ (j : Int) := by omega
                    rw [cnti_end (by omega) (by omega)] at hpa
                    rw [frdi_end (by omega) (by omega)] at hpf
                    subst hpa hpf
                    replace tJ := tmJ_get tJ (cnti_end (by omega) (by omega)) (frdi_end (by omega) (by omega))
                    clear hjt hje
                    go_wp2_with fail
                    refine (tick_fired t (m : Int) _ _ _ tJ).mono ?_
                    rintro e x1 ⟨rfl, rfl⟩
                    go_wp2_with fail
                    refine (left_not t (m : Int) _ _ true _ tJ (.inr rfl)).mono ?_
                    rintro e x2 ⟨rfl, hb2⟩
                    have G2 := Blk.below hG hb2 hG.lt
                    have a2 := va.below hb2
                    have b2 := vb.below hb2
                    have u2 := vu.below hb2
                    have tJ2 := tJ.below hb2
                    have X2 := hbr.trans (hb2.mono hbr.size)
                    clear tJ hG va vb vu hbr hb2
                    go_wp2_with (first | (go_at_call 17; refine (at_any t _ _ _ _ _ tJ2).mono ?_; rintro e w' ⟨rfl, rfl⟩) | (go_at_call 18; refine (fired_any t _ _ _ _ _ tJ2).mono ?_; rintro e w' ⟨rfl, rfl⟩))
                    go_roundw
                    case rel => exact ⟨j + 1, by omega, by rw [cnti_end (by omega) (by omega)], by rw [frdi_end (by omega) (by omega)], by go_num, tmJ_cast tJ2 (cnti_end (by omega) (by omega)) (frdi_end (by omega) (by omega)), G2, a2, b2, u2, X2⟩
                    case measure => simp [intOf]; omega
            · subst hpa hpf
              obtain rfl : j = n := by omega
              have hcb : ∃ (a : Int) (f : Bool), cnti i tt j = a ∧ frdi i tt j = f := ⟨_, _, rfl, rfl⟩
              obtain ⟨a, f, ha, hf⟩ := hcb
              replace tJ := tmJ_get tJ ha hf
              rw [ha, hf]
              clear ha hf hk hj hlt HC0 HF0 HCase
              by_cases hcy : chk ys = 0
              · have HY := Lib.hid hcy
                have hg1 := fun (x : World) => blk_only (w1 := x) hG tJ (by decide)
                clear hcy
                go_wp2_with fail
                refine (enter_ok ys A' c' t _ _ _ _ _ tJ vb.sl HY.out).mono ?_
                rintro e x1 ⟨rfl, og1, tJ1⟩
                have G1 := hg1 _ og1
                have a1 := va.only og1 htB
                have b1 := vb.only og1 htB
                have X1 := below_only hbr og1 htB hbr.size
                clear tJ hG va vb vu hbr og1 hg1
                go_wp2_with (first | (go_at_call 26; refine (rcheck_ok A' c' _ b1.sl HY.out).mono ?_; rintro e w' ⟨rfl, rfl⟩) | (go_at_call 17; refine (at_any t _ _ _ _ _ tJ1).mono ?_; rintro e w' ⟨rfl, rfl⟩) | (go_at_call 18; refine (fired_any t _ _ _ _ _ tJ1).mono ?_; rintro e w' ⟨rfl, rfl⟩))
                go_roundw
                case rel => exact ⟨k + 1, by omega, by go_num, G1, a1, b1, X1, rdy_next HY.out tJ1⟩
                case measure => simp [intOf]; omega
              · have hb0 : (chk ys == 0) = false := beq_eq_false_iff_ne.2 hcy
                have hb1 : (chk ys != 0) = true := by simpa using hcy
                go_wp2_with fail
                refine (enter_bad ys A' c' t _ _ _ _ _ tJ vb.sl hcy).mono ?_
                rintro e x1 ⟨rfl, rfl⟩
                go_wp2_with (first | (go_at_call 26; refine (rcheck_any ys A' c' _ vb.sl).mono ?_; rintro e w' ⟨rfl, rfl⟩) | (go_at_call 17; refine (at_any t _ _ _ _ _ tJ).mono ?_; rintro e w' ⟨rfl, rfl⟩) | (go_at_call 18; refine (fired_any t _ _ _ _ _ tJ).mono ?_; rintro e w' ⟨rfl, rfl⟩))
                go_ret
                exact ⟨ret_bool (by simp), hbr⟩
        · clear hrdy
          go_wp2_with fail
          go_ret
          exact ⟨rfl, hbr⟩
end Go.Proofs.Ytkkmipegolaleaa
