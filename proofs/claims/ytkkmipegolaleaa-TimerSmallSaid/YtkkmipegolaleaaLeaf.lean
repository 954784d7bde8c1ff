/-
  What the small functions of package timer do, for every list of numbers: Check, slices.Equal, of (with its closure).
-/
import Derived.Test.YtkkmipegolaleaaProg
import Derived.Test.YtkkmipegolaleaaMath
import Derived.Test.YtkkmipegolaleaaWords
import Derived.WalkKit
import Derived.WalkLawsBesides
import Derived.WalkSpells
import Derived.Lib.Hide
import Derived.Handy
import Derived.Outline
import Derived.BigQuiet
import Derived.Deep.QuietTactic
import Derived.Deep.RegionWith
namespace Go.Proofs.Ytkkmipegolaleaa
open Go.RowKit T

/-- A slice at address A with n elements that reads as the list zs of ints. -/
def Sl (w : World) (A : Option Addr) (zs : List Int) : Prop := zs.length ≤ 9223372036854775807 ∧ Reads w w.heap.size 1 A zs.length (zs.map (Value.int .i64))

theorem Sl.at_ {w : World} {A : Option Addr} {zs : List Int} {k : Nat} (h : Sl w A zs) (hk : k < zs.length) :
    ∃ ad, A = some ad ∧ ad.block < w.heap.size ∧ w.cell? (ad.add k) = some (.int .i64 (zs.getD k 0)) := by
  obtain ⟨ad, u, rfl, hb, hx, hc⟩ := h.2.at_ hk
  refine ⟨ad, rfl, hb, hc.trans ?_⟩
  rw [← hx, List.getElem?_map, List.getD_eq_getElem?_getD, List.getElem?_eq_getElem hk]
  rfl
theorem Sl.below {w w1 : World} {A : Option Addr} {zs : List Int} (h : Sl w A zs) (hb : Below w.heap.size w w1) : Sl w1 A zs := ⟨h.1, (h.2.below hb).more hb.size⟩
theorem Sl.alloc {w : World} {A : Option Addr} {zs : List Int} (h : Sl w A zs) (o : Obj) : Sl (w.alloc o) A zs := h.below ((Below.refl _ _).alloc (Nat.le_refl _) _)
theorem Sl.drew {w : World} {A : Option Addr} {zs : List Int} (h : Sl w A zs) : Sl w.drew A zs := h
theorem Sl.drewN {w : World} {A : Option Addr} {zs : List Int} (h : Sl w A zs) (n : Nat) : Sl (w.drewN n) A zs := h

theorem below_drew {B : Nat} {a w : World} (h : Below B a w) : Below B a w.drew := h.drew
theorem ret_int {k : IntKind} {a b : Int} (h : a = b) : Ending.returned (.int k a) = .returned (.int k b) := by rw [h]
theorem ret_bool {a b : Bool} (h : a = b) : Ending.returned (.bool a) = .returned (.bool b) := by rw [h]
theorem cell_below {w w1 : World} (h : Below w.heap.size w w1) {a : Addr} {v : Value} (hb : a.block < w.heap.size) (hc : w.cell? a = some v) : w1.cell? a = some v := (h.cell hb).trans hc
theorem cellk_below {w w1 : World} (h : Below w.heap.size w w1) {a : Addr} {k : Nat} {v : Value} (hb : a.block < w.heap.size) (hc : w.cell? (a.add k) = some v) : w1.cell? (a.add k) = some v := (h.cell (by rw [block_of_add]; exact hb)).trans hc

theorem chk_all {zs : List Int} (hl : zs.length ≤ 12) (h : ∀ j, j < zs.length → 1 ≤ zs.getD j 0 ∧ zs.getD j 0 ≤ 1000) : (0 : Int) = chk zs := (chk_of_ok hl h).symm
theorem chk_bad {zs : List Int} (hl : zs.length ≤ 12) {k : Nat} (hk : k < zs.length) (h : zs.getD k 0 < 1 ∨ 1000 < zs.getD k 0) : (340 : Int) = chk zs := by
  rcases chk_cases zs with ⟨h1, _⟩ | ⟨_, h2⟩ | ⟨_, h2⟩
  · omega
  · have := (chk_ok h2).2 k hk; omega
  · exact h2.symm

set_option maxHeartbeats 400000 in
/-- timer.Check. -/
theorem check_any (zs : List Int) (A : Option Addr) (c : Nat) (w : World) (hv : Sl w A zs) :
    Calls Try.prog 29 #[.slice A zs.length c] w fun e w' => e = .returned (.int .i64 (chk zs)) ∧ w = w' := by
  have hm := hv.1
  by_cases h12 : 12 < zs.length
  · have h12' : (12 : Int) < (zs.length : Int) := by omega
    have e : (5 : Int) = chk zs := by simp [chk, h12]
    have E := Lib.hid e
    clear e
    go_enter Try.func29, Try.ntmps29
    go_wp2
    go_step3
    go_wp2
    (try rw [Exit.noGoto_ret])
    go_ret
    exact ⟨ret_int E.out, rfl⟩
  · have h12' : (zs.length : Int) ≤ 12 := by omega
    go_enter Try.func29, Try.ntmps29
    go_wp2
    go_step3
    go_wp2
    go_step3
    go_wp2
    go_loop [3, 11] (fun e i => ∃ k : Nat, k ≤ zs.length ∧ i = .int .i64 k ∧ e = .int .i64 0 ∧ ∀ j, j < k → 1 ≤ zs.getD j 0 ∧ zs.getD j 0 ≤ 1000) (fun _ i => zs.length - (intOf i).toNat)
    case atStart => exact ⟨0, Nat.zero_le _, rfl, rfl, fun j hj => by omega⟩
    case round =>
      obtain ⟨k, hk, rfl, rfl, hall⟩ := hrel
      have Hall := Lib.hid hall
      clear hall
      by_cases hlt : k < zs.length
      · obtain ⟨ad, rfl, had, hce⟩ := hv.at_ hlt
        generalize hx : zs.getD k 0 = x at hce
        have Hx := Lib.hid hx
        clear hx hv
        by_cases hx1 : x < 1
        · have e : (340 : Int) = chk zs := chk_bad (by omega) hlt (by rw [Hx.out]; omega)
          have E := Lib.hid e
          clear e
          go_wp2
          (try rw [Exit.noGoto_ret])
          go_ret
          exact ⟨ret_int E.out, rfl⟩
        · by_cases hx2 : 1000 < x
          · have e : (340 : Int) = chk zs := chk_bad (by omega) hlt (by rw [Hx.out]; omega)
            have E := Lib.hid e
            clear e
            go_wp2
            (try rw [Exit.noGoto_ret])
            go_ret
            exact ⟨ret_int E.out, rfl⟩
          · go_wp2
            go_round
            case rel =>
              refine ⟨k + 1, by omega, by go_num, rfl, fun j hj => ?_⟩
              by_cases hjk : j = k
              · subst hjk; rw [Hx.out]; omega
              · exact Hall.out j (by omega)
            case measure => simp [intOf]; omega
      · have e : (0 : Int) = chk zs := chk_all (by omega) (fun j hj => Hall.out j (by omega))
        have E := Lib.hid e
        clear e hv
        go_wp2
        (try rw [Exit.noGoto_ret])
        go_ret
        exact ⟨ret_int E.out, rfl⟩

/-- The test of two lists. -/
theorem list_ne {zs ys : List Int} {k : Nat} (hk : k < zs.length) (h : ¬ zs.getD k 0 = ys.getD k 0) : decide (zs = ys) = false := by
  simp only [decide_eq_false_iff_not]; rintro rfl; exact h rfl
theorem list_eq {zs ys : List Int} (hl : zs.length = ys.length) (h : ∀ j, j < zs.length → zs.getD j 0 = ys.getD j 0) : decide (zs = ys) = true := by
  simp only [decide_eq_true_eq]
  apply List.ext_getElem hl
  intro i h1 h2
  have := h i h1
  simpa [List.getD_eq_getElem?_getD, List.getElem?_eq_getElem h1, List.getElem?_eq_getElem h2] using this
theorem list_len {zs ys : List Int} (hl : ¬ zs.length = ys.length) : decide (zs = ys) = false := by
  simp only [decide_eq_false_iff_not]; rintro rfl; exact hl rfl

set_option maxHeartbeats 400000 in
theorem equal_lens (a a' : Option Addr) (n m c c' : Nat) (w : World) (h : ¬ n = m) :
    Calls Try.prog 30 #[.slice a n c, .slice a' m c'] w fun e w' => e = .returned (.bool false) ∧ w = w' := by
  have h' : ¬ (n : Int) = (m : Int) := by omega
  go_enter Try.func30, Try.ntmps30
  go_wp2
  go_ret
  exact ⟨rfl, rfl⟩

set_option maxHeartbeats 400000 in
/-- slices.Equal at []int. -/
theorem equal_any (zs ys : List Int) (A A' : Option Addr) (n m c c' : Nat) (w : World) (hn : n = zs.length) (hm : m = ys.length) (hv : Sl w A zs) (hv' : Sl w A' ys) :
    Calls Try.prog 30 #[.slice A n c, .slice A' m c'] w fun e w' => e = .returned (.bool (decide (zs = ys))) ∧ Below w.heap.size w w' := by
  subst hn hm
  by_cases hl : ¬ zs.length = ys.length
  · rw [list_len hl]
    exact (equal_lens A A' _ _ c c' w hl).mono fun e w' ⟨he, hw⟩ => ⟨he, hw ▸ Below.refl _ _⟩
  replace hl : zs.length = ys.length := by omega
  have hm := hv.1
  rw [← hl]
  have HL := Lib.hid hl
  clear hl
  go_enter Try.func30, Try.ntmps30
  go_wp2
  go_loopw [13] (fun i wr => ∃ k : Nat, k ≤ zs.length ∧ i = .int .i64 k ∧ Below w.heap.size w wr ∧ ∀ j, j < k → zs.getD j 0 = ys.getD j 0) (fun i _ => zs.length - (intOf i).toNat)
  case atStart => exact ⟨0, Nat.zero_le _, rfl, Below.refl _ _, fun j hj => by omega⟩
  case round =>
    obtain ⟨k, hk, rfl, hbw, hall⟩ := hrel
    have Hall := Lib.hid hall
    clear hall
    by_cases hlt : k < zs.length
    · obtain ⟨ad, rfl, had, hce⟩ := (hv.below hbw).at_ hlt
      obtain ⟨ad', rfl, had', hce'⟩ := (hv'.below hbw).at_ (k := k) (by rw [← HL.out]; exact hlt)
      have hki : (k : Int) < (zs.length : Int) := by omega
      generalize hx : zs.getD k 0 = x at hce
      generalize hy : ys.getD k 0 = y at hce'
      have Hx := Lib.hid hx
      have Hy := Lib.hid hy
      clear hx hy hv hv'
      by_cases hxy : x = y
      · have hb1 : (x != y) = false := by simp [hxy]
        have Hxy := Lib.hid hxy
        clear hxy
        go_wp2
        go_quiet (fail)
        go_wp2
        go_roundw
        case rel =>
          refine ⟨k + 1, by omega, by go_num, below_drewN hbw _, fun j hj => ?_⟩
          by_cases hjk : j = k
          · subst hjk; rw [Hx.out, Hy.out]; exact Hxy.out
          · exact Hall.out j (by omega)
        case measure => simp [intOf]; omega
      · have hb1 : (x != y) = true := by simp [hxy]
        have E := Lib.hid (list_ne (ys := ys) hlt (by rw [Hx.out, Hy.out]; exact hxy))
        go_wp2
        go_quiet (fail)
        go_wp2
        go_ret
        exact ⟨ret_bool E.out.symm, below_drewN hbw _⟩
    · have E := Lib.hid (list_eq HL.out (fun j hj => Hall.out j (by omega)))
      go_wp2
      go_ret
      exact ⟨ret_bool E.out.symm, hbw⟩

set_option maxHeartbeats 400000 in
/-- The closure of timer.of: it reads the list and the index that it captured. -/
theorem less_any (zs : List Int) (A : Option Addr) (c k i : Nat) (L I : Nat) (w : World) (hv : Sl w A zs) (hk : k < zs.length) (hi : i < zs.length)
    (hL : w.cell? ⟨L, 0, none⟩ = some (.slice A zs.length c)) (hI : w.cell? ⟨I, 0, none⟩ = some (.int .i64 i)) :
    Calls Try.prog 38 #[.int .i64 k, .pointer (some ⟨L, 0, none⟩), .pointer (some ⟨I, 0, none⟩)] w fun e w' => e = .returned (.bool (decide (zs.getD k 0 < zs.getD i 0))) ∧ ∃ n, w' = w.drewN n := by
  have hm := hv.1
  obtain ⟨ad, rfl, had, hce⟩ := hv.at_ hk
  obtain ⟨ad', h', _, hce'⟩ := hv.at_ hi
  injection h' with h'
  subst h'
  have hki : (k : Int) < (zs.length : Int) := by omega
  have hii : (i : Int) < (zs.length : Int) := by omega
  clear hv
  generalize zs.getD k 0 = x at hce ⊢
  generalize zs.getD i 0 = y at hce' ⊢
  go_enter Try.func38, Try.ntmps38
  go_wp2
  go_quiet (fail)
  go_wp2
  go_ret
  exact ⟨rfl, _, rfl⟩

theorem am_step {zs : List Int} {k : Nat} (h : zs.getD k 0 < zs.getD (am zs k) 0) : am zs (k + 1) = k := by simp only [am]; rw [if_pos h]
theorem am_stay {zs : List Int} {k : Nat} (h : ¬ zs.getD k 0 < zs.getD (am zs k) 0) : am zs (k + 1) = am zs k := by simp only [am]; rw [if_neg h]

set_option maxHeartbeats 400000 in
/-- timer.of at no timeout. -/
theorem of_nil (A : Option Addr) (c : Nat) (w : World) :
    Calls Try.prog 32 #[.slice A 0 c] w fun e w' => e = .returned (.agg #[.int .i64 (-1), .int .i64 0]) ∧ Below w.heap.size w w' := by
  go_enter Try.func32, Try.ntmps32
  go_wp2
  go_returns
  exact ⟨rfl, by go_grown⟩

set_option maxHeartbeats 400000 in
/-- timer.of. -/
theorem of_some (zs : List Int) (A : Option Addr) (c : Nat) (w : World) (hv : Sl w A zs) (hne : 0 < zs.length) :
    Calls Try.prog 32 #[.slice A zs.length c] w fun e w' => e = .returned (.agg #[.int .i64 (am zs zs.length), .int .i64 (zs.getD (am zs zs.length) 0)]) ∧ Below w.heap.size w w' := by
  have hm := hv.1
  have hni : ((zs.length : Int) == 0) = false := beq_eq_false_iff_ne.2 (by omega)
  go_enter Try.func32, Try.ntmps32
  go_wp2_with fail
  go_loopw [13] (fun i wr => ∃ k : Nat, k ≤ zs.length ∧ i = .int .i64 k ∧ Below w.heap.size w wr ∧ Blk wr w.heap.size 22 #[.slice A zs.length c] ∧ Blk wr (w.heap.size + 1) 48 #[.int .i64 0, .int .i64 0] ∧ Blk wr (w.heap.size + 1 + 1) 3 #[.int .i64 (am zs k)]) (fun i _ => zs.length - (intOf i).toNat)
  case atStart =>
    refine ⟨0, Nat.zero_le _, rfl, by go_grown, ?_, ?_, ?_⟩
    · exact ((Blk.new w 22 _).alloc _).alloc _
    · exact (by simpa using Blk.new (w.alloc _) 48 _ : Blk _ (w.heap.size + 1) 48 _).alloc _
    · exact (by simpa [am] using Blk.new ((w.alloc _).alloc _) 3 _)
  case round =>
    obtain ⟨k, hk, rfl, hbw, b1, b2, b3⟩ := hrel
    have hs : w.heap.size + 1 + 1 < wr.heap.size := b3.lt
    have hal := am_le zs k
    by_cases hlt : k < zs.length
    · have hl := b1.cell 0
      have hi := b3.cell 0
      have hf := b3.frozen 0
      have hv' := hv.below hbw
      by_cases hxy : zs.getD k 0 < zs.getD (am zs k) 0
      · have E := Lib.hid (am_step hxy)
        have hdd : decide (zs.getD k 0 < zs.getD (am zs k) 0) = true := by simp only [decide_eq_true_eq]; exact hxy
        have HD := Lib.hid hdd
        have HV := Lib.hid hv'
        have HH := Lib.hid hv
        clear hxy hdd hv' hv
        go_wp2_with fail
        refine (less_any zs A c k (am zs k) w.heap.size (w.heap.size + 1 + 1) wr HV.out hlt (by omega) hl hi).mono ?_
        rintro e w1 ⟨rfl, nq, rfl⟩
        rw [HD.out]
        go_wp2_with fail
        go_roundw
        case rel => exact ⟨k + 1, by omega, by go_num, (below_drewN hbw _).setCell (by simp; omega) _, (b1.drewN _).far (by simp; omega) _, (b2.drewN _).far (by simp) _, by rw [E.out]; exact (b3.drewN _).set_ 0 _⟩
        case measure => simp [intOf]; omega
      · have E := Lib.hid (am_stay hxy)
        have hdd : decide (zs.getD k 0 < zs.getD (am zs k) 0) = false := by simp only [decide_eq_false_iff_not]; exact hxy
        have HD := Lib.hid hdd
        have HV := Lib.hid hv'
        have HH := Lib.hid hv
        clear hxy hdd hv' hv
        go_wp2_with fail
        refine (less_any zs A c k (am zs k) w.heap.size (w.heap.size + 1 + 1) wr HV.out hlt (by omega) hl hi).mono ?_
        rintro e w1 ⟨rfl, nq, rfl⟩
        rw [HD.out]
        go_wp2_with fail
        go_roundw
        case rel => exact ⟨k + 1, by omega, by go_num, below_drewN hbw _, b1.drewN _, b2.drewN _, by rw [E.out]; exact b3.drewN _⟩
        case measure => simp [intOf]; omega
    · have ek : k = zs.length := by omega
      subst ek
      have ha := am_lt zs zs.length hne
      have hai : (am zs zs.length : Int) < (zs.length : Int) := by omega
      obtain ⟨ad, rfl, had, hce⟩ := (hv.below hbw).at_ ha
      have hl := b1.cell 0
      have hi := b3.cell 0
      have h2 := b2.cell 0
      have h2' := b2.cell 1
      have hf := b2.frozen 0
      have hf' := b2.frozen 1
      generalize hx : zs.getD (am zs zs.length) 0 = x at hce
      have Hx := Lib.hid hx
      clear hx hv
      go_wp2_with fail
      go_region
      go_wp2_with fail
      refine bodyPost_ret (v := .agg #[.int .i64 (am zs zs.length), .int .i64 x]) ?_ rfl ?_
      · simp [results, Try.results32, go_sem, h2, h2', hf, hf']
      · exact ⟨by rw [Hx.out], ((below_drew hbw).setCell (by simp) _).setCell (by simp) _⟩
end Go.Proofs.Ytkkmipegolaleaa
