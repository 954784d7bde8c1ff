/-
  Made: right timeouts made of bytes.
-/
import Derived.Test.YtkkmipegolaleaaTm
import Derived.Lib.MinMax
namespace Go.Proofs.Ytkkmipegolaleaa
open Go.RowKit T

def mk1 (n : Int) : Int := 1 + n % 30
def made (bs : List Int) : List Int := (bs.take 12).map mk1

theorem made_len (bs : List Int) : (made bs).length = min 12 bs.length := by simp [made]
theorem made_chk (bs : List Int) : chk (made bs) = 0 := by
  refine chk_of_ok (by rw [made_len]; omega) fun j hj => ?_
  rw [made_len] at hj
  have : (made bs).getD j 0 = mk1 (bs.getD j 0) := by
    unfold made
    rw [List.getD_eq_getElem?_getD, List.getElem?_map, List.getElem?_take, if_pos (by omega), List.getD_eq_getElem?_getD, List.getElem?_eq_getElem (show j < bs.length by omega)]
    rfl
  rw [this]
  unfold mk1
  omega
theorem made_range (bs : List Int) : ∀ j, j < (made bs).length → 1 ≤ (made bs).getD j 0 ∧ (made bs).getD j 0 ≤ 30 := by
  intro j hj
  rw [made_len] at hj
  have : (made bs).getD j 0 = mk1 (bs.getD j 0) := by
    unfold made
    rw [List.getD_eq_getElem?_getD, List.getElem?_map, List.getElem?_take, if_pos (by omega), List.getD_eq_getElem?_getD, List.getElem?_eq_getElem (show j < bs.length by omega)]
    rfl
  rw [this]
  unfold mk1
  omega

/-- A slice of bytes that came in. -/
def Sb (w : World) (A : Option Addr) (bs : List Int) : Prop := bs.length ≤ 9223372036854775807 ∧ (∀ j, 0 ≤ bs.getD j 0 ∧ bs.getD j 0 ≤ 255) ∧ Reads w w.heap.size 1 A bs.length (bs.map (Value.int .u8))
theorem Sb.at_ {w : World} {A : Option Addr} {zs : List Int} {k : Nat} (h : Sb w A zs) (hk : k < zs.length) :
    ∃ ad, A = some ad ∧ ad.block < w.heap.size ∧ w.cell? (ad.add k) = some (.int .u8 (zs.getD k 0)) := by
  obtain ⟨ad, u, rfl, hb, hx, hc⟩ := h.2.2.at_ hk
  refine ⟨ad, rfl, hb, hc.trans ?_⟩
  rw [← hx, List.getElem?_map, List.getD_eq_getElem?_getD, List.getElem?_eq_getElem hk]
  rfl
theorem Sb.below {w w1 : World} {A : Option Addr} {zs : List Int} (h : Sb w A zs) (hb : Below w.heap.size w w1) : Sb w1 A zs := ⟨h.1, h.2.1, (h.2.2.below hb).more hb.size⟩

theorem made_step {bs : List Int} {k : Nat} (hk : k < bs.length) : ((bs.take k).map mk1).map (Value.int .i64) ++ [Value.int .i64 (1 + bs.getD k 0 % 30)] = ((bs.take (k + 1)).map mk1).map (Value.int .i64) := by
  rw [List.take_succ_eq_append_getElem hk, List.map_append, List.map_append, List.getD_eq_getElem?_getD, List.getElem?_eq_getElem hk]
  rfl
theorem made_all {bs : List Int} {m : Nat} (hm : m = min 12 bs.length) : ((bs.take m).map mk1) = made bs := by
  unfold made
  subst hm
  rw [Nat.min_def]
  split
  · rfl
  · rw [List.take_of_length_le (Nat.le_refl _), List.take_of_length_le (by omega)]

theorem own_base {w : World} {base : Nat} {e : TypeId} {size : Nat} {v : Value} {n : Nat} {xs : List Value} (h : w.ownsRow base e size v n xs) {g : Nat} (hg : v.ownBlock = some g) : base ≤ g := by
  rcases h.2 with ⟨rfl, _⟩ | ⟨g', cap, cur, rfl, hb, _⟩
  · simp [Value.ownBlock] at hg
  · have : g' = g := by simpa [Value.ownBlock] using hg
    omega

set_option maxHeartbeats 1000000 in
theorem made_any (bs : List Int) (A : Option Addr) (c : Nat) (w : World) (hv : Sb w A bs) (hc : bs.length ≤ c) (hc2 : c ≤ 9223372036854775807) :
    Calls Try.prog 11 #[.slice A bs.length c] w fun e w' => ∃ A' c', e = .returned (.slice A' (made bs).length c') ∧ w'.ownsRow w.heap.size 3 1 (.slice A' (made bs).length c') (made bs).length ((made bs).map (Value.int .i64)) ∧ Below w.heap.size w w' := by
  obtain ⟨i0, hi0, hz0, hz1, hz2⟩ := info_parts int_info
  obtain ⟨m, hm⟩ : ∃ m, m = min 12 bs.length := ⟨_, rfl⟩
  have hmin : min (bs.length : Int) 12 = (m : Int) := by omega
  have hml : m ≤ bs.length := by omega
  have hm12 : m ≤ 12 := by omega
  have hmc : (m : Int) ≤ (c : Int) := by omega
  have HM := Lib.hid hm
  have hcc := hv.1
  clear hm
  go_enter Try.func11, Try.ntmps11
  go_wp2_with fail
  go_loopw [3, 12] (fun v i wr => ∃ k : Nat, k ≤ m ∧ i = .int .i64 k ∧ wr.ownsRow w.heap.size 3 1 v k (((bs.take k).map mk1).map (Value.int .i64)) ∧ Below w.heap.size w wr) (fun _ i _ => m - (intOf i).toNat)
  case atStart => exact ⟨0, Nat.zero_le _, rfl, World.ownsRow_nil _ _ _ _, Below.refl _ _⟩
  case round =>
    obtain ⟨k, hk, rfl, hown, hbw⟩ := hrel
    by_cases hlt : k < m
    · have hkb : k < bs.length := by omega
      obtain ⟨ad, rfl, had, hce⟩ := (hv.below hbw).at_ hkb
      have hr := hv.2.1 k
      generalize hx : bs.getD k 0 = x at hce hr
      have Hx := Lib.hid hx
      have hx0 : 0 ≤ x := hr.1
      have hx1 : x ≤ 255 := hr.2
      have hq : 0 ≤ x % 30 := Int.emod_nonneg _ (by omega)
      have hq2 : x % 30 < 30 := Int.emod_lt_of_pos _ (by omega)
      have HV := Lib.hid hv
      clear hx hr hv
      go_wp2_with (at_builtin; refine wpList_append_any _ rfl (.tmp 16) (.tmp 21) _ rfl w.heap.size 3 i0 _ 1 8 Try.underlying22 hi0 hz0 hz1 hz2 rfl (by omega) _ k _ rfl (hown.alloc _) (wr.heap.size + 1) (some ⟨wr.heap.size, 0, none⟩) 1 1 [.int .i64 (1 + x % 30)] rfl ⟨by simp, fun _ => ⟨_, rfl, by simp, by simp [go_sem]⟩⟩ (by simp [Value.oneCell']) (by simp only [maxLen]; omega) (by omega) (by have := hbw.size; simp; omega) ?_; intro v1 w1 hown1 hg1 hat1)
      have HB : Below w.heap.size w w1 := (hbw.alloc hbw.size _).grown hg1 (by have := hbw.size; simp; omega) (fun g e => own_base hown e)
      have HO : w1.ownsRow w.heap.size 3 1 v1 (k + 1) (((bs.take (k + 1)).map mk1).map (Value.int .i64)) := by rw [← made_step hkb, Hx.out]; exact hown1
      clear hown1 hg1 hat1 hown hbw
      go_roundw
      case rel => exact ⟨k + 1, by omega, by go_num, HO, HB⟩
      case measure => simp [intOf]; omega
    · have ek : k = m := by omega
      subst ek
      go_wp2_with fail
      go_ret
      rw [made_all HM.out] at hown
      obtain ⟨A', c', e⟩ := own_form hown
      have el : (made bs).length = k := by rw [made_len]; exact HM.out.symm
      rw [el]
      subst e
      exact ⟨A', c', rfl, hown, hbw⟩
end Go.Proofs.Ytkkmipegolaleaa
