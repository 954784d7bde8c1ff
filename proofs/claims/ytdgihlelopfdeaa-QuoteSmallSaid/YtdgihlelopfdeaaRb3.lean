/-
  quote.ReadByte: what it answers, for every string and all marks.
-/
import Derived.Test.YtdgihlelopfdeaaRb2
namespace Go.Proofs.Ytdgihlelopfdeaa
open Go.RowKit Q

def RbIs (x0 x1 x2 x3 : Int) (xs : List Int) (w : World) (r : Int × Int × Int) : Prop :=
  Calls Try.prog 20 #[.string (strOfNums xs), .agg #[.int .u64 x0, .int .u64 x1, .int .u64 x2, .int .u64 x3]] w fun e w' => e = .returned (.tuple #[.int .u8 r.1, .int .i64 r.2.1, .int .i64 r.2.2]) ∧ Below w.heap.size w w'

theorem rb_is (x0 x1 x2 x3 : Int) (xs : List Int) (w : World) (hw : Words x0 x1 x2 x3) (hb : By xs) (hl : xs.length ≤ 1000000000) : RbIs x0 x1 x2 x3 xs w (rb (mkd x0 x1 x2 x3) xs) := by
  cases xs with
  | nil => exact rb_empty _ w
  | cons c0 t =>
    have hc0 : 0 ≤ c0 ∧ c0 ≤ 255 := hb c0 (by simp)
    by_cases h92 : c0 ≠ 92
    · by_cases hr : 32 ≤ c0 ∧ c0 ≤ 126 ∧ mkd x0 x1 x2 x3 c0 = false
      · have e : rb (mkd x0 x1 x2 x3) (c0 :: t) = (c0, 1, 0) := by simp only [rb]; rw [if_pos h92, if_pos hr]
        rw [e]; exact rb_raw x0 x1 x2 x3 _ w hb c0 hw (by simp) rfl h92 hr.1 hr.2.1 hr.2.2
      · have e : rb (mkd x0 x1 x2 x3) (c0 :: t) = (0, 0, 20) := by simp only [rb]; rw [if_pos h92, if_neg hr]
        rw [e]
        refine rb_bad0 x0 x1 x2 x3 _ w hb c0 hw (by simp) rfl h92 hc0 ?_
        by_cases a : c0 < 32
        · exact .inl a
        by_cases b : 126 < c0
        · exact .inr (.inl b)
        · refine .inr (.inr ?_)
          cases hm : mkd x0 x1 x2 x3 c0
          · exact absurd ⟨by omega, by omega, hm⟩ hr
          · rfl
    · obtain rfl : c0 = 92 := by omega
      cases t with
      | nil =>
        have e : rb (mkd x0 x1 x2 x3) [92] = (0, 0, 20) := rfl
        rw [e]; exact rb_bs1 x0 x1 x2 x3 _ w hb (by simp) rfl rfl
      | cons c1 u =>
        have hc1 : 0 ≤ c1 ∧ c1 ≤ 255 := hb c1 (by simp)
        have hl2 : 2 ≤ (92 :: c1 :: u).length := by simp
        have g1 : (92 :: c1 :: u : List Int).getD 1 0 = c1 := rfl
        by_cases a : c1 = 92
        · subst a
          have e : rb (mkd x0 x1 x2 x3) (92 :: 92 :: u) = (92, 2, 0) := by simp [rb]
          rw [e]; exact rb_bsbs x0 x1 x2 x3 _ w hb hl hl2 rfl rfl
        by_cases hm : mkd x0 x1 x2 x3 c1 = true
        · have e : rb (mkd x0 x1 x2 x3) (92 :: c1 :: u) = (c1, 2, 0) := by simp [rb, hm]
          rw [e]; exact rb_mark x0 x1 x2 x3 _ w hb c1 hw hl hl2 rfl g1 hc1 a hm
        have hm' : mkd x0 x1 x2 x3 c1 = false := by cases h : mkd x0 x1 x2 x3 c1; rfl; exact absurd h hm
        have hno : ¬ (c1 = 92 ∨ mkd x0 x1 x2 x3 c1 = true) := by intro h; rcases h with h | h; exact a h; exact hm h
        by_cases b : c1 = 110
        · subst b
          have e : rb (mkd x0 x1 x2 x3) (92 :: 110 :: u) = (10, 2, 0) := by simp only [rb]; rw [if_neg (by decide), if_neg hno]; simp [*]
          rw [e]; exact rb_let_n x0 x1 x2 x3 _ w hb hw hl hl2 rfl rfl
        by_cases b2 : c1 = 114
        · subst b2
          have e : rb (mkd x0 x1 x2 x3) (92 :: 114 :: u) = (13, 2, 0) := by simp only [rb]; rw [if_neg (by decide), if_neg hno]; simp [*]
          rw [e]; exact rb_let_r x0 x1 x2 x3 _ w hb hw hl hl2 rfl rfl
        by_cases b3 : c1 = 116
        · subst b3
          have e : rb (mkd x0 x1 x2 x3) (92 :: 116 :: u) = (9, 2, 0) := by simp only [rb]; rw [if_neg (by decide), if_neg hno]; simp [*]
          rw [e]; exact rb_let_t x0 x1 x2 x3 _ w hb hw hl hl2 rfl rfl
        by_cases b4 : c1 = 120
        · subst b4
          match u with
          | [] =>
            have e : rb (mkd x0 x1 x2 x3) [92, 120] = (0, 0, 20) := by simp only [rb]; rw [if_neg (by decide), if_neg hno]; simp [*]
            rw [e]; exact rb_nohex x0 x1 x2 x3 _ w hb hw hl hl2 rfl rfl _ _ rfl rfl (.inl (by simp))
          | [d] =>
            have e : rb (mkd x0 x1 x2 x3) [92, 120, d] = (0, 0, 20) := by simp only [rb]; rw [if_neg (by decide), if_neg hno]; simp [*]
            rw [e]; exact rb_nohex x0 x1 x2 x3 _ w hb hw hl hl2 rfl rfl _ _ rfl rfl (.inl (by simp))
          | d :: f :: v =>
            by_cases hd : nib d < 16 ∧ nib f < 16
            · have e : rb (mkd x0 x1 x2 x3) (92 :: 120 :: d :: f :: v) = (16 * nib d + nib f, 4, 0) := by simp only [rb]; rw [if_neg (by decide), if_neg hno]; simp [*]
              rw [e]; exact rb_hex x0 x1 x2 x3 _ w hb hl (by simp) rfl rfl d f rfl rfl hd.1 hd.2
            · have e : rb (mkd x0 x1 x2 x3) (92 :: 120 :: d :: f :: v) = (0, 0, 20) := by simp only [rb]; rw [if_neg (by decide), if_neg hno]; simp [*]
              rw [e]; exact rb_nohex x0 x1 x2 x3 _ w hb hw hl hl2 rfl rfl d f rfl rfl (.inr (by omega))
        · have e : rb (mkd x0 x1 x2 x3) (92 :: c1 :: u) = (0, 0, 20) := by simp only [rb]; rw [if_neg (by decide), if_neg hno]; simp [*]
          rw [e]; exact rb_none x0 x1 x2 x3 _ w hb c1 hw hl hl2 rfl g1 hc1 a hm' ⟨b, b2, b3⟩ b4

theorem rb_facts (m : Int → Bool) (xs : List Int) (hb : By xs) : (0 ≤ (rb m xs).1 ∧ (rb m xs).1 ≤ 255) ∧ (((rb m xs).2.2 = 0 ∧ 1 ≤ (rb m xs).2.1 ∧ (rb m xs).2.1 ≤ xs.length) ∨ rb m xs = (0, 0, 20)) := by
  cases xs with
  | nil => exact ⟨by simp [rb], .inr rfl⟩
  | cons c0 t =>
    have hc0 : 0 ≤ c0 ∧ c0 ≤ 255 := hb c0 (by simp)
    simp only [rb]
    split
    · split
      · exact ⟨hc0, .inl ⟨rfl, by simp, by simp; omega⟩⟩
      · exact ⟨by simp, .inr rfl⟩
    · match t with
      | [] => exact ⟨by simp, .inr rfl⟩
      | c1 :: u =>
        have hc1 : 0 ≤ c1 ∧ c1 ≤ 255 := hb c1 (by simp)
        dsimp only
        split
        · exact ⟨hc1, .inl ⟨rfl, by simp, by simp; omega⟩⟩
        split
        · exact ⟨by simp, .inl ⟨rfl, by simp, by simp; omega⟩⟩
        split
        · exact ⟨by simp, .inl ⟨rfl, by simp, by simp; omega⟩⟩
        split
        · exact ⟨by simp, .inl ⟨rfl, by simp, by simp; omega⟩⟩
        split
        · match u with
          | [] => exact ⟨by simp, .inr rfl⟩
          | [d] => exact ⟨by simp, .inr rfl⟩
          | d :: f :: v =>
            dsimp only
            split
            · have := nib_range d
              have := nib_range f
              exact ⟨by dsimp only; omega, .inl ⟨rfl, by simp, by simp; omega⟩⟩
            · exact ⟨by simp, .inr rfl⟩
        · exact ⟨by simp, .inr rfl⟩
end Go.Proofs.Ytdgihlelopfdeaa
