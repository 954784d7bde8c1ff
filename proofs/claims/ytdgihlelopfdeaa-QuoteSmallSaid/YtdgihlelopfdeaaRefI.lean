/-
  The plain law: what the reference's ReadByte tries agrees with what ReadByte answers. No walk here.
-/
import Derived.Test.YtdgihlelopfdeaaRefH
namespace Go.Proofs.Ytdgihlelopfdeaa
open Go.RowKit Q

theorem mkr_not {h : Int → Bool} {c : Int} (hc : c < 32 ∨ 126 < c ∨ letter c = true ∨ digit c = true) : mkr h c = false := by
  unfold mkr
  rcases hc with hc | hc | hc | hc
  · have : decide (32 ≤ c) = false := by rw [decide_eq_false_iff_not]; omega
    simp [this]
  · have : decide (c ≤ 126) = false := by rw [decide_eq_false_iff_not]; omega
    simp [this]
  · simp [hc]
  · simp [hc]
theorem mkr_ok (h : Int → Bool) : MkOk (mkr h) := ⟨mkr_not (by simp [letter]), mkr_not (by simp [letter]), mkr_not (by simp [letter]), mkr_not (by simp [letter])⟩

/-- The first byte is no backslash. -/
theorem rdr_raw (m : Int → Bool) (c : Int) (t l : List Int) (h : c ≠ 92) : rdr m (c :: t) (c :: l) = if 32 ≤ c ∧ c ≤ 126 ∧ m c = false then (c, 1, 0) else rdr m (c :: t) l := by
  have h' : ¬ (92 : Int) = c := fun e => h e.symm
  have hp : ∀ (a : Int) (z : List Int), a ≠ c → decide (a :: z <+: c :: t) = false := by
    intro a z ha
    rw [decide_eq_false_iff_not, List.cons_prefix_cons]
    exact fun hh => ha hh.1
  have e2 : (f2 (m c) c).find? (fun z => decide (z <+: c :: t)) = none := by unfold f2; split <;> simp [hp, h']
  have e3 : (f3 c 3).find? (fun z => decide (z <+: c :: t)) = none := by
    simp only [f3]
    split <;> split <;> split <;> simp [hp, h']
  have e4 : (f4 c 4).find? (fun z => decide (z <+: c :: t)) = none := by simp [f4, hx, hp, h']
  have e1 : (f1 (m c) c).find? (fun z => decide (z <+: c :: t)) = if 32 ≤ c ∧ c ≤ 126 ∧ m c = false then some [c] else none := by
    unfold f1
    by_cases a : 32 ≤ c ∧ c ≤ 126 ∧ m c = false
    · rw [if_pos a, if_pos ⟨a.1, a.2.1, h, a.2.2⟩]
      simp
    · rw [if_neg a, if_neg (fun b => a ⟨b.1, b.2.1, b.2.2.2⟩)]
      rfl
  rw [rdr, fL, List.find?_append, List.find?_append, List.find?_append, e1, e2, e3, e4]
  by_cases a : 32 ≤ c ∧ c ≤ 126 ∧ m c = false
  · rw [if_pos a, if_pos a]; rfl
  · rw [if_neg a, if_neg a]; rfl

/-- A form of two bytes fits. -/
def two (m : Int → Bool) (c d : Int) : Prop := ((m c = true ∨ c = 92) ∧ c = d) ∨ (c = 10 ∧ d = 110) ∨ (c = 13 ∧ d = 114) ∨ (c = 9 ∧ d = 116)
/-- A form in hexadecimal digits fits. -/
def hexs4 (c d : Int) : List Int → Prop
  | p :: q :: _ => d = 120 ∧ nib p = c / 16 ∧ nib q = c % 16
  | _ => False
instance (m : Int → Bool) (c d : Int) : Decidable (two m c d) := by unfold two; exact inferInstance
instance (c d : Int) (u : List Int) : Decidable (hexs4 c d u) := by unfold hexs4; split <;> exact inferInstance

theorem dig_nib {p n : Int} (h0 : 0 ≤ n) (h1 : n < 16) : nib p = n ↔ (p = dig n false ∨ p = dig n true) := by
  constructor
  · intro h
    rcases Decidable.em (p = hexd n ∨ p = hexu n) with h' | h'
    · rcases h' with h' | h'
      · exact .inl (by simpa [dig] using h')
      · exact .inr (by simpa [dig] using h')
    · exact absurd h (hexd_ne h0 h1 h')
  · intro h
    refine hexd_eq h0 h1 ?_
    rcases h with h | h
    · exact .inl (by simpa [dig] using h)
    · exact .inr (by simpa [dig] using h)

theorem f4_find (c d : Int) (u : List Int) (h0 : 0 ≤ c) (h1 : c ≤ 255) : (hexs4 c d u → ∃ z, (f4 c 4).find? (fun z => decide (z <+: 92 :: d :: u)) = some z ∧ z.length = 4) ∧ (¬ hexs4 c d u → (f4 c 4).find? (fun z => decide (z <+: 92 :: d :: u)) = none) := by
  have hp : ∀ i, decide (hx c i <+: 92 :: d :: u) = true ↔ (d = 120 ∧ ∃ p q v, u = p :: q :: v ∧ p = dig (c / 16) (decide (i % 2 = 1)) ∧ q = dig (c % 16) (decide (i / 2 = 1))) := by
    intro i
    rw [decide_eq_true_eq]
    unfold hx
    rw [List.cons_prefix_cons, List.cons_prefix_cons]
    constructor
    · rintro ⟨_, h2, h3⟩
      obtain ⟨v, hv⟩ := h3
      exact ⟨h2.symm, _, _, v, by simpa using hv.symm, rfl, rfl⟩
    · rintro ⟨rfl, p, q, v, rfl, rfl, rfl⟩
      exact ⟨rfl, rfl, by simp [List.cons_prefix_cons]⟩
  have hex : hexs4 c d u ↔ (decide (hx c 0 <+: 92 :: d :: u) = true ∨ decide (hx c 1 <+: 92 :: d :: u) = true ∨ decide (hx c 2 <+: 92 :: d :: u) = true ∨ decide (hx c 3 <+: 92 :: d :: u) = true) := by
    rw [hp 0, hp 1, hp 2, hp 3]
    match u with
    | [] => simp [hexs4]
    | [p] => simp [hexs4]
    | p :: q :: v =>
      show (d = 120 ∧ nib p = c / 16 ∧ nib q = c % 16) ↔ _
      rw [dig_nib (p := p) (n := c / 16) (by omega) (by omega), dig_nib (p := q) (n := c % 16) (by omega) (by omega)]
      constructor
      · rintro ⟨hd, hpp | hpp, hq | hq⟩
        · exact .inl ⟨hd, p, q, v, rfl, by simpa using hpp, by simpa using hq⟩
        · exact .inr (.inr (.inl ⟨hd, p, q, v, rfl, by simpa using hpp, by simpa using hq⟩))
        · exact .inr (.inl ⟨hd, p, q, v, rfl, by simpa using hpp, by simpa using hq⟩)
        · exact .inr (.inr (.inr ⟨hd, p, q, v, rfl, by simpa using hpp, by simpa using hq⟩))
      · rintro (⟨hd, p', q', v', e, hpp, hq⟩ | ⟨hd, p', q', v', e, hpp, hq⟩ | ⟨hd, p', q', v', e, hpp, hq⟩ | ⟨hd, p', q', v', e, hpp, hq⟩)
        all_goals
          injection e with e1 e2
          injection e2 with e2 e3
          subst e1 e2
          refine ⟨hd, ?_, ?_⟩
          · first | exact .inl (by simpa using hpp) | exact .inr (by simpa using hpp)
          · first | exact .inl (by simpa using hq) | exact .inr (by simpa using hq)
  have hl : f4 c 4 = [hx c 0, hx c 1, hx c 2, hx c 3] := rfl
  rw [hl]
  have len : ∀ i, (hx c i).length = 4 := fun i => rfl
  constructor
  · intro hh
    have hd := hex.1 hh
    cases hf : [hx c 0, hx c 1, hx c 2, hx c 3].find? (fun z => decide (z <+: 92 :: d :: u)) with
    | none =>
      have := List.find?_eq_none.1 hf
      rcases hd with h | h | h | h
      · exact absurd h (this _ (by simp))
      · exact absurd h (this _ (by simp))
      · exact absurd h (this _ (by simp))
      · exact absurd h (this _ (by simp))
    | some z =>
      refine ⟨z, rfl, ?_⟩
      have hm := List.mem_of_find?_eq_some hf
      simp only [List.mem_cons, List.not_mem_nil, or_false] at hm
      rcases hm with rfl | rfl | rfl | rfl
      · exact len 0
      · exact len 1
      · exact len 2
      · exact len 3
  · intro hh
    rw [List.find?_eq_none]
    intro z hz hP
    apply hh
    rw [hex]
    simp only [List.mem_cons, List.not_mem_nil, or_false] at hz
    rcases hz with rfl | rfl | rfl | rfl
    · exact .inl hP
    · exact .inr (.inl hP)
    · exact .inr (.inr (.inl hP))
    · exact .inr (.inr (.inr hP))

theorem f123_find (m : Int → Bool) (c d : Int) (u : List Int) : (two m c d → ∃ z, (f1 (m c) c ++ f2 (m c) c ++ f3 c 3).find? (fun z => decide (z <+: 92 :: d :: u)) = some z ∧ z.length = 2) ∧ (¬ two m c d → (f1 (m c) c ++ f2 (m c) c ++ f3 c 3).find? (fun z => decide (z <+: 92 :: d :: u)) = none) := by
  have hp2 : ∀ a : Int, decide ([92, a] <+: 92 :: d :: u) = decide (a = d) := by
    intro a; congr 1; rw [List.cons_prefix_cons, List.cons_prefix_cons]; simp
  have e1 : (f1 (m c) c).find? (fun z => decide (z <+: 92 :: d :: u)) = none := by
    unfold f1
    split
    · rename_i a
      rw [List.find?_cons_of_neg]; rfl
      simp only [decide_eq_true_eq, List.cons_prefix_cons]
      exact fun hh => a.2.2.1 hh.1
    · rfl
  have e2 : (f2 (m c) c).find? (fun z => decide (z <+: 92 :: d :: u)) = if (m c = true ∨ c = 92) ∧ c = d then some [92, c] else none := by
    unfold f2
    by_cases a : m c = true ∨ c = 92
    · rw [if_pos a]
      by_cases b : c = d
      · rw [if_pos ⟨a, b⟩, List.find?_cons_of_pos]; rw [hp2]; simpa using b
      · rw [if_neg (fun hh => b hh.2), List.find?_cons_of_neg]; rfl; rw [hp2]; simpa using b
    · rw [if_neg a, if_neg (fun hh => a hh.1)]; rfl
  have e3 : (f3 c 3).find? (fun z => decide (z <+: 92 :: d :: u)) = if c = 10 ∧ d = 110 then some [92, 110] else if c = 13 ∧ d = 114 then some [92, 114] else if c = 9 ∧ d = 116 then some [92, 116] else none := by
    simp only [f3]
    have k1 : (110 = d) = (d = 110) := propext ⟨Eq.symm, Eq.symm⟩
    have k2 : (114 = d) = (d = 114) := propext ⟨Eq.symm, Eq.symm⟩
    have k3 : (116 = d) = (d = 116) := propext ⟨Eq.symm, Eq.symm⟩
    by_cases a : c = 10
    · subst a
      by_cases b : d = 110
      · subst b; simp [hp2]
      · simp [hp2, k1, b]
    · by_cases a2 : c = 13
      · subst a2
        by_cases b : d = 114
        · subst b; simp [hp2]
        · simp [hp2, k2, b]
      · by_cases a3 : c = 9
        · subst a3
          by_cases b : d = 116
          · subst b; simp [hp2]
          · simp [hp2, k3, b]
        · simp [a, a2, a3]
  rw [List.find?_append, List.find?_append, e1, e2, e3]
  unfold two
  by_cases t1 : (m c = true ∨ c = 92) ∧ c = d
  · rw [if_pos t1]
    exact ⟨fun _ => ⟨_, rfl, rfl⟩, fun hh => absurd (.inl t1) hh⟩
  rw [if_neg t1]
  by_cases t2 : c = 10 ∧ d = 110
  · rw [if_pos t2]
    exact ⟨fun _ => ⟨_, rfl, rfl⟩, fun hh => absurd (.inr (.inl t2)) hh⟩
  rw [if_neg t2]
  by_cases t3 : c = 13 ∧ d = 114
  · rw [if_pos t3]
    exact ⟨fun _ => ⟨_, rfl, rfl⟩, fun hh => absurd (.inr (.inr (.inl t3))) hh⟩
  rw [if_neg t3]
  by_cases t4 : c = 9 ∧ d = 116
  · rw [if_pos t4]
    exact ⟨fun _ => ⟨_, rfl, rfl⟩, fun hh => absurd (.inr (.inr (.inr t4))) hh⟩
  rw [if_neg t4]
  exact ⟨fun hh => by rcases hh with hh | hh | hh | hh; exact absurd hh t1; exact absurd hh t2; exact absurd hh t3; exact absurd hh t4, fun _ => rfl⟩

theorem rdr_bs (m : Int → Bool) (c d : Int) (u l : List Int) (h0 : 0 ≤ c) (h1 : c ≤ 255) : rdr m (92 :: d :: u) (c :: l) = if two m c d then (c, 2, 0) else if hexs4 c d u then (c, 4, 0) else rdr m (92 :: d :: u) l := by
  have A := f123_find m c d u
  have B := f4_find c d u h0 h1
  rw [rdr, fL, List.find?_append]
  by_cases t : two m c d
  · obtain ⟨z, hz, hl⟩ := A.1 t
    rw [hz, if_pos t]
    simp [hl]
  · rw [A.2 t, if_neg t]
    by_cases x : hexs4 c d u
    · obtain ⟨z, hz, hl⟩ := B.1 x
      rw [hz, if_pos x]
      simp [hl]
    · rw [B.2 x, if_neg x]
      rfl

/-- What the reference tries is what is answered. -/
theorem rdr_rb (h : Int → Bool) (xs : List Int) (hb : By xs) : rdr (mkr h) xs (mayL xs) = rb (mkr h) xs := by
  have hok := mkr_ok h
  have hlo : ∀ c : Int, c < 32 → mkr h c = false := fun c hc => mkr_not (.inl hc)
  have hnm : ∀ d : Int, (mkr h d = true ∨ d = 92) → 32 ≤ d ∧ d ≠ 110 ∧ d ≠ 114 ∧ d ≠ 116 ∧ d ≠ 120 := by
    intro d hd
    refine ⟨?_, ?_, ?_, ?_, ?_⟩
    · rcases hd with hd | hd
      · have := hlo d
        rcases Int.lt_or_le d 32 with h' | h'
        · rw [this h'] at hd; cases hd
        · exact h'
      · omega
    · rintro rfl; rcases hd with hd | hd; rw [hok.n] at hd; cases hd; omega
    · rintro rfl; rcases hd with hd | hd; rw [hok.r] at hd; cases hd; omega
    · rintro rfl; rcases hd with hd | hd; rw [hok.t] at hd; cases hd; omega
    · rintro rfl; rcases hd with hd | hd; rw [hok.x] at hd; cases hd; omega
  generalize mkr h = m at *
  match xs, hb with
  | [], _ => rfl
  | c :: t, hb =>
    by_cases h92 : c = 92
    · subst h92
      match t, hb with
      | [], _ =>
        have n9 : ∀ z ∈ fL (m 9) 9 ++ fL (m 10) 10 ++ fL (m 13) 13, decide (z <+: [92]) = false := by
          rw [hlo 9 (by omega), hlo 10 (by omega), hlo 13 (by omega)]
          decide +kernel
        have e : ∀ (c : Int), (∀ z ∈ fL (m c) c, decide (z <+: [92]) = false) → (fL (m c) c).find? (fun z => decide (z <+: [92])) = none := by
          intro c hc
          rw [List.find?_eq_none]
          intro z hz
          simpa using hc z hz
        have e9 := e 9 (fun z hz => n9 z (by simp [hz]))
        have e10 := e 10 (fun z hz => n9 z (by simp [hz]))
        have e13 := e 13 (fun z hz => n9 z (by simp [hz]))
        rw [show mayL [92] = [9, 10, 13] from rfl, rdr, e9, rdr, e10, rdr, e13]
        rfl
      | d :: u, hb =>
        have hd := hb d (by simp)
        have s9 := fun l => rdr_bs m 9 d u l (by omega) (by omega)
        have s10 := fun l => rdr_bs m 10 d u l (by omega) (by omega)
        have s13 := fun l => rdr_bs m 13 d u l (by omega) (by omega)
        have sd := fun l => rdr_bs m d d u l hd.1 hd.2
        have t9 : two m 9 d ↔ d = 116 := by
          unfold two
          rw [hlo 9 (by omega)]
          constructor
          · rintro (⟨a | a, b⟩ | ⟨a, b⟩ | ⟨a, b⟩ | ⟨a, b⟩)
            · cases a
            · omega
            · omega
            · omega
            · exact b
          · intro a; exact .inr (.inr (.inr ⟨rfl, a⟩))
        have t10 : two m 10 d ↔ d = 110 := by
          unfold two
          rw [hlo 10 (by omega)]
          constructor
          · rintro (⟨a | a, b⟩ | ⟨a, b⟩ | ⟨a, b⟩ | ⟨a, b⟩)
            · cases a
            · omega
            · exact b
            · omega
            · omega
          · intro a; exact .inr (.inl ⟨rfl, a⟩)
        have t13 : two m 13 d ↔ d = 114 := by
          unfold two
          rw [hlo 13 (by omega)]
          constructor
          · rintro (⟨a | a, b⟩ | ⟨a, b⟩ | ⟨a, b⟩ | ⟨a, b⟩)
            · cases a
            · omega
            · omega
            · exact b
            · omega
          · intro a; exact .inr (.inr (.inl ⟨rfl, a⟩))
        have td : two m d d ↔ (m d = true ∨ d = 92) := by
          unfold two
          constructor
          · rintro (⟨a, b⟩ | ⟨a, b⟩ | ⟨a, b⟩ | ⟨a, b⟩)
            · exact a
            · omega
            · omega
            · omega
          · intro a; exact .inl ⟨a, rfl⟩
        have hmay : ∃ l, mayL (92 :: d :: u) = 9 :: 10 :: 13 :: d :: l ∧ (∀ p q v, u = p :: q :: v → l = [16 * dg p + dg q]) ∧ ((∀ p q v, u ≠ p :: q :: v) → l = []) := by
          match u with
          | [] => exact ⟨[], (by simp [mayL]), ⟨(by intro p q v e; cases e), fun _ => rfl⟩⟩
          | [a] => exact ⟨[], (by simp [mayL]), ⟨(by intro p q v e; injection e with _ e; cases e), fun _ => rfl⟩⟩
          | a :: b :: v => exact ⟨[16 * dg a + dg b], (by simp [mayL]), ⟨(by intro p q v' e; injection e with e1 e; injection e with e2 e; rw [e1, e2]), fun hh => absurd rfl (hh a b v)⟩⟩
        obtain ⟨l, hl, hl1, hl2⟩ := hmay
        have x120 : ∀ c : Int, d ≠ 120 → ¬ hexs4 c d u := by
          intro c hc
          unfold hexs4
          split
          · exact fun hh => hc hh.1
          · exact fun hh => hh
        rw [hl, s9, s10, s13, sd]
        simp only [t9, t10, t13, td, rb]
        rw [if_neg (show ¬ ((92 : Int) ≠ 92) by simp)]
        by_cases M : m d = true ∨ d = 92
        · obtain ⟨m0, m1, m2, m3, m4⟩ := hnm d M
          rw [if_neg m3, if_neg (x120 9 m4), if_neg m1, if_neg (x120 10 m4), if_neg m2, if_neg (x120 13 m4), if_pos M, if_pos M.symm]
        have M' : ¬ (d = 92 ∨ m d = true) := fun a => M a.symm
        rw [if_neg M, if_neg M']
        by_cases d1 : d = 110
        · have h4 : d ≠ 120 := by omega
          rw [if_neg (show ¬ d = 116 by omega), if_neg (x120 9 h4), if_pos d1, if_pos d1]
        by_cases d2 : d = 114
        · have h4 : d ≠ 120 := by omega
          rw [if_neg (show ¬ d = 116 by omega), if_neg (x120 9 h4), if_neg d1, if_neg (x120 10 h4), if_pos d2, if_neg d1, if_pos d2]
        by_cases d3 : d = 116
        · rw [if_pos d3, if_neg d1, if_neg d2, if_pos d3]
        rw [if_neg d3, if_neg d1, if_neg d2, if_neg d1, if_neg d2, if_neg d3]
        have two_no : ∀ e : Int, ¬ two m e d := by
          intro e he
          unfold two at he
          rcases he with ⟨a, b⟩ | ⟨a, b⟩ | ⟨a, b⟩ | ⟨a, b⟩
          · subst b; exact M a
          · exact d1 b
          · exact d2 b
          · exact d3 b
        by_cases d4 : d = 120
        · rw [if_pos d4]
          subst d4
          match u, hl1, hl2, s9, s10, s13, sd, hb, hl, x120 with
          | [], _, h2, _, _, _, _, _, _, _ =>
            rw [h2 (by intro p q v e; cases e)]
            rfl
          | [a], _, h2, _, _, _, _, _, _, _ =>
            rw [h2 (by intro p q v e; injection e with _ e; cases e)]
            rfl
          | p :: q :: v, h1, _, _, _, _, _, hb, _, _ =>
            rw [h1 p q v rfl]
            have hp := nib_range p
            have hq := nib_range q
            have gp := dg_range p
            have gq := dg_range q
            rw [rdr_bs m (16 * dg p + dg q) 120 (p :: q :: v) [] (by omega) (by omega), if_neg (two_no _)]
            dsimp only
            have hx4 : ∀ c : Int, hexs4 c 120 (p :: q :: v) ↔ (nib p = c / 16 ∧ nib q = c % 16) := fun c => ⟨fun a => a.2, fun a => ⟨rfl, a⟩⟩
            simp only [hx4]
            by_cases nn : nib p < 16 ∧ nib q < 16
            · rw [if_pos nn]
              have e1 : dg p = nib p := by unfold dg; rw [if_pos nn.1]
              have e2 : dg q = nib q := by unfold dg; rw [if_pos nn.2]
              rw [e1, e2]
              generalize nib p = P at *
              generalize nib q = R at *
              by_cases c9 : P = 9 / 16 ∧ R = 9 % 16
              · rw [if_pos c9]; obtain ⟨rfl, rfl⟩ := c9; rfl
              rw [if_neg c9]
              by_cases c10 : P = 10 / 16 ∧ R = 10 % 16
              · rw [if_pos c10]; obtain ⟨rfl, rfl⟩ := c10; rfl
              rw [if_neg c10]
              by_cases c13 : P = 13 / 16 ∧ R = 13 % 16
              · rw [if_pos c13]; obtain ⟨rfl, rfl⟩ := c13; rfl
              rw [if_neg c13]
              by_cases c120 : P = 120 / 16 ∧ R = 120 % 16
              · rw [if_pos c120]; obtain ⟨rfl, rfl⟩ := c120; rfl
              rw [if_neg c120, if_pos ⟨by omega, by omega⟩]
            · rw [if_neg nn]
              have no : ∀ c : Int, 0 ≤ c → c ≤ 255 → ¬ (nib p = c / 16 ∧ nib q = c % 16) := by intro c a b hh; apply nn; omega
              rw [if_neg (no 9 (by omega) (by omega)), if_neg (no 10 (by omega) (by omega)), if_neg (no 13 (by omega) (by omega)), if_neg (no 120 (by omega) (by omega)), if_neg (no _ (by omega) (by omega))]
              rfl
        · rw [if_neg (x120 9 d4), if_neg (x120 10 d4), if_neg (x120 13 d4), if_neg (x120 d d4), if_neg d4]
          match u, hl1, hl2, x120 with
          | [], _, h2, _ => rw [h2 (by intro p q v e; cases e)]; rfl
          | [a], _, h2, _ => rw [h2 (by intro p q v e; injection e with _ e; cases e)]; rfl
          | p :: q :: v, h1, _, x120 =>
            rw [h1 p q v rfl]
            have gp := dg_range p
            have gq := dg_range q
            rw [rdr_bs m (16 * dg p + dg q) d (p :: q :: v) [] (by omega) (by omega), if_neg (two_no _), if_neg (x120 _ d4)]
            rfl
    · have hml : mayL (c :: t) = [c] := mayL_not (c :: t) c (by simp) rfl h92
      rw [hml, rdr_raw m c t [] h92, rdr]
      simp only [rb]
      rw [if_pos h92]
end Go.Proofs.Ytdgihlelopfdeaa
