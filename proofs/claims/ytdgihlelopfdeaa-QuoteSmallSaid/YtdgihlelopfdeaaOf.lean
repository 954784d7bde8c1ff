/-
  sets.Of.
-/
import Derived.Test.YtdgihlelopfdeaaRbs
namespace Go.Proofs.Ytdgihlelopfdeaa
open Go.RowKit Q

def orb (x c : Int) : Int := bits .or .u64 x (IntKind.u64.wrap (2 ^ (c % 64).toNat))
def putw (q : Int × Int × Int × Int) (c : Int) : Int × Int × Int × Int :=
  if c < 64 then (orb q.1 c, q.2.1, q.2.2.1, q.2.2.2) else if c < 128 then (q.1, orb q.2.1 c, q.2.2.1, q.2.2.2)
  else if c < 192 then (q.1, q.2.1, orb q.2.2.1 c, q.2.2.2) else (q.1, q.2.1, q.2.2.1, orb q.2.2.2 c)
/-- The words of the set of some bytes. -/
def ofw (cs : List Int) : Int × Int × Int × Int := cs.foldl putw (0, 0, 0, 0)
@[reducible] def aggw (q : Int × Int × Int × Int) : Value := .agg #[.int .u64 q.1, .int .u64 q.2.1, .int .u64 q.2.2.1, .int .u64 q.2.2.2]
@[reducible] def cellw (q : Int × Int × Int × Int) : Array Value := #[.int .u64 q.1, .int .u64 q.2.1, .int .u64 q.2.2.1, .int .u64 q.2.2.2]
theorem ofw_snoc (cs : List Int) (k : Nat) (h : k < cs.length) : ofw (cs.take (k + 1)) = putw (ofw (cs.take k)) (cs.getD k 0) := by
  rw [List.take_succ_eq_append_getElem h, ofw, List.foldl_append, List.getD_eq_getElem?_getD, List.getElem?_eq_getElem h]
  rfl

set_option maxHeartbeats 1000000 in
theorem of_any (cs : List Int) (b t n : Nat) (w : World) (hb : By cs) (hn : n = cs.length) (hl : cs.length ≤ 1000) (hB : Blk w b t (cs.map (Value.int .u8)).toArray) :
    Calls Try.prog 24 #[.slice (some ⟨b, 0, none⟩) n n] w fun e w' => e = .returned (aggw (ofw cs)) ∧ Below w.heap.size w w' := by
  have hlt := hB.lt
  subst hn
  go_enter Try.func24, Try.ntmps24
  go_wp2_with fail
  go_loopw [8] (fun i wr => ∃ k : Nat, k ≤ cs.length ∧ i = .int .i64 k ∧ Blk wr w.heap.size 24 #[.int .u64 0, .int .u64 0, .int .u64 0, .int .u64 0] ∧ Blk wr (w.heap.size + 1) 24 (cellw (ofw (cs.take k))) ∧ Below w.heap.size w wr) (fun i _ => cs.length - (intOf i).toNat)
  case atStart =>
    refine ⟨0, Nat.zero_le _, rfl, (Blk.new w 24 _).alloc _, ?_, by go_grown⟩
    have := Blk.new (w.alloc (.cells #[.int .u64 0, .int .u64 0, .int .u64 0, .int .u64 0] 24)) 24 #[.int .u64 0, .int .u64 0, .int .u64 0, .int .u64 0]
    rw [World.size_alloc] at this
    exact this
  case round =>
    obtain ⟨k, hk, rfl, h0, h1, hbw⟩ := hrel
    by_cases hlt2 : k < cs.length
    · have hr := by_getD hb k
      have hc : wr.cell? ⟨b, k, none⟩ = some (.int .u8 (cs.getD k 0)) := by
        rw [hbw.cell (p := ⟨b, k, none⟩) hlt, hB.cell k]
        simp [List.getD_eq_getElem?_getD, List.getElem?_eq_getElem hlt2]
      have hs := Lib.hid (ofw_snoc cs k hlt2)
      generalize ofw (cs.take k) = q at *
      have q0 := h1.cell 0
      have q1 := h1.cell 1
      have q2 := h1.cell 2
      have q3 := h1.cell 3
      have f0 := h1.frozen 0
      have f1 := h1.frozen 1
      have f2 := h1.frozen 2
      have f3 := h1.frozen 3
      generalize cs.getD k 0 = c at *
      obtain ⟨r0, r1⟩ := hr
      have hq2 : c / 64 < 4 := by omega
      have hq3 : 0 ≤ c / 64 := by omega
      have hB2 : ∀ (i : Nat) (v : Value), Below w.heap.size w (wr.setCell ⟨w.heap.size + 1, i, none⟩ v) := fun i v => hbw.setCell (by show w.heap.size ≤ w.heap.size + 1; omega) _
      have hF : ∀ (i : Nat) (v : Value), Blk (wr.setCell ⟨w.heap.size + 1, i, none⟩ v) w.heap.size 24 #[.int .u64 0, .int .u64 0, .int .u64 0, .int .u64 0] := fun i v => Blk.far h0 (by simp) _
      by_cases k0 : c < 64
      · have hq : (c / 64).toNat = 0 := by omega
        have E : Hid (putw q c = (orb q.1 c, q.2.1, q.2.2.1, q.2.2.2)) := by unfold putw; rw [if_pos k0]; exact rfl
        go_wp2_with fail
        go_roundw
        case rel => exact ⟨k + 1, by omega, by go_num, hF _ _, by rw [hs.out, E.out]; exact h1.set_ 0 _, hB2 _ _⟩
        case measure => simp [intOf]; omega
      by_cases k1 : c < 128
      · have hq : (c / 64).toNat = 1 := by omega
        have E : Hid (putw q c = (q.1, orb q.2.1 c, q.2.2.1, q.2.2.2)) := by unfold putw; rw [if_neg k0, if_pos k1]; exact rfl
        go_wp2_with fail
        go_roundw
        case rel => exact ⟨k + 1, by omega, by go_num, hF _ _, by rw [hs.out, E.out]; exact h1.set_ 1 _, hB2 _ _⟩
        case measure => simp [intOf]; omega
      by_cases k2 : c < 192
      · have hq : (c / 64).toNat = 2 := by omega
        have E : Hid (putw q c = (q.1, q.2.1, orb q.2.2.1 c, q.2.2.2)) := by unfold putw; rw [if_neg k0, if_neg k1, if_pos k2]; exact rfl
        go_wp2_with fail
        go_roundw
        case rel => exact ⟨k + 1, by omega, by go_num, hF _ _, by rw [hs.out, E.out]; exact h1.set_ 2 _, hB2 _ _⟩
        case measure => simp [intOf]; omega
      · have hq : (c / 64).toNat = 3 := by omega
        have E : Hid (putw q c = (q.1, q.2.1, q.2.2.1, orb q.2.2.2 c)) := by unfold putw; rw [if_neg k0, if_neg k1, if_neg k2]; exact rfl
        go_wp2_with fail
        go_roundw
        case rel => exact ⟨k + 1, by omega, by go_num, hF _ _, by rw [hs.out, E.out]; exact h1.set_ 3 _, hB2 _ _⟩
        case measure => simp [intOf]; omega
    · have ek : k = cs.length := by omega
      subst ek
      rw [List.take_length] at h1
      have q0 := h1.cell 0
      have q1 := h1.cell 1
      have q2 := h1.cell 2
      have q3 := h1.cell 3
      have p0 := h0.cell 0
      have p1 := h0.cell 1
      have p2 := h0.cell 2
      have p3 := h0.cell 3
      have f0 := h0.frozen 0
      have f1 := h0.frozen 1
      have f2 := h0.frozen 2
      have f3 := h0.frozen 3
      go_wp2_with fail
      have hfin : ∀ a b c d : Value, Blk ((((wr.setCell ⟨w.heap.size, 0, none⟩ a).setCell ⟨w.heap.size, 1, none⟩ b).setCell ⟨w.heap.size, 2, none⟩ c).setCell ⟨w.heap.size, 3, none⟩ d) w.heap.size 24 #[a, b, c, d] := fun a b c d => (((h0.set_ 0 a).set_ 1 b).set_ 2 c).set_ 3 d
      have e0 := (hfin (.int .u64 (ofw cs).1) (.int .u64 (ofw cs).2.1) (.int .u64 (ofw cs).2.2.1) (.int .u64 (ofw cs).2.2.2)).cell 0
      have e1 := (hfin (.int .u64 (ofw cs).1) (.int .u64 (ofw cs).2.1) (.int .u64 (ofw cs).2.2.1) (.int .u64 (ofw cs).2.2.2)).cell 1
      have e2 := (hfin (.int .u64 (ofw cs).1) (.int .u64 (ofw cs).2.1) (.int .u64 (ofw cs).2.2.1) (.int .u64 (ofw cs).2.2.2)).cell 2
      have e3 := (hfin (.int .u64 (ofw cs).1) (.int .u64 (ofw cs).2.1) (.int .u64 (ofw cs).2.2.1) (.int .u64 (ofw cs).2.2.2)).cell 3
      refine bodyPost_ret (v := aggw (ofw cs)) ?_ rfl ⟨rfl, (((hbw.setCell (Nat.le_refl _) _).setCell (Nat.le_refl _) _).setCell (Nat.le_refl _) _).setCell (Nat.le_refl _) _⟩
      simp [results, Try.results24, go_sem, e0, e1, e2, e3]
end Go.Proofs.Ytdgihlelopfdeaa
