/-
  quote.each: the iterator's contract.
-/
import Derived.Test.YtdgihlelopfdeaaRb3
import Derived.RangeFuncBox
import Derived.RangeFuncLeaves
import Derived.RangeFuncCalls
import Derived.Shelf.Abstract
import Derived.OwnWalkIn
import Derived.TacticsInMore
import Derived.LoopNIn
import Derived.LoopIn
import Derived.RegionIn
import Derived.Shelf.RegionOpen
namespace Go.Proofs.Ytdgihlelopfdeaa
open Go.RowKit Go.Shelf Q

theorem str_drop (xs : List Int) (k : Nat) : (strOfNums xs).extract k (strOfNums xs).size = strOfNums (xs.drop k) := by
  have hs := strOfNums_size xs
  apply ByteArray.ext
  rw [hs]
  simp [strOfNums]
  rw [List.take_of_length_le (by simp)]
theorem slice_from (xs : List Int) (k : Nat) (hk : k ≤ xs.length) (w : World) : (Instr.slice 9 (.string (strOfNums xs)) (some (.int .i64 (k : Int))) none none).run Try.prog w = .ok (.string (strOfNums (xs.drop k))) w := by
  have hs := strOfNums_size xs
  rw [run_slice_string_l (P := Try.prog) w 9 (strOfNums xs) Try.underlying9 .i64 (k : Int) (by omega) (by omega)]
  rw [Int.toNat_natCast, str_drop]

/-- What a round must keep: the two boxes that the iterator reads. -/
def Kb (Bs Bm : Nat) (A B : World) : Prop := A.heap.size ≤ B.heap.size ∧ B.heap[Bs]? = A.heap[Bs]? ∧ B.heap[Bm]? = A.heap[Bm]?
theorem Kb.refl (Bs Bm : Nat) (A : World) : Kb Bs Bm A A := ⟨Nat.le_refl _, rfl, rfl⟩
theorem Kb.trans {Bs Bm : Nat} {A B C : World} (h : Kb Bs Bm A B) (k : Kb Bs Bm B C) : Kb Bs Bm A C := ⟨Nat.le_trans h.1 k.1, k.2.1.trans h.2.1, k.2.2.trans h.2.2⟩
theorem Kb.of_below {Bs Bm : Nat} {A B : World} (h : Below A.heap.size A B) (hs : Bs < A.heap.size) (hm : Bm < A.heap.size) : Kb Bs Bm A B := ⟨h.size, h.block _ hs, h.block _ hm⟩
theorem Kb.cs {Bs Bm : Nat} {A B : World} (h : Kb Bs Bm A B) (i : Nat) : B.cell? ⟨Bs, i, none⟩ = A.cell? ⟨Bs, i, none⟩ := World.cell?_of_block h.2.1
theorem Kb.cm {Bs Bm : Nat} {A B : World} (h : Kb Bs Bm A B) (i : Nat) : B.cell? ⟨Bm, i, none⟩ = A.cell? ⟨Bm, i, none⟩ := World.cell?_of_block h.2.2
theorem Kb.put {Bs Bm : Nat} {w : World} (hs : Bs < w.heap.size) (hm : Bm < w.heap.size) (W : World) (l : Nat) (o o' : Obj) (hl : w.heap.size ≤ l) (_ : W.heap[l]? = some o) (_ : o.isCells = false) (_ : o.isWalk = false) : Kb Bs Bm W (W.putObj l o') :=
  ⟨(grownBy_putObj' W l o').size, World.putObj_heap_other (by omega), World.putObj_heap_other (by omega)⟩

/-- What the iterator hands out: each byte with the index behind it; where none can be read, the index itself, last. -/
def tr (m : Int → Bool) : Nat → Nat → List Int → List (Nat × Int)
  | 0, _, _ => []
  | _ + 1, _, [] => []
  | f + 1, p, x :: xs =>
    if (rb m (x :: xs)).2.2 = 0 then (p + (rb m (x :: xs)).2.1.toNat, (rb m (x :: xs)).1) :: tr m f (p + (rb m (x :: xs)).2.1.toNat) ((x :: xs).drop (rb m (x :: xs)).2.1.toNat)
    else [(p, 0)]

theorem tr_nil (m : Int → Bool) (f p : Nat) : tr m f p [] = [] := by cases f <;> rfl
theorem by_drop {xs : List Int} (h : By xs) (k : Nat) : By (xs.drop k) := fun x hx => h x (List.mem_of_mem_drop hx)
theorem by_take {xs : List Int} (h : By xs) (k : Nat) : By (xs.take k) := fun x hx => h x (List.mem_of_mem_take hx)

theorem tr_length (m : Int → Bool) : ∀ (f p : Nat) (xs : List Int), By xs → (tr m f p xs).length ≤ xs.length
  | 0, _, _, _ => by simp [tr]
  | _ + 1, _, [], _ => by simp [tr]
  | f + 1, p, x :: xs, hb => by
    rw [tr]
    rcases (rb_facts m (x :: xs) hb).2 with ⟨h1, h2, h3⟩ | h
    · rw [if_pos h1]
      have := tr_length m f (p + (rb m (x :: xs)).2.1.toNat) ((x :: xs).drop (rb m (x :: xs)).2.1.toNat) (by_drop hb _)
      rw [List.length_drop] at this
      rw [List.length_cons (a := (_, _))]
      omega
    · rw [h]; simp

/-- At place p (f is enough): what is still to come. -/
theorem tr_step_ok (m : Int → Bool) (f p : Nat) (xs : List Int) (hx : 0 < xs.length) (c n : Int) (h : rb m xs = (c, n, 0)) : tr m (f + 1) p xs = (p + n.toNat, c) :: tr m f (p + n.toNat) (xs.drop n.toNat) := by
  cases xs with
  | nil => simp at hx
  | cons x t => rw [tr, h]; simp
theorem tr_step_bad (m : Int → Bool) (f p : Nat) (xs : List Int) (hx : 0 < xs.length) (h : rb m xs = (0, 0, 20)) : tr m (f + 1) p xs = [(p, 0)] := by
  cases xs with
  | nil => simp at hx
  | cons x t => rw [tr, h]; simp

set_option maxRecDepth 100000 in
set_option maxHeartbeats 2000000 in
theorem each1_in (n : Nat) (hn : 1 ≤ n) (l Bs Bm : Nat) (x0 x1 x2 x3 : Int) (xs : List Int) (hw : Words x0 x1 x2 x3) (hb : By xs) (hl : xs.length ≤ 1000000000) (J Jx : List (Nat × Int) → World → Prop)
    (hY : ∀ pre x W, J pre W → pre.length < xs.length → YieldAt Fence.wide (n - 1) Try.prog l #[.int .i64 (x.1 : Int), .int .u8 x.2] W fun e W' =>
      (e = .returned (.bool true) ∧ J (pre ++ [x]) W' ∧ Kb Bs Bm W W') ∨ (e = .returned (.bool false) ∧ Jx (pre ++ [x]) W'))
    (hJb : ∀ pre W W', J pre W → Below W.heap.size W W' → J pre W')
    (W : World) (hBs : Bs < W.heap.size) (hBm : Bm < W.heap.size) (hcs : W.cell? ⟨Bs, 0, none⟩ = some (.string (strOfNums xs)))
    (hm0 : W.cell? ⟨Bm, 0, none⟩ = some (.int .u64 x0)) (hm1 : W.cell? ⟨Bm, 1, none⟩ = some (.int .u64 x1)) (hm2 : W.cell? ⟨Bm, 2, none⟩ = some (.int .u64 x2)) (hm3 : W.cell? ⟨Bm, 3, none⟩ = some (.int .u64 x3)) (h0 : J [] W) :
    CallsIn Fence.wide n Try.prog 50 #[.func (.yield l) #[] #[], .pointer (some ⟨Bs, 0, none⟩), .pointer (some ⟨Bm, 0, none⟩)] W fun e W' => (∃ v, e = .returned v) ∧
      ((∃ ys, ys = tr (mkd x0 x1 x2 x3) xs.length 0 xs ∧ J ys W') ∨ (∃ pre, pre <+: tr (mkd x0 x1 x2 x3) xs.length 0 xs ∧ Jx pre W')) := by
  refine callsIn_of_wp Try.func50 rfl trivial ?_ rfl
  simp only [Try.ntmps50, List.size_toArray, List.length_cons, List.length_nil, Nat.reduceAdd, Nat.reduceSub, Array.replicate_succ, Array.replicate_zero, List.push_toArray, List.append_toArray, List.nil_append, List.cons_append]
  have hsz := strOfNums_size xs
  gi_wp2
  gi_loopw [4] (fun i wr => ∃ (k f : Nat) (pre : List (Nat × Int)), k ≤ xs.length ∧ xs.length ≤ k + f ∧ i = .int .i64 k ∧ tr (mkd x0 x1 x2 x3) xs.length 0 xs = pre ++ tr (mkd x0 x1 x2 x3) f k (xs.drop k) ∧ J pre wr ∧ Kb Bs Bm W wr)
    (fun i _ => xs.length - (intOf i).toNat)
  case atStart => exact ⟨0, xs.length, [], Nat.zero_le _, by omega, rfl, by simp, h0, Kb.refl _ _ _⟩
  case round =>
    obtain ⟨k, f, pre, hk, hf, rfl, htr, hJs, hnx⟩ := hrel
    have hz := hnx.1
    have qs := (hnx.cs 0).trans hcs
    have pS : ∀ p : Bw wr, p.val.cell? ⟨Bs, 0, none⟩ = some (.string (strOfNums xs)) := Bw.cell (by show Bs < wr.heap.size; omega) qs
    have p0 : ∀ p : Bw wr, p.val.cell? ⟨Bm, 0, none⟩ = some (.int .u64 x0) := Bw.cell (by show Bm < wr.heap.size; omega) ((hnx.cm 0).trans hm0)
    have p1 : ∀ p : Bw wr, p.val.cell? ⟨Bm, 1, none⟩ = some (.int .u64 x1) := Bw.cell (by show Bm < wr.heap.size; omega) ((hnx.cm 1).trans hm1)
    have p2 : ∀ p : Bw wr, p.val.cell? ⟨Bm, 2, none⟩ = some (.int .u64 x2) := Bw.cell (by show Bm < wr.heap.size; omega) ((hnx.cm 2).trans hm2)
    have p3 : ∀ p : Bw wr, p.val.cell? ⟨Bm, 3, none⟩ = some (.int .u64 x3) := Bw.cell (by show Bm < wr.heap.size; omega) ((hnx.cm 3).trans hm3)
    by_cases hlt : k < xs.length
    · obtain ⟨f, rfl⟩ : ∃ g, f = g + 1 := ⟨f - 1, by omega⟩
      have hsl := slice_from xs k hk
      have hlen : pre.length < xs.length := by
        have h1 := tr_length (mkd x0 x1 x2 x3) xs.length 0 xs hb
        have h2 : 0 < (tr (mkd x0 x1 x2 x3) (f + 1) k (xs.drop k)).length := by
          have hd : 0 < (xs.drop k).length := by rw [List.length_drop]; omega
          generalize xs.drop k = ys at hd
          cases ys with
          | nil => simp at hd
          | cons y t => rw [tr]; split <;> simp
        rw [htr, List.length_append] at h1
        omega
      have hdl : (xs.drop k).length = xs.length - k := List.length_drop
      have hRB := Lib.hid (fun w => rb_is x0 x1 x2 x3 (xs.drop k) w hw (by_drop hb k) (by omega))
      have hf2 := (rb_facts (mkd x0 x1 x2 x3) (xs.drop k) (by_drop hb k)).2
      have hTR := Lib.hid htr
      clear htr
      have h20 : Fence.wide.fn 20 := trivial
      have hmx : Try.prog.follows .mixedOrders = true := by kernel_rfl
      rcases hf2 with ⟨h1, h2, h3⟩ | h
      · obtain ⟨c, n', e', hr⟩ : ∃ c n' e', rb (mkd x0 x1 x2 x3) (xs.drop k) = (c, n', e') := ⟨_, _, _, rfl⟩
        rw [hr] at h1 h2 h3 hRB
        dsimp only at h1 h2 h3
        subst h1
        have hst := Lib.hid (tr_step_ok (mkd x0 x1 x2 x3) f k (xs.drop k) (by omega) c n' hr)
        clear hr
        gi_wp2
        refine wpIn_wide.2 ?_
        refine wp_region_bw (by kernel_rfl) (by kernel_rfl) ?_
        repeat (go_big_quiet_step ((go_at_call 20; exact calls_bw (hRB.out _))))
        refine wpQuiet_nil ?_
        rintro _ ⟨p, rfl⟩
        obtain ⟨w1, hb1⟩ := p
        all_goals
          dsimp only
          have hJ1 : J pre w1 := hJb pre _ _ hJs hb1
          have hnx1 : Kb Bs Bm W w1 := hnx.trans (Kb.of_below hb1 (by omega) (by omega))
          have hYY := hY pre (k + n'.toNat, c) w1 hJ1 hlen
          dsimp only at hYY
          rw [show ((k + n'.toNat : Nat) : Int) = (k : Int) + n' from by omega] at hYY
          obtain ⟨fn, tmps, assign, body, hy, hR⟩ := hYY
          gi_wp2
          refine hR.mono ?_
          rintro e W3 (⟨rfl, hJ3, hk3⟩ | ⟨rfl, hJx3⟩)
          · gi_wp2
            go_roundw
            case rel => exact ⟨k + n'.toNat, f, pre ++ [(k + n'.toNat, c)], by omega, by omega, by congr 1; omega, by rw [hTR.out, hst.out, List.drop_drop]; simp, hJ3, hnx1.trans hk3⟩
            case measure => simp [intOf]; omega
          · gi_wp2
            refine bodyPost_ret (results_none rfl _ _ _) rfl ?_
            exact ⟨⟨_, rfl⟩, .inr ⟨_, ⟨_, by rw [hTR.out, hst.out]; simp only [List.append_assoc, List.singleton_append]; rfl⟩, hJx3⟩⟩
      · have hst := Lib.hid (tr_step_bad (mkd x0 x1 x2 x3) f k (xs.drop k) (by omega) h)
        rw [h] at hRB
        clear h
        gi_wp2
        refine wpIn_wide.2 ?_
        refine wp_region_bw (by kernel_rfl) (by kernel_rfl) ?_
        repeat (go_big_quiet_step ((go_at_call 20; exact calls_bw (hRB.out _))))
        refine wpQuiet_nil ?_
        rintro _ ⟨p, rfl⟩
        obtain ⟨w1, hb1⟩ := p
        all_goals
          dsimp only
          have hJ1 : J pre w1 := hJb pre _ _ hJs hb1
          have hnx1 : Kb Bs Bm W w1 := hnx.trans (Kb.of_below hb1 (by omega) (by omega))
          have hYY := hY pre (k, 0) w1 hJ1 hlen
          dsimp only at hYY
          obtain ⟨fn, tmps, assign, body, hy, hR⟩ := hYY
          gi_wp2
          refine hR.mono ?_
          rintro e W3 (⟨rfl, hJ3, hk3⟩ | ⟨rfl, hJx3⟩)
          · gi_wp2
            refine bodyPost_ret (results_none rfl _ _ _) rfl ?_
            exact ⟨⟨_, rfl⟩, .inl ⟨_, by rw [hTR.out, hst.out], hJ3⟩⟩
          · gi_wp2
            refine bodyPost_ret (results_none rfl _ _ _) rfl ?_
            exact ⟨⟨_, rfl⟩, .inr ⟨_, by rw [hTR.out, hst.out]; exact List.prefix_refl _, hJx3⟩⟩
    · obtain rfl : k = xs.length := by omega
      rw [List.drop_length, tr_nil, List.append_nil] at htr
      gi_wp2
      go_end0
      exact ⟨⟨_, rfl⟩, .inl ⟨pre, htr.symm, hJs⟩⟩

/-- quote.each: both arguments are boxed; the function value captures the boxes. -/
theorem each_any (x0 x1 x2 x3 : Int) (xs : List Int) (w : World) :
    Calls Try.prog 36 #[.string (strOfNums xs), .agg #[.int .u64 x0, .int .u64 x1, .int .u64 x2, .int .u64 x3]] w fun e w' =>
      e = .returned (.func (.func 50) #[] #[.pointer (some ⟨w.heap.size, 0, none⟩), .pointer (some ⟨w.heap.size + 1, 0, none⟩)]) ∧
      w' = (w.alloc (.cells #[.string (strOfNums xs)] 9)).alloc (.cells #[.int .u64 x0, .int .u64 x1, .int .u64 x2, .int .u64 x3] 24) := by
  go_enter Try.func36, Try.ntmps36
  go_wp2_with fail
  go_ret
  exact ⟨rfl, rfl⟩

theorem each_stops (n : Nat) (hn : 1 ≤ n) (Bs Bm : Nat) (x0 x1 x2 x3 : Int) (xs : List Int) (hw : Words x0 x1 x2 x3) (hb : By xs) (hl : xs.length ≤ 1000000000) (w : World) (hBs : Bs < w.heap.size) (hBm : Bm < w.heap.size)
    (hcs : w.cell? ⟨Bs, 0, none⟩ = some (.string (strOfNums xs)))
    (hm0 : w.cell? ⟨Bm, 0, none⟩ = some (.int .u64 x0)) (hm1 : w.cell? ⟨Bm, 1, none⟩ = some (.int .u64 x1)) (hm2 : w.cell? ⟨Bm, 2, none⟩ = some (.int .u64 x2)) (hm3 : w.cell? ⟨Bm, 3, none⟩ = some (.int .u64 x3)) :
    SeqStopsK Fence.wide n Try.prog 50 #[.pointer (some ⟨Bs, 0, none⟩), .pointer (some ⟨Bm, 0, none⟩)] (fun x : Nat × Int => #[Value.int .i64 (x.1 : Int), Value.int .u8 x.2]) (Kb Bs Bm)
      (fun ys => ys = tr (mkd x0 x1 x2 x3) xs.length 0 xs) (fun pre => pre <+: tr (mkd x0 x1 x2 x3) xs.length 0 xs) xs.length w := fun l J Jx W hW hJ _ hY h0 => by
  have hz := hW.size
  exact each1_in n hn l Bs Bm x0 x1 x2 x3 xs hw hb hl J Jx hY
    (fun pre A B hA hAB => hJ pre A B none hA ⟨hAB.os, hAB.tape, hAB.output, hAB.size, fun k hk _ => hAB.block k hk⟩ (fun r e => by cases e))
    W (by omega) (by omega) ((hW.cell (p := ⟨Bs, 0, none⟩) (by show Bs < _; omega)).trans hcs)
    ((hW.cell (p := ⟨Bm, 0, none⟩) (by show Bm < _; omega)).trans hm0) ((hW.cell (p := ⟨Bm, 1, none⟩) (by show Bm < _; omega)).trans hm1)
    ((hW.cell (p := ⟨Bm, 2, none⟩) (by show Bm < _; omega)).trans hm2) ((hW.cell (p := ⟨Bm, 3, none⟩) (by show Bm < _; omega)).trans hm3) h0
end Go.Proofs.Ytdgihlelopfdeaa
