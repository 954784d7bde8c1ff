/-
  slices.Repeat of a slice of one element: whatever the element.
-/
import Derived.Test.YtkkmipegolaleaaWords
import Derived.Test.YtkkmipegolaleaaProg
import Derived.Test.YtkkmipegolaleaaShelf
import Derived.WalkLawsBesides
import Derived.WalkSpells
import Derived.Lib.Hide
import Derived.Handy
import Derived.Outline
import Derived.Laws.CopyRow
import Derived.Laws.CopyOwn
import Derived.Deep.RegionLaw
namespace Go.Proofs.Ytkkmipegolaleaa
open Go.RowKit

section
variable {P : Program}
theorem run_copy_sz (w : World) (dT sT ty elem : TypeId) (sz g o dLen dCap : Nat) (a : Addr) (sLen sCap : Nat) (cur : Array Value) (t : TypeId) (cs : List Value)
    (hu : P.underlying dT = some (.slice elem)) (hs : (P.info? elem).map (·.size) = some sz)
    (hg : w.heap[g]? = some (.cells cur t (0, 0))) (hn : cs.length = Nat.min sLen dLen * sz)
    (hsrc : ∀ j v, cs[j]? = some v → w.cell? (a.add j) = some v) (hfit : o + cs.length ≤ cur.size) (h1 : ∀ v ∈ cs, v.oneCell' = true) :
    (Builtin.copy_ #[dT, sT] ty #[.slice (some ⟨g, o, none⟩) dLen dCap, .slice (some a) sLen sCap]).run P w =
      .ok (goInt (Nat.min sLen dLen)) (w.setRow g (cur.toList.take o ++ cs ++ cur.toList.drop (o + cs.length)).toArray) := by
  have hl := run_loadCells_list (P := P) w a cs hsrc
  have hst := run_storeCells_at P g o t cs 0 cur w hg (by simpa using hfit) h1
  cases hq : P.info? elem with
  | none => simp [hq] at hs
  | some i =>
    have hi : i.size = sz := by simpa [hq] using hs
    simp [Builtin.copy_, run_underlying hu, Builtin.lenOf, Builtin.firstCells, sizeOf, typeInfo, hq, hi, ← hn, hl, hst]

theorem copy_sz_wp {o : Oper} {a : Act} {w : World} {K : Act → World → Prop} {Q : Exit → Act → World → Prop} (d s : Operand) (dT sT : TypeId)
    (ho : o.op = .call { callee := .builtin .copy, args := #[d, s], argTypes := #[dT, sT] }) (elem : TypeId) (sz : Nat) (hu : P.underlying dT = some (.slice elem)) (hsz : (P.info? elem).map (·.size) = some sz)
    (g off dLen dCap sLen sCap : Nat) (ad : Addr) (dp : Option Addr) (hd : a.eval d = .slice dp dLen dCap) (hdp : dp = some ⟨g, off, none⟩) (hs : a.eval s = .slice (some ad) sLen sCap)
    (cur : List Value) (t : TypeId) (hg : w.heap[g]? = some (.cells cur.toArray t (0, 0))) (cs : List Value) (hn : cs.length = Nat.min sLen dLen * sz)
    (hsrc : ∀ j v, cs[j]? = some v → w.cell? (ad.add j) = some v) (hfit : off + cs.length ≤ cur.length) (h1 : ∀ v ∈ cs, v.oneCell' = true)
    (B : Nat) (w0 : World) (hb : Below B w0 w) (hBg : B ≤ g)
    (h : ∀ w', Hid (w'.heap[g]? = some (.cells (splice cur off cs).toArray t (0, 0))) → Below B w0 w' → K (a.put o.dst (goInt (Nat.min sLen dLen))) w') : Oper.wp P o a w K Q := by
  subst hdp
  have hrun := run_copy_sz (P := P) w dT sT o.type elem sz g off dLen dCap ad sLen sCap cur.toArray t cs hu hsz hg hn hsrc (by simpa using hfit) h1
  unfold Oper.wp
  simp [execOp, ho, resolve, invoke, builtin, hd, hs, hrun, Result.andThen]
  exact h _ (show _ = _ by simpa [splice] using setRow_heap w g _ _ t _ hg) (below_setRow hb hBg _)

theorem wpList_copy_sz {w : World} {ops : Array Oper} {rest : List Oper} {o : Oper} {a : Act} {Q : Exit → Act → World → Prop} (hgd : o.guard = none) (d s : Operand) (dT sT : TypeId)
    (ho : o.op = .call { callee := .builtin .copy, args := #[d, s], argTypes := #[dT, sT] }) (elem : TypeId) (sz : Nat) (hu : P.underlying dT = some (.slice elem)) (hsz : (P.info? elem).map (·.size) = some sz)
    (g off dLen dCap sLen sCap : Nat) (ad : Addr) (dp : Option Addr) (hd : a.eval d = .slice dp dLen dCap) (hdp : dp = some ⟨g, off, none⟩) (hs : a.eval s = .slice (some ad) sLen sCap)
    (cur : List Value) (t : TypeId) (hg : w.heap[g]? = some (.cells cur.toArray t (0, 0))) (cs : List Value) (hn : cs.length = Nat.min sLen dLen * sz)
    (hsrc : ∀ j v, cs[j]? = some v → w.cell? (ad.add j) = some v) (hfit : off + cs.length ≤ cur.length) (h1 : ∀ v ∈ cs, v.oneCell' = true)
    (B : Nat) (w0 : World) (hb : Below B w0 w) (hBg : B ≤ g)
    (h : ∀ w', Hid (w'.heap[g]? = some (.cells (splice cur off cs).toArray t (0, 0))) → Below B w0 w' → wpList P ops Q rest (a.put o.dst (goInt (Nat.min sLen dLen))) w') : wpList P ops Q (o :: rest) a w :=
  wpList_plain hgd fun _ hK => copy_sz_wp d s dT sT ho elem sz hu hsz g off dLen dCap sLen sCap ad dp hd hdp hs cur t hg cs hn hsrc hfit h1 B w0 hb hBg fun w' h2 h3 => hK _ _ (h w' h2 h3)

theorem step_copy_sz {ops : Array Oper} {o : Oper} {a : Act} {w : World} {K : Act → World → Prop} {Q : Exit → Act → World → Prop} {E : Prop} (hgd : o.guard = none) (d s : Operand) (dT sT : TypeId)
    (ho : o.op = .call { callee := .builtin .copy, args := #[d, s], argTypes := #[dT, sT] }) (elem : TypeId) (sz : Nat) (hu : P.underlying dT = some (.slice elem)) (hsz : (P.info? elem).map (·.size) = some sz)
    (g off dLen dCap sLen sCap : Nat) (ad : Addr) (dp : Option Addr) (hd : a.eval d = .slice dp dLen dCap) (hdp : dp = some ⟨g, off, none⟩) (hs : a.eval s = .slice (some ad) sLen sCap)
    (cur : List Value) (t : TypeId) (hg : w.heap[g]? = some (.cells cur.toArray t (0, 0))) (cs : List Value) (hn : cs.length = Nat.min sLen dLen * sz)
    (hsrc : ∀ j v, cs[j]? = some v → w.cell? (ad.add j) = some v) (hfit : off + cs.length ≤ cur.length) (h1 : ∀ v ∈ cs, v.oneCell' = true)
    (B : Nat) (w0 : World) (hb : Below B w0 w) (hBg : B ≤ g)
    (h : ∀ w', Hid (w'.heap[g]? = some (.cells (splice cur off cs).toArray t (0, 0))) → Below B w0 w' → K (a.put o.dst (goInt (Nat.min sLen dLen))) w') :
    if Region.wanted o (yielded ops a.tmps) = true then Oper.wp P o a w K Q else E := by
  have hw : Region.wanted o (yielded ops a.tmps) = true := by simp [Region.wanted, hgd]
  rw [if_pos hw]
  exact copy_sz_wp d s dT sT ho elem sz hu hsz g off dLen dCap sLen sCap ad dp hd hdp hs cur t hg cs hn hsrc hfit h1 B w0 hb hBg h
end

/-- A row whose first m pieces are v. -/
def RepAt (cur v : List Value) (m n : Nat) : Prop := cur.length = n * v.length ∧ cur.take (m * v.length) = (List.replicate m v).flatten
theorem rep_len (v : List Value) (k : Nat) : ((List.replicate k v).flatten).length = k * v.length := by
  simp [List.length_flatten, List.map_replicate, List.sum_replicate_nat]
theorem rep_step {cur v : List Value} {m n k : Nat} (h : RepAt cur v m n) (hk : m + k ≤ n) : RepAt (splice cur (m * v.length) ((List.replicate k v).flatten)) v (m + k) n := by
  obtain ⟨hl, ht⟩ := h
  have hle : (m + k) * v.length ≤ n * v.length := Nat.mul_le_mul_right _ hk
  have hml : m * v.length + k * v.length = (m + k) * v.length := (Nat.add_mul _ _ _).symm
  refine ⟨?_, ?_⟩
  · rw [length_splice _ _ _ (by rw [rep_len]; omega)]; exact hl
  · unfold splice
    rw [ht, ← List.append_assoc, List.take_append_of_le_length (by rw [List.length_append, rep_len, rep_len]; omega), List.take_of_length_le (by rw [List.length_append, rep_len, rep_len]; omega), ← List.flatten_append, List.replicate_append_replicate]
theorem rep_cell {cur v : List Value} {m n k j : Nat} {u : Value} (h : RepAt cur v m n) (hk : k ≤ m) (hu : ((List.replicate k v).flatten)[j]? = some u) : cur[j]? = some u := by
  have hj : j < k * v.length := by rw [← rep_len]; exact (List.getElem?_eq_some_iff.1 hu).1
  have hjm : j < m * v.length := Nat.lt_of_lt_of_le hj (Nat.mul_le_mul_right _ hk)
  have e : (List.replicate m v).flatten = (List.replicate k v).flatten ++ (List.replicate (m - k) v).flatten := by
    rw [← List.flatten_append, List.replicate_append_replicate, Nat.add_sub_cancel' hk]
  have h1 : (cur.take (m * v.length))[j]? = some u := by rw [h.2, e, List.getElem?_append_left (by rw [rep_len]; exact hj)]; exact hu
  rwa [List.getElem?_take, if_pos hjm] at h1
theorem rep_all {cur v : List Value} {n : Nat} (h : RepAt cur v n n) : cur = (List.replicate n v).flatten := by
  rw [← h.2, List.take_of_length_le (by rw [h.1]; omega)]
theorem rep_one (v : List Value) {cur : List Value} {n : Nat} (hl : cur.length = n * v.length) : RepAt cur v 0 n := ⟨hl, by simp⟩
theorem rep_cells_one {v : List Value} (h : ∀ u ∈ v, u.oneCell' = true) (k : Nat) : ∀ u ∈ (List.replicate k v).flatten, u.oneCell' = true := by
  intro u hu
  obtain ⟨l, hl, hul⟩ := List.mem_flatten.1 hu
  rw [(List.mem_replicate.1 hl).2] at hul
  exact h u hul

theorem rep_info : (Try.prog.info? 3).map (fun i => (i.zero, i.size, i.bytes)) = some (some (.int .i64 0), 1, 8) := by kernel_rfl
theorem rep_size : (Try.prog.info? 3).map (·.size) = some 1 := by kernel_rfl

theorem mul1_any (n : Nat) (w : World) (hn : n ≤ 100000) : Calls Try.prog 35 #[.int .u64 1, .int .u64 n] w fun e w' => e = .returned (.tuple #[.int .u64 0, .int .u64 n]) ∧ w = w' := by
  have h := Try.bits_Mul 1 n (by omega) (by omega) w
  rw [show (1 * n / 18446744073709551616 : Nat) = 0 by omega, show (1 * n % 18446744073709551616 : Nat) = n by omega] at h
  exact h.mono fun e w' ⟨a, b⟩ => ⟨a, b.symm⟩

def RepW (w : World) (g : Nat) (v : List Value) (m n : Nat) : Prop := ∃ cur : List Value, w.heap[g]? = some (.cells cur.toArray 3 (0, 0)) ∧ RepAt cur v m n
theorem repW_first {w : World} {g n : Nat} {v : List Value} {M : Array Value} (hl : M.toList.length = n * v.length) (hn : 1 ≤ n) (h : Hid (w.heap[g]? = some (.cells (splice M.toList 0 v).toArray 3 (0, 0)))) : RepW w g v 1 n := by
  have hs := rep_step (k := 1) (rep_one v hl) (by omega)
  simp only [List.replicate_one, List.flatten_cons, List.flatten_nil, List.append_nil, Nat.zero_mul, Nat.zero_add] at hs
  exact ⟨_, h.out, hs⟩

def RepIs (w : World) (n : Nat) (v : List Value) (e : Ending) (w' : World) : Prop :=
  ∃ g, e = .returned (.slice (some ⟨g, 0, none⟩) n n) ∧ w.heap.size ≤ g ∧ Blk w' g 3 ((List.replicate n v).flatten).toArray ∧ Below w.heap.size w w'

set_option maxHeartbeats 1000000 in
set_option maxRecDepth 100000 in
theorem repeat_any (v : List Value) (ad : Addr) (c n : Nat) (w : World) (had : ad.block < w.heap.size) (hsrc : ∀ j u, v[j]? = some u → w.cell? (ad.add j) = some u) (hv : v.length = 1) (h1 : ∀ u ∈ v, u.oneCell' = true) (hn1 : 1 ≤ n) (hn2 : n ≤ 100000) :
    Calls Try.prog 23 #[.slice (some ad) 1 c, .int .i64 n] w (RepIs w n v) := by
  obtain ⟨i0, hi, hz0, hz1, hz2⟩ := info_parts rep_info
  have hmk := fun W => run_make_rowN (P := Try.prog) 22 3 i0 (.int .i64 0) Try.underlying22 hi hz0 .i64 .i64 n n (Nat.le_refl _) (by rw [hz2]; omega) (by omega) W
  generalize hM : madeCells (Value.cells (.int .i64 0)) (n * i0.size) = M at hmk
  have hMl : M.toList.length = n * v.length := by rw [← hM, Array.length_toList, size_madeCells, hz1, hv]
  have HV := Lib.hid hv
  have HS := Lib.hid hsrc
  have HM := Lib.hid hMl
  have H1 := Lib.hid h1
  clear hM hMl hv hsrc h1 hi hz0 hz1 hz2
  go_enter Try.func23, Try.ntmps23
  have hg0 : (w.alloc (.cells M 3)).heap[w.heap.size]? = some (.cells M.toList.toArray 3 (0, 0)) := by simpa using heap_alloc_new w (.cells M 3)
  have hb0 : Below w.heap.size w (w.alloc (.cells M 3)) := (Below.refl _ _).alloc (Nat.le_refl _) _
  have hs0 : ∀ j u, v[j]? = some u → (w.alloc (.cells M 3)).cell? (ad.add j) = some u := fun j u hu => (World.cell?_alloc_lt w _ _ (by rw [block_of_add]; exact had)).trans (HS.out j u hu)
  have HG := Lib.hid hg0
  have HB := Lib.hid hb0
  have HS0 := Lib.hid hs0
  clear hg0 hb0 hs0
  have hmin : v.length = Nat.min 1 n * 1 := by
    rw [HV.out, show Nat.min 1 n = 1 from Nat.min_eq_left hn1]
  have hfit : 0 + v.length ≤ M.toList.length := by rw [HM.out, Nat.zero_add]; exact Nat.le_mul_of_pos_left _ hn1
  have HMIN := Lib.hid hmin
  have HFIT := Lib.hid hfit
  clear hmin hfit
  go_wp2_with (first | (go_at_call 35; refine (mul1_any n _ (by omega)).mono ?_; rintro e w' ⟨rfl, rfl⟩) | (with_reducible refine wpList_copy_sz rfl (.tmp 31) (.tmp 32) 22 22 rfl 3 1 Try.underlying22 rep_size w.heap.size 0 n n 1 c ad _ rfl rfl rfl M.toList 3 HG.out v HMIN.out HS0.out HFIT.out H1.out w.heap.size w HB.out (Nat.le_refl _) ?_; intro w1 hg1 hb1))
  have hW1 := repW_first HM.out hn1 hg1
  clear hg1 HG HB HS0 HMIN HFIT HM hmk
  go_loopw [8] (fun x wr => ∃ m : Nat, 1 ≤ m ∧ m ≤ n ∧ x = .int .i64 m ∧ RepW wr w.heap.size v m n ∧ Below w.heap.size w wr) (fun x _ => n - (intOf x).toNat)
  case atStart => exact ⟨1, by omega, hn1, rfl, hW1, hb1⟩
  case round =>
    clear hW1 hb1
    obtain ⟨m, hm1, hm2, rfl, ⟨cur, hg, hrep⟩, hbr⟩ := hrel
    by_cases hlt : m < n
    · obtain ⟨k, hk⟩ : ∃ k, k = Nat.min m (n - m) := ⟨_, rfl⟩
      have hk1 : 1 ≤ k := by rw [hk]; exact Nat.le_min.2 ⟨hm1, by omega⟩
      have hkm : k ≤ m := by rw [hk]; exact Nat.min_le_left _ _
      have hkn : m + k ≤ n := by have : k ≤ n - m := by rw [hk]; exact Nat.min_le_right _ _
                                 omega
      have hlen : ((List.replicate k v).flatten).length = Nat.min m (n - m) * 1 := by rw [rep_len, HV.out, hk]
      have hsr : ∀ j u, ((List.replicate k v).flatten)[j]? = some u → wr.drew.cell? ((⟨w.heap.size, 0, none⟩ : Addr).add j) = some u := fun j u hu => by
        have e : (⟨w.heap.size, 0, none⟩ : Addr).add j = ⟨w.heap.size, j, none⟩ := by unfold Addr.add; split <;> simp_all
        rw [e]
        show wr.cell? _ = _
        rw [Blk.cell (show Blk wr w.heap.size 3 cur.toArray from hg) j, List.getElem?_toArray]
        exact rep_cell hrep hkm hu
      have hfit : m * 1 + ((List.replicate k v).flatten).length ≤ cur.length := by
        rw [rep_len, hrep.1, HV.out, ← Nat.add_mul]
        exact Nat.mul_le_mul_right _ hkn
      have hone := rep_cells_one H1.out k
      have hnext : ∀ w', Hid (w'.heap[w.heap.size]? = some (.cells (splice cur (m * 1) ((List.replicate k v).flatten)).toArray 3 (0, 0))) → RepW w' w.heap.size v (m + k) n := fun w' h => ⟨_, h.out, by have := rep_step hrep hkn; rw [HV.out] at this; exact this⟩
      have hgd : wr.drew.heap[w.heap.size]? = some (.cells cur.toArray 3 (0, 0)) := hg
      have hbd : Below w.heap.size w wr.drew := hbr.drew
      have HG := Lib.hid hgd
      have HB := Lib.hid hbd
      have HL := Lib.hid hlen
      have HSR := Lib.hid hsr
      have HF := Lib.hid hfit
      have HO := Lib.hid hone
      have HN := Lib.hid hnext
      have HK := Lib.hid hk
      have hne : ¬ n = m := by omega
      have HNE := Lib.hid hne
      clear hne
      clear hrep hg hbr hlen hsr hfit hone hnext hk hgd hbd
      go_wp2_with fail
      go_region_law (refine step_copy_sz rfl (.tmp 41) (.tmp 44) 22 22 rfl 3 1 Try.underlying22 rep_size w.heap.size (m * 1) (n - m) (n - m) m n ⟨w.heap.size, 0, none⟩ (if n = m then some ⟨w.heap.size, 0, none⟩ else some ⟨w.heap.size, m, none⟩) (by go_simp) (by first | exact if_neg HNE.out | (rw [if_neg HNE.out]; simp)) (by go_simp) cur 3 HG.out ((List.replicate k v).flatten) HL.out HSR.out HF.out HO.out w.heap.size w HB.out (Nat.le_refl _) ?_; intro w2 hg2 hb2)
      rw [show IntKind.i64.wrap ((m : Int) + ((Nat.min m (n - m) : Nat) : Int)) = ((m + k : Nat) : Int) by rw [← HK.out]; rw [IntWalk.i64_in _ (by omega)]; omega]
      go_wp2_with fail
      go_roundw
      case rel => exact ⟨m + k, by omega, hkn, by omega, HN.out _ hg2⟩
      case measure => simp [intOf]; omega
    · obtain rfl : m = n := by omega
      have HR := Lib.hid (rep_all hrep)
      have HG := Lib.hid hg
      clear hrep hg
      go_wp2_with fail
      go_ret
      exact ⟨w.heap.size, rfl, Nat.le_refl _, by rw [← HR.out]; exact HG.out, hbr⟩
end Go.Proofs.Ytkkmipegolaleaa
