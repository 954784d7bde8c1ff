/-
  slices.Insert of one integer: the guide's contracts at this program's numbers, joined.
-/
import Derived.Test.YtkkmipegolaleaaTells
import Derived.Shelf.Spec.SlicesInsert
import Derived.Shelf.Spec.SlicesInsertGrow
namespace Go.Proofs.Ytkkmipegolaleaa
open Go.RowKit T

def insRen : Go.Shelf.Ren := ⟨fun | 21 => 24 | 27 => 36 | 28 => 37 | 35 => 41 | 39 => 42 | n => n, fun | 22 => 22 | 3 => 3 | 4 => 4 | 0 => 0 | n => n, fun | n => n⟩
theorem ins_lays : Go.Proofs.Lays2.n21 Try.prog insRen := {
  mixed := by kernel_rfl
  f21 := by kernel_rfl
  f27 := by kernel_rfl
  f28 := by kernel_rfl
  f35 := by kernel_rfl
  f39 := by kernel_rfl
  t0 := Try.underlying0
  a0 := Try.isAgg0
  z0 := Try.sizeOf0
  v0 := Try.zeroValue0
  t3 := Try.underlying3
  a3 := Try.isAgg3
  z3 := Try.sizeOf3
  v3 := Try.zeroValue3
  t4 := Try.underlying4
  a4 := Try.isAgg4
  z4 := Try.sizeOf4
  v4 := Try.zeroValue4
  t22 := Try.underlying22
  a22 := Try.isAgg22
  z22 := Try.sizeOf22
  v22 := Try.zeroValue22
  i3 := by kernel_rfl }

/-- The list with one more. -/
def insL (zs : List Int) (k : Nat) (x : Int) : List Int := zs.take k ++ x :: zs.drop k

theorem insL_len (zs : List Int) (k : Nat) (x : Int) (hk : k ≤ zs.length) : (insL zs k x).length = zs.length + 1 := by
  unfold insL
  rw [List.length_append, List.length_cons, List.length_take, List.length_drop]; omega
theorem insL_lt (zs : List Int) (k : Nat) (x : Int) (hk : k ≤ zs.length) (j : Nat) (h : j < k) : (insL zs k x).getD j 0 = zs.getD j 0 := by
  unfold insL
  rw [List.getD_eq_getElem?_getD, List.getElem?_append_left (by rw [List.length_take]; omega), List.getElem?_take, if_pos h, ← List.getD_eq_getElem?_getD]
theorem insL_eq (zs : List Int) (k : Nat) (x : Int) (hk : k ≤ zs.length) : (insL zs k x).getD k 0 = x := by
  unfold insL
  rw [List.getD_eq_getElem?_getD, List.getElem?_append_right (by rw [List.length_take]; omega), List.length_take, Nat.min_eq_left hk, Nat.sub_self]; rfl
theorem insL_gt (zs : List Int) (k : Nat) (x : Int) (hk : k ≤ zs.length) (j : Nat) (h : k ≤ j) : (insL zs k x).getD (j + 1) 0 = zs.getD j 0 := by
  unfold insL
  rw [List.getD_eq_getElem?_getD, List.getElem?_append_right (by rw [List.length_take]; omega), List.length_take, Nat.min_eq_left hk, show j + 1 - k = (j - k) + 1 from by omega, List.getElem?_cons_succ, List.getElem?_drop, show k + (j - k) = j from by omega, ← List.getD_eq_getElem?_getD]

theorem sl_of_cells {w : World} {b : Nat} {ys : List Int} (hl : ys.length ≤ 1000) (hb : b < w.heap.size) (h : ∀ j, j < ys.length → w.cell? ⟨b, j, none⟩ = some (.int .i64 (ys.getD j 0))) : Sl w (some ⟨b, 0, none⟩) ys := by
  refine ⟨by omega, by simp, fun _ => ⟨_, rfl, hb, fun j u hu => ?_⟩⟩
  have hj : j < ys.length := by
    rcases Nat.lt_or_ge j ys.length with h' | h'
    · exact h'
    · rw [List.getElem?_eq_none (by simpa using h')] at hu; cases hu
  have e : (⟨b, 0, none⟩ : Addr).add j = ⟨b, j, none⟩ := by unfold Addr.add; split <;> simp_all
  rw [e, h j hj, ← hu, List.getElem?_map, List.getElem?_eq_getElem hj, List.getD_eq_getElem?_getD, List.getElem?_eq_getElem hj]; rfl
theorem map_get (zs : List Int) (j : Nat) (hj : j < zs.length) : (zs.map (Value.int .i64))[j]? = some (.int .i64 (zs.getD j 0)) := by
  rw [List.getElem?_map, List.getElem?_eq_getElem hj, List.getD_eq_getElem?_getD, List.getElem?_eq_getElem hj]; rfl

theorem below_setCells (B : Nat) (b : Nat) (hB : B ≤ b) : ∀ (vs : List Value) (o : Nat) (a w : World), Below B a w → Below B a (w.setCells b o vs)
  | [], _, _, _, h => h
  | v :: r, o, a, w, h => by
    rw [World.setCells]
    exact below_setCells B b hB r (o + 1) a _ (h.setCell (p := ⟨b, o, none⟩) hB v)

theorem grow_cell (w : World) (t : TypeId) (l : List Value) (Z : Array Value) (j : Nat) (hj : j < l.length) : (w.drew.alloc (.cells (l.toArray ++ Z) t)).cell? ⟨w.heap.size, j, none⟩ = l[j]? := by
  have h : (w.drew.alloc (.cells (l.toArray ++ Z) t)).cell? ⟨w.heap.size, j, none⟩ = (l.toArray ++ Z)[j]? := (Blk.new w.drew t (l.toArray ++ Z)).cell j
  rw [h, Array.getElem?_append_left (by simpa using hj), List.getElem?_toArray]
theorem snoc_cell (zs : List Int) (x : Int) (j : Nat) (hj : j < zs.length + 1) : (zs.map (Value.int .i64) ++ [.int .i64 x])[j]? = some (.int .i64 ((insL zs zs.length x).getD j 0)) := by
  by_cases h : j < zs.length
  · rw [List.getElem?_append_left (by simpa using h), map_get zs j h, insL_lt zs _ x (Nat.le_refl _) j h]
  · obtain rfl : j = zs.length := by omega
    rw [List.getElem?_append_right (by simp), insL_eq zs _ x (Nat.le_refl _)]
    simp

/-- slices.Insert of one integer into a row of the call's own. -/
theorem insert_own (zs : List Int) (v : Value) (k : Nat) (x : Int) (w : World) (base g : Nat) (hown : w.ownsRow base 3 1 v zs.length (zs.map (Value.int .i64))) (hk : k ≤ zs.length) (hl : zs.length ≤ 100) (hbase : base ≤ w.heap.size)
    (hg : Blk w g 3 #[.int .i64 x]) (hne : v.ownBlock ≠ some g) :
    Calls Try.prog 24 #[v, .int .i64 (k : Int), .slice (some ⟨g, 0, none⟩) 1 1] w fun e w' => (∃ A c, e = .returned (.slice A (zs.length + 1) c) ∧ Sl w' A (insL zs k x)) ∧ Below base w w' := by
  have hgl := hg.lt
  have hvs : ∀ (j : Nat) (v : Value), [Value.int .i64 x][j]? = some v → w.cell? ⟨g, 0 + j, none⟩ = some v := by
    intro j v hv
    cases j with
    | zero => rw [hg.cell (0 + 0)]; simpa using hv
    | succ j => simp at hv
  have h1v : ∀ v ∈ [Value.int .i64 x], v.oneCell' = true := by intro v hv; simp at hv; subst hv; rfl
  have h1c : ∀ v ∈ zs.map (Value.int .i64), v.oneCell' = true := by intro v hv; obtain ⟨y, _, rfl⟩ := List.mem_map.1 hv; rfl
  have hIl := insL_len zs k x hk
  rcases hown.2 with ⟨rfl, hn⟩ | ⟨b, cap, cur, rfl, hbb, hcur, hnc, hcm, hcs, htk⟩
  · have hz : zs = [] := List.eq_nil_of_length_eq_zero hn
    subst hz
    obtain rfl : k = 0 := by simpa using hk
    refine (Any2.slices_Insert_int_end_grow ins_lays none 0 0 g 0 1 1 [] [.int .i64 x] w (by omega) (by omega) (by omega) (by omega) rfl rfl (fun _ => rfl) (fun a h => by cases h) hvs h1v).mono ?_
    rintro e w' ⟨rfl, rfl⟩
    refine ⟨⟨_, _, rfl, sl_of_cells (by rw [hIl]; simp) (by simp) fun j hj => ?_⟩, ((Below.refl _ w).drew.alloc (by simp) _).mono hbase⟩
    exact (grow_cell w 3 [.int .i64 x] _ j (by rw [hIl] at hj; simpa using hj)).trans (by rw [hIl] at hj; simpa using snoc_cell [] x j hj)
  · have hcs' : cur.size = cap := by omega
    have hbw : b < w.heap.size := lt_of_block hcur
    have hbg : b ≠ g := fun e => hne (by rw [e]; rfl)
    have hcc : ∀ (j : Nat) (v : Value), (zs.map (Value.int .i64))[j]? = some v → w.cell? ⟨b, 0 + j, none⟩ = some v := by
      intro j v hv
      rw [cell_of_row w b (0 + j) cur 3 (0, 0) hcur, Nat.zero_add, ← hv, ← htk, Nat.mul_one, List.getElem?_take_of_lt (by
        rcases Nat.lt_or_ge j zs.length with h | h
        · exact h
        · rw [List.getElem?_eq_none (by simpa using h)] at hv; cases hv), Array.getElem?_toList]
    have hall : ∀ j, j < cap → (w.cell? ⟨b, 0 + j, none⟩).isSome = true := by
      intro j hj
      rw [cell_of_row w b (0 + j) cur 3 (0, 0) hcur, Nat.zero_add, Array.getElem?_eq_getElem (by omega)]; rfl
    have hfz : ∀ j, w.frozen? ⟨b, j, none⟩ = false := fun j => Blk.frozen (t := 3) (cs := cur) hcur j
    have hml : (zs.map (Value.int .i64)).length = zs.length := by simp
    by_cases hke : k = zs.length
    · subst hke
      by_cases hr : zs.length + 1 ≤ cap
      · refine (Any2.slices_Insert_int_end_room ins_lays b 0 zs.length cap g 0 1 1 [.int .i64 x] w (by omega) hr (by unfold maxLen at hcm; omega) rfl (fun j hj => by have := hall (zs.length + j) (by omega); rwa [← Nat.add_assoc] at this) (fun j _ => hfz _) hvs h1v).mono ?_
        rintro e w' ⟨rfl, rfl⟩
        refine ⟨⟨_, _, rfl, sl_of_cells (by rw [hIl]; omega) (by simpa [World.setCells, World.setCell] using hbw) fun j hj => ?_⟩, below_setCells base b hbb _ _ _ _ (Below.refl _ _)⟩
        rw [hIl] at hj
        by_cases h : j < zs.length
        · rw [World.cell?_setCells_out b _ _ w ⟨b, j, none⟩ (fun _ _ => by show j < 0 + zs.length ∨ _; omega), insL_lt zs _ x (Nat.le_refl _) j h]
          have := hcc j _ (map_get zs j h)
          rwa [Nat.zero_add] at this
        · obtain rfl : j = zs.length := by omega
          have := World.cell?_setCells_in b [.int .i64 x] (0 + zs.length) w (fun j hj => by have := hall (zs.length + j) (by simp at hj; omega); rwa [← Nat.add_assoc] at this) 0 (by simp)
          rw [Nat.add_zero, Nat.zero_add] at this
          rw [Nat.zero_add, this, insL_eq zs _ x (Nat.le_refl _)]; rfl
      · refine (Any2.slices_Insert_int_end_grow ins_lays (some ⟨b, 0, none⟩) zs.length cap g 0 1 1 (zs.map (Value.int .i64)) [.int .i64 x] w (by omega) hnc (by omega) (by omega) hml rfl (fun h => by cases h) (fun a h j v hv => by
          injection h with h; subst h
          have e : (⟨b, 0, none⟩ : Addr).add j = ⟨b, 0 + j, none⟩ := by unfold Addr.add; split <;> simp_all
          rw [e]; exact hcc j v hv) hvs h1v).mono ?_
        rintro e w' ⟨rfl, rfl⟩
        refine ⟨⟨_, _, rfl, sl_of_cells (by rw [hIl]; omega) (by simp) fun j hj => ?_⟩, ((Below.refl _ w).drew.alloc (by simp) _).mono hbase⟩
        rw [hIl] at hj
        exact (grow_cell w 3 (zs.map (Value.int .i64) ++ [.int .i64 x]) _ j (by simpa using hj)).trans (snoc_cell zs x j hj)
    · have hkl : k < zs.length := by omega
      by_cases hr : zs.length + 1 ≤ cap
      · have hdl : ((zs.map (Value.int .i64)).drop k).length = zs.length - k := by simp
        have hin1 : ∀ j, j < ((zs.map (Value.int .i64)).drop k).length → (w.drew.cell? ⟨b, 0 + (k + 1) + j, none⟩).isSome = true := fun j hj => by
          have := hall (k + 1 + j) (by omega)
          rw [← Nat.add_assoc 0 (k + 1) j] at this
          exact this
        refine (Any2.slices_Insert_int_shift ins_lays b 0 zs.length cap k g 0 1 1 (zs.map (Value.int .i64)) [.int .i64 x] w hkl (by omega) hr (by unfold maxLen at hcm; omega) (fun e => hbg e.symm) hml rfl hcc (fun j hj => hall j (by omega)) (fun j _ => hfz _) hvs h1c h1v 3 3 1 cap
          (by have := hg; unfold Blk at this; simp [World.shape?, this]) (by simp [World.shape?, hcur, hcs']) (by omega) (hg.frozen 0) (hg.frozen 1)).mono ?_
        rintro e w' ⟨rfl, rfl⟩
        refine ⟨⟨_, _, rfl, sl_of_cells (by rw [hIl]; omega) (Nat.lt_of_lt_of_le hbw (below_setCells base b hbb _ _ w _ (below_setCells base b hbb _ _ w _ (Below.refl _ w).drew)).size) fun j hj => ?_⟩, below_setCells base b hbb _ _ _ _ (below_setCells base b hbb _ _ _ _ (Below.refl _ w).drew)⟩
        rw [hIl] at hj
        have hin2 : ∀ i, i < [Value.int .i64 x].length → (((w.drew).setCells b (0 + (k + 1)) ((zs.map (Value.int .i64)).drop k)).cell? ⟨b, 0 + k + i, none⟩).isSome = true := fun i hi => by
          have hi0 : i = 0 := by simpa using hi
          subst hi0
          exact isSome_setCells b _ _ _ hin1 (0 + k + 0) (by have := hall k (by omega); simpa using this)
        by_cases h : j < k
        · rw [World.cell?_setCells_out b _ _ _ ⟨b, j, none⟩ (fun _ _ => by show j < 0 + k ∨ _; omega), World.cell?_setCells_out b _ _ _ ⟨b, j, none⟩ (fun _ _ => by show j < 0 + (k + 1) ∨ _; omega), insL_lt zs k x hk j h]
          have := hcc j _ (map_get zs j (by omega))
          rwa [Nat.zero_add] at this
        · by_cases h2 : j = k
          · subst h2
            have := World.cell?_setCells_in b [.int .i64 x] (0 + j) _ hin2 0 (by simp)
            simp only [Nat.add_zero, Nat.zero_add] at this ⊢
            rw [this, insL_eq zs j x hk]; rfl
          · obtain ⟨i, rfl⟩ : ∃ i, j = i + 1 := ⟨j - 1, by omega⟩
            rw [World.cell?_setCells_out b _ _ _ ⟨b, i + 1, none⟩ (fun _ _ => by show i + 1 < 0 + k ∨ 0 + k + 1 ≤ i + 1; omega)]
            have := World.cell?_setCells_in b ((zs.map (Value.int .i64)).drop k) (0 + (k + 1)) w.drew hin1 (i - k) (by omega)
            rw [show 0 + (k + 1) + (i - k) = i + 1 from by omega] at this
            rw [this, insL_gt zs k x hk i (by omega)]
            have hm := map_get zs i (by omega)
            rw [List.getElem?_eq_getElem (by simp; omega)] at hm
            rw [List.getElem_drop]
            simp only [show k + (i - k) = i from by omega]
            exact hm
      · refine (Any2.slices_Insert_int_grow ins_lays b 0 zs.length cap k g 0 1 1 (zs.map (Value.int .i64)) [.int .i64 x] w hkl (by omega) hnc (by omega) (by omega) hml rfl hcc hvs h1c h1v).mono ?_
        rintro e w' ⟨rfl, rfl⟩
        generalize grownCap w (zs.length + 1) cap (insRen.t 3) = G
        have hNN := Blk.new w (insRen.t 3) (((zs.map (Value.int .i64)).take k).toArray ++ Builtin.zeroCells (Value.int .i64 0).cells (zs.length + 1 - k) ++ Builtin.zeroCells (Value.int .i64 0).cells (G - (zs.length + 1)))
        have hsz : (((zs.map (Value.int .i64)).take k).toArray ++ Builtin.zeroCells (Value.int .i64 0).cells (zs.length + 1 - k)).size = zs.length + 1 := by
          rw [Array.size_append, size_zeroCells]
          simp [Value.cells]
          omega
        have hW0 : Below base w (w.alloc (.cells (((zs.map (Value.int .i64)).take k).toArray ++ Builtin.zeroCells (Value.int .i64 0).cells (zs.length + 1 - k) ++ Builtin.zeroCells (Value.int .i64 0).cells (G - (zs.length + 1))) (insRen.t 3))) := ((Below.refl _ w).alloc (Nat.le_refl _) _).mono hbase
        have hst : w.heap.size < (w.alloc (.cells (((zs.map (Value.int .i64)).take k).toArray ++ Builtin.zeroCells (Value.int .i64 0).cells (zs.length + 1 - k) ++ Builtin.zeroCells (Value.int .i64 0).cells (G - (zs.length + 1))) (insRen.t 3))).heap.size := by simp
        have hsome : ∀ j, j < zs.length + 1 → ((w.alloc (.cells (((zs.map (Value.int .i64)).take k).toArray ++ Builtin.zeroCells (Value.int .i64 0).cells (zs.length + 1 - k) ++ Builtin.zeroCells (Value.int .i64 0).cells (G - (zs.length + 1))) (insRen.t 3))).cell? ⟨w.heap.size, j, none⟩).isSome = true := by
          intro j hj
          rw [hNN.cell j, Array.getElem?_append_left (by omega), Array.getElem?_eq_getElem (by omega)]; rfl
        have hfirst : ∀ j, j < k → (w.alloc (.cells (((zs.map (Value.int .i64)).take k).toArray ++ Builtin.zeroCells (Value.int .i64 0).cells (zs.length + 1 - k) ++ Builtin.zeroCells (Value.int .i64 0).cells (G - (zs.length + 1))) (insRen.t 3))).cell? ⟨w.heap.size, j, none⟩ = some (.int .i64 (zs.getD j 0)) := by
          intro j hj
          rw [hNN.cell j, Array.getElem?_append_left (by omega), Array.getElem?_append_left (by simp; omega), List.getElem?_toArray, List.getElem?_take_of_lt hj, map_get zs j (by omega)]
        generalize w.alloc (.cells (((zs.map (Value.int .i64)).take k).toArray ++ Builtin.zeroCells (Value.int .i64 0).cells (zs.length + 1 - k) ++ Builtin.zeroCells (Value.int .i64 0).cells (G - (zs.length + 1))) (insRen.t 3)) = W0 at *
        have hin1 : ∀ j, j < [Value.int .i64 x].length → (W0.drew.cell? ⟨w.heap.size, k + j, none⟩).isSome = true := fun j hj => hsome (k + j) (by simp at hj; omega)
        have hdl : ((zs.map (Value.int .i64)).drop k).length = zs.length - k := by simp
        have hin2 : ∀ j, j < ((zs.map (Value.int .i64)).drop k).length → ((W0.drew.setCells w.heap.size k [.int .i64 x]).drew.cell? ⟨w.heap.size, k + 1 + j, none⟩).isSome = true := fun j hj =>
          isSome_setCells w.heap.size _ _ _ hin1 (k + 1 + j) (hsome (k + 1 + j) (by omega))
        have hBel := below_setCells base w.heap.size hbase ((zs.map (Value.int .i64)).drop k) (k + 1) w _ (below_setCells base w.heap.size hbase [.int .i64 x] k w _ hW0.drew).drew
        refine ⟨⟨_, _, rfl, sl_of_cells (by rw [hIl]; omega) (Nat.lt_of_lt_of_le hst ?_) fun j hj => ?_⟩, hBel⟩
        · exact (below_setCells 0 w.heap.size (Nat.zero_le _) ((zs.map (Value.int .i64)).drop k) (k + 1) W0 _ (below_setCells 0 w.heap.size (Nat.zero_le _) [.int .i64 x] k W0 _ (Below.refl _ W0).drew).drew).size
        rw [hIl] at hj
        by_cases h : j < k
        · rw [World.cell?_setCells_out w.heap.size _ _ _ ⟨w.heap.size, j, none⟩ (fun _ _ => by show j < k + 1 ∨ _; omega)]
          show (W0.drew.setCells w.heap.size k [.int .i64 x]).cell? _ = _
          rw [World.cell?_setCells_out w.heap.size _ _ _ ⟨w.heap.size, j, none⟩ (fun _ _ => by show j < k ∨ _; omega), insL_lt zs k x hk j h]
          exact hfirst j h
        · by_cases h2 : j = k
          · subst h2
            rw [World.cell?_setCells_out w.heap.size _ _ _ ⟨w.heap.size, j, none⟩ (fun _ _ => by show j < j + 1 ∨ _; omega)]
            show (W0.drew.setCells w.heap.size j [.int .i64 x]).cell? _ = _
            have := World.cell?_setCells_in w.heap.size [.int .i64 x] j W0.drew hin1 0 (by simp)
            rw [Nat.add_zero] at this
            rw [this, insL_eq zs j x hk]; rfl
          · obtain ⟨i, rfl⟩ : ∃ i, j = i + 1 := ⟨j - 1, by omega⟩
            have := World.cell?_setCells_in w.heap.size ((zs.map (Value.int .i64)).drop k) (k + 1) _ hin2 (i - k) (by omega)
            rw [show k + 1 + (i - k) = i + 1 from by omega] at this
            rw [this, insL_gt zs k x hk i (by omega)]
            have hm := map_get zs i (by omega)
            rw [List.getElem?_eq_getElem (by simp; omega)] at hm
            rw [List.getElem_drop]
            simp only [show k + (i - k) = i from by omega]
            exact hm
end Go.Proofs.Ytkkmipegolaleaa
