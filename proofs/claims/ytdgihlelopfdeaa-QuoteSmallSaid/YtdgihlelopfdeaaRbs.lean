/-
  quote.ReadBytes: what it answers; its walk.
-/
import Derived.Test.YtdgihlelopfdeaaEach
namespace Go.Proofs.Ytdgihlelopfdeaa
open Go.RowKit Go.Shelf Q
attribute [local go_sem] Oper.semAt_some

/-- What ReadBytes answers: the bytes, the index behind them, the error. -/
def rbs (m : Int → Bool) : Nat → Nat → List Int → List Int → List Int × Nat × Int
  | 0, p, acc, _ => (acc, p, 0)
  | _ + 1, p, acc, [] => (acc, p, 0)
  | f + 1, p, acc, x :: t =>
    if (rb m (x :: t)).2.2 = 0 then rbs m f (p + (rb m (x :: t)).2.1.toNat) (acc ++ [(rb m (x :: t)).1]) ((x :: t).drop (rb m (x :: t)).2.1.toNat)
    else ([], p, 20)

/-- No index twice. -/
def chain : Nat → List (Nat × Int) → Prop
  | _, [] => True
  | p, x :: t => x.1 ≠ p ∧ chain x.1 t
def lastOr : Nat → List (Nat × Int) → Nat
  | p, [] => p
  | _, x :: t => lastOr x.1 t
theorem chain_snoc (x : Nat × Int) : ∀ (t : List (Nat × Int)) (p : Nat), chain p (t ++ [x]) ↔ chain p t ∧ x.1 ≠ lastOr p t
  | [], p => by simp [chain, lastOr]
  | y :: t, p => by simp [chain, lastOr, chain_snoc x t, and_assoc]
theorem lastOr_snoc (x : Nat × Int) : ∀ (t : List (Nat × Int)) (p : Nat), lastOr p (t ++ [x]) = x.1
  | [], p => rfl
  | y :: t, p => by simp [lastOr, lastOr_snoc x t]

theorem rbs_of_chain (m : Int → Bool) : ∀ (f p : Nat) (acc xs : List Int), By xs → chain p (tr m f p xs) → rbs m f p acc xs = (acc ++ (tr m f p xs).map (·.2), lastOr p (tr m f p xs), 0)
  | 0, p, acc, xs, _, _ => by simp [rbs, tr, lastOr]
  | f + 1, p, acc, [], _, _ => by simp [rbs, tr, lastOr]
  | f + 1, p, acc, x :: t, hb, h => by
    rw [tr] at h ⊢
    rw [rbs]
    by_cases e : (rb m (x :: t)).2.2 = 0
    · rw [if_pos e] at h ⊢
      rw [if_pos e, rbs_of_chain m f _ _ _ (by_drop hb _) h.2]
      simp [lastOr]
    · rw [if_neg e] at h
      exact absurd rfl h.1

theorem rbs_of_stop (m : Int → Bool) : ∀ (f p : Nat) (acc xs : List Int) (pre : List (Nat × Int)) (x : Nat × Int), By xs → (pre ++ [x]) <+: tr m f p xs → chain p pre → x.1 = lastOr p pre → rbs m f p acc xs = ([], lastOr p pre, 20)
  | 0, p, acc, xs, pre, x, _, h, _, _ => by simp [tr] at h
  | f + 1, p, acc, [], pre, x, _, h, _, _ => by simp [tr] at h
  | f + 1, p, acc, y :: t, pre, x, hb, h, hc, hx => by
    rw [tr] at h
    rw [rbs]
    by_cases e : (rb m (y :: t)).2.2 = 0
    · rw [if_pos e] at h ⊢
      have h1 : 1 ≤ (rb m (y :: t)).2.1 := by
        rcases (rb_facts m (y :: t) hb).2 with ⟨_, h1, _⟩ | h'
        · exact h1
        · rw [h'] at e; cases e
      cases pre with
      | nil =>
        rw [List.nil_append] at h
        have := (List.cons_prefix_cons.1 h).1
        rw [this] at hx
        simp [lastOr] at hx
        omega
      | cons z pre =>
        have h' := List.cons_prefix_cons.1 h
        rw [h'.1] at hc hx ⊢
        exact rbs_of_stop m f _ _ _ pre x (by_drop hb _) h'.2 hc.2 hx
    · rw [if_neg e] at h ⊢
      cases pre with
      | nil => simp [lastOr]
      | cons z pre =>
        have h' := (List.cons_prefix_cons.1 h).2
        simp at h'

/-- A row of bytes of the call's own, made a string. -/
theorem conv_row {w : World} {base : Nat} {v : Value} {n : Nat} (xs : List Int) (h : w.ownsRow base 5 1 v n (xs.map (Value.int .u8))) : (convert 33 9 v).run Try.prog w = .ok (.string (strOfNums xs)) w := by
  have hl : xs.length = n := by have := h.1; simpa using this
  rcases h.2 with ⟨rfl, rfl⟩ | ⟨g, cap, cur, rfl, _, hg, hnc, _, hsz, htk⟩
  · obtain rfl : xs = [] := List.eq_nil_of_length_eq_zero hl
    exact run_convert_bytes_nil w 33 5 Try.underlying33 Try.underlying5 0 0 9 Try.underlying9
  · refine run_convert_bytes_arg w 33 5 Try.underlying33 Try.underlying5 g 0 n cap xs hl (fun i hi => ?_) 9 Try.underlying9
    have hx : (xs.map (Value.int .u8))[i]? = some (.int .u8 (xs.getD i 0)) := by
      rw [List.getElem?_map, List.getD_eq_getElem?_getD, List.getElem?_eq_getElem (by omega)]; rfl
    have hc : w.cell? ⟨g, 0 + i, none⟩ = cur[0 + i]? := cell_of_row w g (0 + i) cur 5 (0, 0) hg
    rw [hc, Nat.zero_add, ← hx, ← htk, List.getElem?_take_of_lt (by omega), Array.getElem?_toList]

theorem info5 : (Try.prog.info? 5).map (fun i => (i.zero, i.size, i.bytes)) = some (some (.int .u8 0), 1, 1) := by kernel_rfl

theorem boxed_own {β : Type} (B : Nat) (t : TypeId) (f : β → Value) : Own (fun s W => Boxed W B t (f s)) := by
  rintro s X Y row hv hg hrow
  refine hv.kept hg (fun e => ?_)
  obtain ⟨o, ho, hc⟩ := hrow B e.symm
  rw [show X.heap[B]? = _ from hv] at ho
  cases ho; cases hc

def Mk (W : World) (b : Nat) (x0 x1 x2 x3 : Int) : Prop := Blk W b 24 #[.int .u64 x0, .int .u64 x1, .int .u64 x2, .int .u64 x3]
theorem mk_own {β : Type} (b : Nat) (x0 x1 x2 x3 : Int) : Own (fun (_ : β) W => Mk W b x0 x1 x2 x3) := by
  rintro s X Y row hv hg hrow
  refine Blk.grown hv hg (fun e => ?_)
  obtain ⟨o, ho, hc⟩ := hrow b e.symm
  rw [show X.heap[b]? = _ from hv] at ho
  cases ho; cases hc
@[reducible] def w6 (w : World) (x0 x1 x2 x3 : Int) (xs : List Int) : World :=
  (((((w.alloc (.cells #[.int .u64 x0, .int .u64 x1, .int .u64 x2, .int .u64 x3] 24)).alloc (.cells #[.slice none 0 0] 33)).alloc (.cells #[.int .i64 0] 3)).alloc (.cells #[.bool false] 4)).alloc (.cells #[.string (strOfNums xs)] 9)).alloc (.cells #[.int .u64 x0, .int .u64 x1, .int .u64 x2, .int .u64 x3] 24)

theorem w6_facts (w : World) (x0 x1 x2 x3 : Int) (xs : List Int) :
    (w6 w x0 x1 x2 x3 xs).heap.size = w.heap.size + 6 ∧ Below w.heap.size w (w6 w x0 x1 x2 x3 xs) ∧
    Boxed (w6 w x0 x1 x2 x3 xs) (w.heap.size + 1) 33 (.slice none 0 0) ∧ Boxed (w6 w x0 x1 x2 x3 xs) (w.heap.size + 1 + 1) 3 (.int .i64 0) ∧ Boxed (w6 w x0 x1 x2 x3 xs) (w.heap.size + 1 + 1 + 1) 4 (.bool false) ∧
    Boxed (w6 w x0 x1 x2 x3 xs) (w.heap.size + 1 + 1 + 1 + 1) 9 (.string (strOfNums xs)) ∧ Mk (w6 w x0 x1 x2 x3 xs) (w.heap.size + 1 + 1 + 1 + 1 + 1) x0 x1 x2 x3 ∧
    (w6 w x0 x1 x2 x3 xs).cell? ⟨w.heap.size + 1 + 1 + 1 + 1, 0, none⟩ = some (.string (strOfNums xs)) ∧
    (w6 w x0 x1 x2 x3 xs).cell? ⟨w.heap.size + 1 + 1 + 1 + 1 + 1, 0, none⟩ = some (.int .u64 x0) ∧ (w6 w x0 x1 x2 x3 xs).cell? ⟨w.heap.size + 1 + 1 + 1 + 1 + 1, 1, none⟩ = some (.int .u64 x1) ∧
    (w6 w x0 x1 x2 x3 xs).cell? ⟨w.heap.size + 1 + 1 + 1 + 1 + 1, 2, none⟩ = some (.int .u64 x2) ∧ (w6 w x0 x1 x2 x3 xs).cell? ⟨w.heap.size + 1 + 1 + 1 + 1 + 1, 3, none⟩ = some (.int .u64 x3) := by
  refine ⟨by simp, by go_grown, ?_, ?_, ?_, ?_, ?_, by simp [go_sem], by simp [go_sem], by simp [go_sem], by simp [go_sem], by simp [go_sem]⟩
  · have := Boxed.new (w.alloc (.cells #[.int .u64 x0, .int .u64 x1, .int .u64 x2, .int .u64 x3] 24)) 33 (.slice none 0 0)
    rw [World.size_alloc] at this
    exact (((this.alloc _).alloc _).alloc _).alloc _
  · have := Boxed.new ((w.alloc (.cells #[.int .u64 x0, .int .u64 x1, .int .u64 x2, .int .u64 x3] 24)).alloc (.cells #[.slice none 0 0] 33)) 3 (.int .i64 0)
    rw [World.size_alloc, World.size_alloc] at this
    exact ((this.alloc _).alloc _).alloc _
  · have := Boxed.new (((w.alloc (.cells #[.int .u64 x0, .int .u64 x1, .int .u64 x2, .int .u64 x3] 24)).alloc (.cells #[.slice none 0 0] 33)).alloc (.cells #[.int .i64 0] 3)) 4 (.bool false)
    rw [World.size_alloc, World.size_alloc, World.size_alloc] at this
    exact (this.alloc _).alloc _
  · have := Boxed.new ((((w.alloc (.cells #[.int .u64 x0, .int .u64 x1, .int .u64 x2, .int .u64 x3] 24)).alloc (.cells #[.slice none 0 0] 33)).alloc (.cells #[.int .i64 0] 3)).alloc (.cells #[.bool false] 4)) 9 (.string (strOfNums xs))
    rw [World.size_alloc, World.size_alloc, World.size_alloc, World.size_alloc] at this
    exact this.alloc _
  · have := Blk.new (((((w.alloc (.cells #[.int .u64 x0, .int .u64 x1, .int .u64 x2, .int .u64 x3] 24)).alloc (.cells #[.slice none 0 0] 33)).alloc (.cells #[.int .i64 0] 3)).alloc (.cells #[.bool false] 4)).alloc (.cells #[.string (strOfNums xs)] 9)) 24 #[.int .u64 x0, .int .u64 x1, .int .u64 x2, .int .u64 x3]
    rw [World.size_alloc, World.size_alloc, World.size_alloc, World.size_alloc, World.size_alloc] at this
    exact this

/-- What a round leaves. -/
def RI (x0 x1 x2 x3 : Int) (xs : List Int) (w : World) (pre : List (Nat × Int)) (W : World) : Prop :=
  ((∃ v, Boxed W (w.heap.size + 1) 33 v ∧ W.ownsRow w.heap.size 5 1 v pre.length (pre.map fun x => .int .u8 x.2) ∧ True) ∧ Boxed W (w.heap.size + 1 + 1) 3 (.int .i64 (lastOr 0 pre : Nat)) ∧ Boxed W (w.heap.size + 1 + 1 + 1) 4 (.bool false) ∧ Boxed W (w.heap.size + 1 + 1 + 1 + 1) 9 (.string (strOfNums xs)) ∧ Mk W (w.heap.size + 1 + 1 + 1 + 1 + 1) x0 x1 x2 x3) ∧ chain 0 pre ∧ Below w.heap.size w W
def RX (w : World) (c : Code) (pre : List (Nat × Int)) (W : World) : Prop :=
  c = .exit 0 ∧ (∃ pre' x, pre = pre' ++ [x] ∧ chain 0 pre' ∧ x.1 = lastOr 0 pre' ∧ Boxed W (w.heap.size + 1 + 1) 3 (.int .i64 (lastOr 0 pre' : Nat))) ∧ Boxed W (w.heap.size + 1 + 1 + 1) 4 (.bool true) ∧ Below w.heap.size w W

theorem ri_own (x0 x1 x2 x3 : Int) (xs : List Int) (w : World) (B : Nat) (hB : w.heap.size ≤ B) : OwnFrom B (RI x0 x1 x2 x3 xs w) := by
  refine OwnFrom.and (OwnFrom.and (Own.from (holdsRow_own w.heap.size (w.heap.size + 1) 33 5 1 (fun pre : List (Nat × Int) => pre.length) (fun pre => pre.map fun x => .int .u8 x.2) (fun _ _ => True)) _) (OwnFrom.and (Own.from (boxed_own _ 3 _) _) (OwnFrom.and (Own.from (boxed_own _ 4 _) _) (OwnFrom.and (Own.from (boxed_own _ 9 (fun _ => .string (strOfNums xs))) _) (Own.from (mk_own _ x0 x1 x2 x3) _))))) (OwnFrom.and (fun _ _ _ _ h _ _ => h) (ownFrom_below (Nat.le_refl _) hB))
theorem rx_own (w : World) (B : Nat) (hB : w.heap.size ≤ B) (c : Code) : OwnFrom B (RX w c) := by
  refine OwnFrom.and (fun _ _ _ _ h _ _ => h) (OwnFrom.and ?_ (OwnFrom.and (Own.from (boxed_own (β := List (Nat × Int)) _ 4 (fun _ => .bool true)) _) (ownFrom_below (Nat.le_refl _) hB)))
  rintro s W W' row ⟨pre', x, h1, h2, h3, h4⟩ hg hr
  exact ⟨pre', x, h1, h2, h3, (Own.from (boxed_own (β := List (Nat × Int)) _ 3 (fun _ => .int .i64 (lastOr 0 pre' : Nat))) B) s W W' row h4 hg hr⟩

set_option maxRecDepth 100000 in
set_option maxHeartbeats 2000000 in
theorem rbs_in (n : Nat) (hn : 3 ≤ n) (x0 x1 x2 x3 : Int) (xs : List Int) (w : World) (hw : Words x0 x1 x2 x3) (hb : By xs) (hl : xs.length ≤ 1000000000) :
    CallsIn Fence.wide n Try.prog 19 #[.string (strOfNums xs), .agg #[.int .u64 x0, .int .u64 x1, .int .u64 x2, .int .u64 x3]] w fun e w' =>
      e = .returned (.tuple #[.string (strOfNums (rbs (mkd x0 x1 x2 x3) xs.length 0 [] xs).1), .int .i64 ((rbs (mkd x0 x1 x2 x3) xs.length 0 [] xs).2.1 : Int), .int .i64 (rbs (mkd x0 x1 x2 x3) xs.length 0 [] xs).2.2]) ∧ Below w.heap.size w w' := by
  have h1 : 1 ≤ n := by omega
  have h36 : Fence.wide.fn 36 := trivial
  obtain ⟨i0, hi, hz0, hz1, hz2⟩ := info_parts info5
  refine callsIn_of_wp_marks Try.func19 rfl trivial ?_ rfl
  simp only [Try.ntmps19, List.size_toArray, List.length_cons, List.length_nil, Nat.reduceAdd, Nat.reduceSub, Array.replicate_succ, Array.replicate_zero, List.push_toArray, List.append_toArray, List.nil_append, List.cons_append]
  refine wpIn_wide.2 ?_
  go_wp2
  go_step3
  go_wp2
  go_step3
  go_wp2_with (go_at_call 36; refine (each_any x0 x1 x2 x3 xs _).mono ?_; rintro e w' ⟨rfl, rfl⟩)
  obtain ⟨hz, hB0, b1, b2, b3, b4, b5, cs, c0, c1, c2, c3⟩ := w6_facts w x0 x1 x2 x3 xs
  refine (wpIn_wide (n := n)).1 ?_
  refine wpIn_rangeFunc_ownG rfl h1 (gf := 50) (lb := #[.pointer (some ⟨w.heap.size + 1 + 1 + 1 + 1, 0, none⟩), .pointer (some ⟨w.heap.size + 1 + 1 + 1 + 1 + 1, 0, none⟩)]) rfl trivial (enters_of Try.func50 (by kernel_rfl) rfl)
    (each_stops (n - 1) (by omega) (w.heap.size + 1 + 1 + 1 + 1) (w.heap.size + 1 + 1 + 1 + 1 + 1) x0 x1 x2 x3 xs hw hb hl (w6 w x0 x1 x2 x3 xs) (by simp only [World.size_alloc]; omega) (by simp only [World.size_alloc]; omega) cs c0 c1 c2 c3) Kb.trans (Kb.put (by simp only [World.size_alloc]; omega) (by simp only [World.size_alloc]; omega)) (Below.refl _ _) (fun _ => rfl)
    (RI x0 x1 x2 x3 xs w) (RX w) (ri_own x0 x1 x2 x3 xs w _ (by simp only [World.size_alloc]; omega)) (rx_own w _ (by simp only [World.size_alloc]; omega)) ⟨⟨⟨_, b1, World.ownsRow_nil _ _ _ _, trivial⟩, b2, b3, b4, b5⟩, trivial, hB0⟩
    (fun x => { tmps := #[.string (strOfNums xs), .agg #[.int .u64 x0, .int .u64 x1, .int .u64 x2, .int .u64 x3], undef, .pointer (some ⟨w.heap.size, 0, none⟩), .string { data := #[] }, .int .i64 0, .int .i64 0, .pointer (some ⟨w.heap.size + 1, 0, none⟩), .pointer (some ⟨w.heap.size + 1 + 1, 0, none⟩), .pointer (some ⟨w.heap.size + 1 + 1 + 1, 0, none⟩), .int .i64 (x.1 : Int), .int .u8 x.2, .string (strOfNums xs), .agg #[.int .u64 x0, .int .u64 x1, .int .u64 x2, .int .u64 x3],
      .func (.func 50) #[] #[.pointer (some ⟨w.heap.size + 1 + 1 + 1 + 1, 0, none⟩), .pointer (some ⟨w.heap.size + 1 + 1 + 1 + 1 + 1, 0, none⟩)], .int .i64 (x.1 : Int), .int .u8 x.2, undef, undef, undef, undef, undef, undef, undef, undef, undef, undef, undef, undef, undef], defers := [] }) ?assign ?body ?done ?stop
  case assign =>
    intro l x W K hK
    gi_wp2
    exact hK
  case body =>
    rintro l pre x W ⟨⟨⟨v, hv, hrow, -⟩, hat, hwr, hbs, hbm⟩, hch, hB⟩ hlt
    have hc := hv.cell
    have hca := hat.cell
    have hcw := hwr.cell
    have hfw := hwr.frozen
    have hz6 := hB.size
    have hzz := hv.lt
    by_cases e : x.1 = lastOr 0 pre
    · have he : (x.1 == lastOr 0 pre) = true := beq_iff_eq.2 e
      have he' : ((x.1 : Int) == ((lastOr 0 pre : Nat) : Int)) = true := beq_iff_eq.2 (by omega)
      have E := Lib.hid e
      clear e
      gi_wp2
      refine ⟨(KeepsOthers.setCell _ _ _).from _, rfl, ⟨pre, x, rfl, hch, E.out, Blk.far hat (by simp) _⟩, hwr.set _, ?_⟩
      exact hB.setCell (by show w.heap.size ≤ w.heap.size + 1 + 1 + 1; omega) _
    · have he : (x.1 == lastOr 0 pre) = false := beq_eq_false_iff_ne.2 e
      have he' : ((x.1 : Int) == ((lastOr 0 pre : Nat) : Int)) = false := beq_eq_false_iff_ne.2 (by omega)
      have E := Lib.hid e
      clear e
      have hml : pre.length + 1 ≤ maxLen := by unfold maxLen; omega
      gi_wp2_with (gi_at_builtin; (refine wpListIn_append_own _ rfl _ _ 33 rfl w.heap.size 5 i0 (.int .u8 0) 1 1 Try.underlying33 hi hz0 hz1 hz2 rfl (by decide) _ _ _ rfl (hrow.alloc _) ⟨W.heap.size, 0, none⟩ 1 1 [.int .u8 x.2] rfl rfl (cell_one_new _ _ _) (by simp [Value.oneCell']) hml (by omega) (by have := hB.size; simp; omega) ?_; intro v' w1 hown' hgrow _; obtain ⟨g', cap', rfl⟩ := ownsRow_succ hown'; obtain ⟨hv1, hv2, hr2, hk2, hb2⟩ := hv.appended (by decide) hrow hB.size (by omega) hown' hgrow; have hc1 := hv1.cell; have hf1 := hv1.frozen; have hat1 := (hat.alloc _).kept hgrow (hat.not_row (by decide) hrow); have hat2 : Boxed (w1.setCell ⟨w.heap.size + 1, 0, none⟩ _) (w.heap.size + 1 + 1) 3 _ := Blk.far hat1 (by simp) (.slice (some ⟨g', 0, none⟩) (pre.length + 1) cap'); have hat3 := hat2.cell; have hat4 := hat2.frozen))
      have hwr2 : Boxed ((w1.setCell ⟨w.heap.size + 1, 0, none⟩ (.slice (some ⟨g', 0, none⟩) (pre.length + 1) cap')).setCell ⟨w.heap.size + 1 + 1, 0, none⟩ (.int .i64 (x.1 : Int))) (w.heap.size + 1 + 1 + 1) 4 (.bool false) :=
        Blk.far (Blk.far ((hwr.alloc _).kept hgrow (hwr.not_row (by decide) hrow)) (by simp <;> omega) _) (by simp <;> omega) _
      have hbs2 : Boxed ((w1.setCell ⟨w.heap.size + 1, 0, none⟩ (.slice (some ⟨g', 0, none⟩) (pre.length + 1) cap')).setCell ⟨w.heap.size + 1 + 1, 0, none⟩ (.int .i64 (x.1 : Int))) (w.heap.size + 1 + 1 + 1 + 1) 9 (.string (strOfNums xs)) :=
        Blk.far (Blk.far ((hbs.alloc _).kept hgrow (hbs.not_row (by decide) hrow)) (by simp <;> omega) _) (by simp <;> omega) _
      have hbm2 : Mk ((w1.setCell ⟨w.heap.size + 1, 0, none⟩ (.slice (some ⟨g', 0, none⟩) (pre.length + 1) cap')).setCell ⟨w.heap.size + 1 + 1, 0, none⟩ (.int .i64 (x.1 : Int))) (w.heap.size + 1 + 1 + 1 + 1 + 1) x0 x1 x2 x3 :=
        Blk.far (Blk.far ((Blk.alloc hbm _).grown hgrow (fun e => own_blk_ne hrow hbm (by decide) e.symm)) (by simp <;> omega) _) (by simp <;> omega) _
      have hk3 := hk2.trans (KeepsOthers.setCell _ ⟨w.heap.size + 1 + 1, 0, none⟩ (.int .i64 (x.1 : Int)))
      refine ⟨hk3.from _, ⟨hk3.size, hbs2.trans hbs.symm, hbm2.trans hbm.symm⟩, ⟨⟨_, Blk.far hv2 (by simp) _, ?_, trivial⟩, ?_, hwr2, hbs2, hbm2⟩, (chain_snoc x pre 0).2 ⟨hch, E.out⟩, ?_⟩
      · have := hr2.kept (grownBy_setCell' _ (w.heap.size + 1 + 1) (.int .i64 (x.1 : Int))) (.inr (fun e => hat2.not_row (by decide) hr2 e.symm))
        simpa using this
      · rw [lastOr_snoc]; exact hat2.set _
      · exact (hB.trans hb2).setCell (by show w.heap.size ≤ w.heap.size + 1 + 1; omega) _
  case done =>
    rintro D ys W hD rfl ⟨⟨⟨v, hv, hrow, -⟩, hat, hwr, hbs, hbm⟩, hch, hB⟩ hK
    have hr := rbs_of_chain (mkd x0 x1 x2 x3) xs.length 0 [] xs hb hch
    have hc := hv.cell
    have hca := hat.cell
    have hcw := hwr.cell
    have HR := Lib.hid hr
    clear hr
    have hcv : ∀ p : Bw W, (convert 33 9 v).run Try.prog p.val = .ok (.string (strOfNums ((tr (mkd x0 x1 x2 x3) xs.length 0 xs).map (·.2)))) p.val := fun p => by
      refine conv_row (base := w.heap.size) (n := (tr (mkd x0 x1 x2 x3) xs.length 0 xs).length) _ ?_
      rw [List.map_map]
      exact own_below hrow p.prop
    have hcp : ∀ p : Bw W, p.val.cell? ⟨w.heap.size + 1, 0, none⟩ = some v := Bw.cell hv.lt hc
    have hcq : ∀ p : Bw W, p.val.cell? ⟨w.heap.size + 1 + 1, 0, none⟩ = _ := Bw.cell hat.lt hca
    simp only [Exit.inBlock, Exit.then]
    rename_i hKK
    refine hKK _ _ ?_
    go_wp2_with fail
    refine wp_region_bw (by kernel_rfl) (by kernel_rfl) ?_
    repeat (go_big_quiet_step (fail))
    refine wpQuiet_nil ?_
    rintro _ ⟨p, rfl⟩
    obtain ⟨W1, hp⟩ := p
    have hK1 := (hp.block D (Array.getElem?_eq_some_iff.1 hK).1).trans hK
    dsimp only
    go_wp2_with fail
    refine ⟨by simp, .inl ⟨_, _, rfl, run_takeDeferred hK1, ?_⟩⟩
    exact ⟨.tuple #[.string (strOfNums ((tr (mkd x0 x1 x2 x3) xs.length 0 xs).map (·.2))), .int .i64 ((lastOr 0 (tr (mkd x0 x1 x2 x3) xs.length 0 xs) : Nat) : Int), .int .i64 0], by simp [results, Try.results19, go_sem], by rw [HR.out]; rfl, (hB.trans (hp.mono hB.size)).trans (belowK_b (w := w) (Nat.le_refl _) W1 D _ _ (by simp only [World.size_alloc] at hD; omega) hK1 rfl rfl)⟩
  case stop =>
    rintro D c pre W hD hp ⟨rfl, ⟨pre', x, rfl, hch, hx, hat⟩, hwr, hB⟩ hK
    have hr := rbs_of_stop (mkd x0 x1 x2 x3) xs.length 0 [] xs pre' x hb hp hch hx
    have hca := hat.cell
    have hcw := hwr.cell
    have HR := Lib.hid hr
    clear hr
    have hcp : ∀ p : Bw W, p.val.cell? ⟨w.heap.size + 1 + 1, 0, none⟩ = _ := Bw.cell hat.lt hca
    gi_wp2
    go_wp2_with fail
    refine wp_region_bw (by kernel_rfl) (by kernel_rfl) ?_
    repeat (go_big_quiet_step (fail))
    refine wpQuiet_nil ?_
    rintro _ ⟨p, rfl⟩
    obtain ⟨W1, hp⟩ := p
    have hK1 := (hp.block D (Array.getElem?_eq_some_iff.1 hK).1).trans hK
    dsimp only
    go_wp2_with fail
    refine ⟨by simp, .inl ⟨_, _, rfl, run_takeDeferred hK1, ?_⟩⟩
    exact ⟨.tuple #[.string { data := #[] }, .int .i64 ((lastOr 0 pre' : Nat) : Int), .int .i64 20], by simp [results, Try.results19, go_sem], by rw [HR.out]; rfl, (hB.trans (hp.mono hB.size)).trans (belowK_b (w := w) (Nat.le_refl _) W1 D _ _ (by simp only [World.size_alloc] at hD; omega) hK1 rfl rfl)⟩

/-- quote.ReadBytes. -/
theorem rbs_any (x0 x1 x2 x3 : Int) (xs : List Int) (w : World) (hw : Words x0 x1 x2 x3) (hb : By xs) (hl : xs.length ≤ 1000000000) :
    Calls Try.prog 19 #[.string (strOfNums xs), .agg #[.int .u64 x0, .int .u64 x1, .int .u64 x2, .int .u64 x3]] w fun e w' =>
      e = .returned (.tuple #[.string (strOfNums (rbs (mkd x0 x1 x2 x3) xs.length 0 [] xs).1), .int .i64 ((rbs (mkd x0 x1 x2 x3) xs.length 0 [] xs).2.1 : Int), .int .i64 (rbs (mkd x0 x1 x2 x3) xs.length 0 [] xs).2.2]) ∧ Below w.heap.size w w' :=
  callsIn_wide.1 (rbs_in 3 (Nat.le_refl _) x0 x1 x2 x3 xs w hw hb hl)
end Go.Proofs.Ytdgihlelopfdeaa
