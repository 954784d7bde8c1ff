/-
  The reference of quote: may.
-/
import Derived.Test.YtdgihlelopfdeaaRefE
import Derived.Lib.ConvBytes
import Derived.Deep.RegionLaw
namespace Go.Proofs.Ytdgihlelopfdeaa
open Go.RowKit Q

/-- The bytes that a string may begin with a form of. -/
def mayL : List Int → List Int
  | [] => []
  | [c] => if c ≠ 92 then [c] else [9, 10, 13]
  | [c, d] => if c ≠ 92 then [c] else [9, 10, 13, d]
  | [c, d, _] => if c ≠ 92 then [c] else [9, 10, 13, d]
  | c :: d :: e :: f :: _ => if c ≠ 92 then [c] else [9, 10, 13, d, 16 * dg e + dg f]
theorem mayL_not (xs : List Int) (c : Int) (h0 : 0 < xs.length) (hc : xs.getD 0 0 = c) (h : c ≠ 92) : mayL xs = [c] := by
  match xs with
  | [] => simp at h0
  | [c'] => simp at hc; subst hc; simp [mayL, h]
  | [c', d] => simp at hc; subst hc; simp [mayL, h]
  | [c', d, e] => simp at hc; subst hc; simp [mayL, h]
  | c' :: d :: e :: f :: t => simp at hc; subst hc; simp [mayL, h]
theorem mayL_1 (xs : List Int) (h0 : xs.length = 1) (hc : xs.getD 0 0 = 92) : mayL xs = [9, 10, 13] := by
  match xs, h0 with
  | [c'], _ => simp at hc; subst hc; simp [mayL]
theorem mayL_2 (xs : List Int) (d : Int) (h0 : 2 ≤ xs.length) (h1 : xs.length ≤ 3) (hc : xs.getD 0 0 = 92) (hd : xs.getD 1 0 = d) : mayL xs = [9, 10, 13, d] := by
  match xs with
  | [] => simp at h0
  | [c'] => simp at h0
  | [c', d'] => simp at hc hd; subst hc hd; simp [mayL]
  | [c', d', e] => simp at hc hd; subst hc hd; simp [mayL]
  | c' :: d' :: e :: f :: t => simp at h1
theorem mayL_4 (xs : List Int) (d e f : Int) (h0 : 4 ≤ xs.length) (hc : xs.getD 0 0 = 92) (hd : xs.getD 1 0 = d) (he : xs.getD 2 0 = e) (hf : xs.getD 3 0 = f) : mayL xs = [9, 10, 13, d, 16 * dg e + dg f] := by
  match xs with
  | [] => simp at h0
  | [c'] => simp at h0
  | [c', d'] => simp at h0
  | [c', d', e'] => simp at h0
  | c' :: d' :: e' :: f' :: t => simp at hc hd he hf; subst hc hd he hf; simp [mayL]

/-- A slice of bytes, wherever it lies. -/
def Sl5 (w : World) (A : Option Addr) (zs : List Int) : Prop := Reads w w.heap.size 1 A zs.length (zs.map (Value.int .u8))
theorem own_form {w : World} {base : Nat} {e : TypeId} {size : Nat} {v : Value} {n : Nat} {xs : List Value} (h : w.ownsRow base e size v n xs) : ∃ A c, v = .slice A n c := by
  rcases h.2 with ⟨rfl, rfl⟩ | ⟨g, cap, cur, rfl, _⟩
  · exact ⟨_, _, rfl⟩
  · exact ⟨_, _, rfl⟩
def MayIs (xs ys : List Int) (w : World) : Prop := Calls Try.prog 43 #[.string (strOfNums xs)] w fun e w' => (∃ A c, e = .returned (.slice A ys.length c) ∧ Sl5 w' A ys) ∧ Below w.heap.size w w'

theorem sl5_blk {w : World} {b t : Nat} {cs : Array Value} {zs : List Int} (hB : Blk w b t cs) (h : ∀ (j : Nat) (u : Value), (zs.map (Value.int .u8))[j]? = some u → cs[j]? = some u) : Sl5 w (some ⟨b, 0, none⟩) zs :=
  ⟨by simp, fun _ => ⟨_, rfl, hB.lt, fun j u hu => by
    have := hB.cell (0 + j)
    have e : (⟨b, 0, none⟩ : Addr).add j = ⟨b, 0 + j, none⟩ := by unfold Addr.add; split <;> simp_all
    rw [e, this, Nat.zero_add]
    exact h j u hu⟩⟩
theorem sl5_own {w : World} {base : Nat} {A : Option Addr} {n c : Nat} {zs : List Int} (h : w.ownsRow base 5 1 (.slice A n c) n (zs.map (Value.int .u8))) (hn : n = zs.length) : Sl5 w A zs := by
  subst hn
  exact Reads.of_own h

/-- '[]byte(s)'. -/
theorem conv5 (xs : List Int) (hb : By xs) (w : World) : ∃ (c : Nat) (W : World), (convert 9 33 (.string (strOfNums xs))).run Try.prog w = .ok (.slice (some ⟨w.heap.size, 0, none⟩) xs.length c) W ∧ Sl5 W (some ⟨w.heap.size, 0, none⟩) xs ∧ Below w.heap.size w W := by
  have hz := strOfNums_size xs
  refine ⟨_, Lib.bytesWorld w 5 (strOfNums xs), by rw [Lib.run_convert_string_bytes w 9 33 5 (strOfNums xs) Try.underlying9 Try.underlying33 Try.underlying5, hz], ⟨by simp, fun _ => ⟨_, rfl, ?_, fun j u hu => ?_⟩⟩, ?_⟩
  · show w.heap.size < _
    rw [Lib.bytesWorld_size]; omega
  · have hj : j < xs.length := by
      rcases Nat.lt_or_ge j xs.length with h | h
      · exact h
      · rw [List.getElem?_eq_none (by simpa using h)] at hu; cases hu
    have e : (⟨w.heap.size, 0, none⟩ : Addr).add j = ⟨w.heap.size, j, none⟩ := by unfold Addr.add; split <;> simp_all
    rw [e, Lib.bytesWorld_cell w 5 _ j (by omega), ← hu, List.getElem?_map, List.getElem?_eq_getElem hj]
    have hx := hb xs[j] (List.getElem_mem hj)
    simp [strOfNums, List.getD_eq_getElem?_getD, List.getElem?_eq_getElem hj]
    omega
  · exact ⟨rfl, rfl, rfl, by rw [Lib.bytesWorld_size]; omega, fun j hj => Lib.bytesWorld_at_old w 5 _ j hj⟩

theorem own_build (w : World) (e : TypeId) (cs : List Value) (n : Nat) (hn : n = cs.length) (hl : n ≤ maxLen) (base : Nat) (hb : base ≤ w.heap.size) : (w.alloc (.cells cs.toArray e)).ownsRow base e 1 (.slice (some ⟨w.heap.size, 0, none⟩) n n) n cs := by
  subst hn
  refine ⟨by simp, .inr ⟨w.heap.size, cs.length, cs.toArray, rfl, hb, heap_alloc_new w _, Nat.le_refl _, hl, by simp, by simp⟩⟩

set_option maxHeartbeats 1000000 in
theorem may_nil (w : World) : MayIs [] [] w := by
  unfold MayIs
  obtain ⟨c, W, hcv, hS, hW⟩ := conv5 [] (by intro x hx; simp at hx) w
  rw [show strOfNums [] = (⟨#[]⟩ : ByteArray) from rfl] at *
  go_enter Try.func43, Try.ntmps43
  go_wp2_with fail
  rw [show ((⟨#[]⟩ : ByteArray).extract 0 (min 0 1 : Int).toNat) = ⟨#[]⟩ from rfl, hcv]
  simp only [Result.andThen]
  rw [Oper.upon_value]
  go_wp2_with fail
  go_ret
  exact ⟨⟨_, _, rfl, hS⟩, hW⟩

set_option maxHeartbeats 1000000 in
theorem may_not (xs : List Int) (w : World) (hb : By xs) (c : Int) (h0 : 0 < xs.length) (hl : xs.length ≤ 1000000000) (hc : xs.getD 0 0 = c) (h : c ≠ 92) : MayIs xs [c] w := by
  unfold MayIs
  have hsz := strOfNums_size xs
  have i0 := idx_lit hb 0 h0 c 0 rfl hc
  have hcr : 0 ≤ c ∧ c ≤ 255 := hc ▸ by_getD hb 0
  have hb0 : (c != 92) = true := by simpa using h
  have hsl : ∀ w, (Instr.slice 9 (.string (strOfNums xs)) none (some (.int .i64 1)) none).run Try.prog w = .ok (.string (strOfNums (xs.take 1))) w := slice_to xs 1 (by omega)
  have ht : xs.take 1 = [c] := by
    cases xs with
    | nil => simp at h0
    | cons x t => simp at hc; subst hc; rfl
  rw [ht] at hsl
  obtain ⟨cp, W, hcv, hS, hW⟩ := conv5 [c] (by intro x hx; simp at hx; omega) w
  have hmin : min (xs.length : Int) 1 = 1 := by omega
  have hlen : ¬ xs.length = 0 := by omega
  have hlen2 : ((xs.length : Int) == 0) = false := beq_eq_false_iff_ne.2 (by omega)
  clear ht hc h
  generalize strOfNums [c] = sc at *
  generalize strOfNums xs = sx at *
  go_enter Try.func43, Try.ntmps43
  go_wp2_with fail
  go_ret
  exact ⟨⟨_, _, rfl, hS⟩, hW⟩

set_option maxHeartbeats 1000000 in
theorem may_1 (xs : List Int) (w : World) (hb : By xs) (h0 : xs.length = 1) (hc : xs.getD 0 0 = 92) : MayIs xs [9, 10, 13] w := by
  unfold MayIs
  have hsz := strOfNums_size xs
  have i0 := idx_lit hb 0 (by omega) 92 0 rfl hc
  have hlen : (xs.length : Int) ≤ 1 := by omega
  have hlen3 : 1 ≤ (xs.length : Int) := by omega
  have hlen2 : ((xs.length : Int) == 0) = false := beq_eq_false_iff_ne.2 (by omega)
  clear hc h0
  generalize strOfNums xs = sx at *
  go_enter Try.func43, Try.ntmps43
  go_wp2_with fail
  go_ret
  exact ⟨⟨_, _, rfl, sl5_blk (Blk.new w 5 _) (by intro j u hu; simpa using hu)⟩, by go_grown⟩

set_option maxHeartbeats 2000000 in
theorem may_2 (xs : List Int) (w : World) (hb : By xs) (d : Int) (h0 : 2 ≤ xs.length) (h1 : xs.length ≤ 3) (hc : xs.getD 0 0 = 92) (hd : xs.getD 1 0 = d) : MayIs xs [9, 10, 13, d] w := by
  unfold MayIs
  have hsz := strOfNums_size xs
  have i0 := idx_lit hb 0 (by omega) 92 0 rfl hc
  have i1 := idx_lit hb 1 (by omega) d 1 rfl hd
  have hlen : (xs.length : Int) ≤ 3 := by omega
  have hlen3 : 2 ≤ (xs.length : Int) := by omega
  have hlen2 : ((xs.length : Int) == 0) = false := beq_eq_false_iff_ne.2 (by omega)
  obtain ⟨i5, hi, hz0, hz1, hz2⟩ := info_parts info5
  have HOW := Lib.hid (own_build w 5 [.int .u8 9, .int .u8 10, .int .u8 13] 3 rfl (by unfold maxLen; omega) w.heap.size (Nat.le_refl _))
  clear hc h0 h1 hd
  generalize strOfNums xs = sx at *
  go_enter Try.func43, Try.ntmps43
  go_wp2_with fail
  go_ret
  have hN := Blk.new ((w.alloc (.cells #[.int .u8 9, .int .u8 10, .int .u8 13] 5)).alloc (.cells #[.int .u8 d] 5)) 5 (#[.int .u8 9, .int .u8 10, .int .u8 13, .int .u8 d] ++ Builtin.zeroCells #[.int .u8 0] ((Question.appendCap 4 3 5).cut (w.tape w.drawn (Question.appendCap 4 3 5)) - 4))
  rw [World.size_alloc, World.size_alloc] at hN
  refine ⟨⟨_, _, rfl, sl5_blk hN.drew ?_⟩, by go_grown⟩
  intro j u hu
  rw [Array.getElem?_append_left (by
    rcases Nat.lt_or_ge j 4 with h | h
    · simpa using h
    · rw [List.getElem?_eq_none (by simpa using h)] at hu; cases hu)]
  simpa using hu

set_option maxHeartbeats 4000000 in
theorem may_4 (xs : List Int) (w : World) (hb : By xs) (d e f : Int) (h0 : 4 ≤ xs.length) (hl : xs.length ≤ 1000000000) (hc : xs.getD 0 0 = 92) (hd : xs.getD 1 0 = d) (he : xs.getD 2 0 = e) (hf : xs.getD 3 0 = f) : MayIs xs [9, 10, 13, d, 16 * dg e + dg f] w := by
  unfold MayIs
  have hsz := strOfNums_size xs
  have i0 := idx_lit hb 0 (by omega) 92 0 rfl hc
  have i1 := idx_lit hb 1 (by omega) d 1 rfl hd
  have i2 := idx_lit hb 2 (by omega) e 2 rfl he
  have i3 := idx_lit hb 3 (by omega) f 3 rfl hf
  have re : 0 ≤ e ∧ e ≤ 255 := he ▸ by_getD hb 2
  have rf : 0 ≤ f ∧ f ≤ 255 := hf ▸ by_getD hb 3
  have ND := Lib.hid (fun w => digit_any e w re.1 re.2)
  have NE := Lib.hid (fun w => digit_any f w rf.1 rf.2)
  have hge : 0 ≤ dg e ∧ dg e ≤ 15 := by have := nib_range e; unfold dg; split <;> omega
  have hgf : 0 ≤ dg f ∧ dg f ≤ 15 := by have := nib_range f; unfold dg; split <;> omega
  have hlen3 : 4 ≤ (xs.length : Int) := by omega
  have hlen2 : ((xs.length : Int) == 0) = false := beq_eq_false_iff_ne.2 (by omega)
  obtain ⟨i5, hi, hz0, hz1, hz2⟩ := info_parts info5
  have HOW := Lib.hid (own_build w 5 [.int .u8 9, .int .u8 10, .int .u8 13] 3 rfl (by unfold maxLen; omega) w.heap.size (Nat.le_refl _))
  clear hc h0 hd he hf
  generalize dg e = u at *
  generalize dg f = v at *
  have hw8 : IntKind.u8.wrap (16 * u + v) = 16 * u + v := by rw [IntKind.wrap_u8]; omega
  have hwa : IntKind.i64.wrap (16 * u) = 16 * u := by rw [IntKind.wrap_i64]; omega
  have hwb : IntKind.i64.wrap (16 * u + v) = 16 * u + v := by rw [IntKind.wrap_i64]; omega
  generalize strOfNums xs = sx at *
  go_enter Try.func43, Try.ntmps43
  go_upto_region 3 with fail
  go_cut [3] from 18 to 18 (fun s wx => (∃ c, s = .slice (some ⟨w.heap.size, 0, none⟩) 3 c ∧ wx.ownsRow w.heap.size 5 1 s 3 [.int .u8 9, .int .u8 10, .int .u8 13]) ∧ Below w.heap.size w wx)
  case first =>
    go_wp2_with fail
    go_meet
    exact ⟨⟨_, rfl, HOW.out⟩, by go_grown⟩
  case rest =>
    obtain ⟨⟨c, rfl, hown⟩, hB⟩ := hcut
    have hz := hB.size
    clear HOW
    go_upto_region 6 with (at_builtin; refine wpList_append_own _ rfl (.tmp 22) (.tmp 25) 33 rfl w.heap.size 5 i5 (.int .u8 0) 1 1 Try.underlying33 hi hz0 hz1 hz2 rfl (by decide) _ _ _ rfl (hown.alloc _) ⟨wc.heap.size, 0, none⟩ 1 1 [.int .u8 d] rfl rfl (cell_one_new _ _ _) (by simp [Value.oneCell']) (by unfold maxLen; omega) (by omega) (by simp; omega) ?_; intro v' w3 hown' hgrow _; obtain ⟨g', cap', rfl⟩ := ownsRow_succ hown')
    have hB3 : Below w.heap.size w w3 := (hB.alloc hz _).grown hgrow (by simp; omega) (fun j ej => own_ge hown j ej)
    have hz3 := hB3.size
    have HGR := Lib.hid hgrow
    clear hgrow hown hB i0 i1
    have hown3 : w3.drew.ownsRow w.heap.size 5 1 (.slice (some ⟨g', 0, none⟩) 4 cap') 4 [.int .u8 9, .int .u8 10, .int .u8 13, .int .u8 d] := hown'
    clear hown'
    have hown4 : ((w3.alloc (.cells #[.int .u8 (16 * u + v)] 5)).drew).ownsRow w.heap.size 5 1 (.slice (some ⟨g', 0, none⟩) 4 cap') 4 [.int .u8 9, .int .u8 10, .int .u8 13, .int .u8 d] := World.ownsRow.alloc (w := w3) hown3 (.cells #[.int .u8 (16 * u + v)] 5)
    have hrd4 : Reads ((w3.alloc (.cells #[.int .u8 (16 * u + v)] 5)).drew) (w3.heap.size + 1) 1 (some ⟨w3.heap.size, 0, none⟩) 1 [.int .u8 (16 * u + v)] := ⟨by simp, fun _ => ⟨_, rfl, by simp, by simp [go_sem]⟩⟩
    have HO4 := Lib.hid hown4
    have HR4 := Lib.hid hrd4
    clear hown4 hrd4
    go_upto_region 7 with fail
    go_cut [3] from 4 to 42 (fun s wx => (∃ A c, s = .slice A 5 c ∧ Sl5 wx A [9, 10, 13, d, 16 * u + v]) ∧ Below w.heap.size w wx)
    case first =>
      go_region_law (first | (go_simp; go_at_call_of 52 (Value.int IntKind.u8 e); refine (ND.out _).mono ?_; rintro e w5 ⟨rfl, rfl⟩) | (go_simp; go_at_call_of 52 (Value.int IntKind.u8 f); refine (NE.out _).mono ?_; rintro e w5 ⟨rfl, rfl⟩) | (refine step_append_any _ rfl (.tmp 30) (.tmp 40) 33 rfl w.heap.size 5 i5 (.int .u8 0) 1 1 Try.underlying33 hi hz0 hz1 hz2 rfl (by decide) (.slice (some ⟨g', 0, none⟩) 4 cap') 4 [.int .u8 9, .int .u8 10, .int .u8 13, .int .u8 d] rfl HO4.out (w3.heap.size + 1) (some ⟨w3.heap.size, 0, none⟩) 1 1 [.int .u8 (16 * u + v)] rfl HR4.out (by simp [Value.oneCell']) (by unfold maxLen; omega) (by omega) (by simp; omega) ?_; intro v' w6 hown6 hgrow6 _))
      all_goals
        obtain ⟨A, c', rfl⟩ := own_form hown6
        go_wp2_with fail
        go_simp
        go_meet
        refine ⟨⟨A, c', rfl, sl5_own hown6 rfl⟩, ?_⟩
        exact ((hB3.drew).alloc (by simp; omega) _).grown hgrow6 (by simp; omega) (fun j ej => own_ge hown3 j ej)
    case rest =>
      obtain ⟨⟨A, c', rfl, hA⟩, hB7⟩ := hcut
      go_wp2_with fail
      go_ret
      exact ⟨⟨_, _, rfl, hA⟩, hB7⟩

/-- may of the reference. -/
theorem may_any (xs : List Int) (w : World) (hb : By xs) (hl : xs.length ≤ 1000000000) : MayIs xs (mayL xs) w := by
  match xs, hb, hl with
  | [], _, _ => exact may_nil w
  | [c], hb, hl =>
    by_cases h : c = 92
    · subst h; exact may_1 _ w hb rfl rfl
    · rw [mayL_not [c] c (by simp) rfl h]; exact may_not _ w hb c (by simp) hl rfl h
  | [c, d], hb, hl =>
    by_cases h : c = 92
    · subst h; exact may_2 _ w hb d (by simp) (by simp) rfl rfl
    · rw [mayL_not [c, d] c (by simp) rfl h]; exact may_not _ w hb c (by simp) hl rfl h
  | [c, d, e], hb, hl =>
    by_cases h : c = 92
    · subst h; exact may_2 _ w hb d (by simp) (by simp) rfl rfl
    · rw [mayL_not [c, d, e] c (by simp) rfl h]; exact may_not _ w hb c (by simp) hl rfl h
  | c :: d :: e :: f :: t, hb, hl =>
    by_cases h : c = 92
    · subst h; exact may_4 _ w hb d e f (by simp) hl rfl rfl rfl rfl
    · rw [mayL_not (c :: d :: e :: f :: t) c (by simp) rfl h]; exact may_not _ w hb c (by simp) hl rfl h
end Go.Proofs.Ytdgihlelopfdeaa
