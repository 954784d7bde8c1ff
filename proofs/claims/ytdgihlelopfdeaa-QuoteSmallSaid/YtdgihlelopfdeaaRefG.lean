/-
  The reference of quote: forms.
-/
import Derived.Test.YtdgihlelopfdeaaRefF
namespace Go.Proofs.Ytdgihlelopfdeaa
open Go.RowKit Q

def dig (n : Int) (up : Bool) : Int := if up = true then hexu n else hexd n
/-- A form in hexadecimal digits. -/
def hx (c : Int) (i : Nat) : List Int := [92, 120, dig (c / 16) (decide (i % 2 = 1)), dig (c % 16) (decide (i / 2 = 1))]
def f1 (m : Bool) (c : Int) : List (List Int) := if 32 ≤ c ∧ c ≤ 126 ∧ c ≠ 92 ∧ m = false then [[c]] else []
def f2 (m : Bool) (c : Int) : List (List Int) := if m = true ∨ c = 92 then [[92, c]] else []
def f3 (c : Int) : Nat → List (List Int)
  | 0 => []
  | 1 => if c = 10 then [[92, 110]] else []
  | 2 => (if c = 10 then [[92, 110]] else []) ++ (if c = 13 then [[92, 114]] else [])
  | _ => (if c = 10 then [[92, 110]] else []) ++ (if c = 13 then [[92, 114]] else []) ++ (if c = 9 then [[92, 116]] else [])
def f4 (c : Int) : Nat → List (List Int)
  | 0 => []
  | i + 1 => f4 c i ++ [hx c i]
/-- All forms of a byte. -/
def fL (m : Bool) (c : Int) : List (List Int) := f1 m c ++ f2 m c ++ f3 c 3 ++ f4 c 4

def fp (m : Bool) (c : Int) (k : Nat) : List (List Int) := f1 m c ++ f2 m c ++ f3 c 3 ++ f4 c k
theorem fp_step (m : Bool) (c : Int) (k : Nat) : fp m c (k + 1) = fp m c k ++ [hx c k] := by unfold fp; rw [f4, ← List.append_assoc]
theorem fp_len (m : Bool) (c : Int) (k : Nat) : (fp m c k).length ≤ 5 + k := by
  have h1 : (f1 m c).length ≤ 1 := by unfold f1; split <;> simp
  have h2 : (f2 m c).length ≤ 1 := by unfold f2; split <;> simp
  have h3 : (f3 c 3).length ≤ 3 := by simp only [f3]; split <;> split <;> split <;> simp
  have h4 : (f4 c k).length = k := by
    induction k with
    | zero => rfl
    | succ k ih => rw [f4, List.length_append, ih]; rfl
  unfold fp
  simp only [List.length_append]
  omega
def strv (z : List Int) : Value := .string (strOfNums z)
def Sl55 (w : World) (A : Option Addr) (zs : List (List Int)) : Prop := Reads w w.heap.size 1 A zs.length (zs.map strv)

theorem info9 : (Try.prog.info? 9).map (fun i => (i.zero, i.size, i.bytes)) = some (some (.string ⟨#[]⟩), 1, 16) := by kernel_rfl

theorem wpList_app9 {ops : Array Oper} {rest : List Oper} {o : Oper} {a : Act} {w : World} {Q : Exit → Act → World → Prop} (hgd : o.guard = none) (s x : Operand)
    (ho : o.op = .call { callee := .builtin .append, args := #[s, x], argTypes := #[55, 55] })
    (base : Nat) (v : Value) (n : Nat) (xs : List Value) (hs : a.eval s = v) (hown : w.ownsRow base 9 1 v n xs) (b : Nat) (z : ByteArray) (hx : a.eval x = .slice (some ⟨b, 0, none⟩) 1 1) (hc : w.cell? ⟨b, 0, none⟩ = some (.string z))
    (hn : n ≤ 1000) (hbase : base ≤ w.heap.size)
    (h : ∀ v' w', w'.ownsRow base 9 1 v' (n + 1) (xs ++ [.string z]) → w.grownBy w' v.ownBlock → (v'.ownBlock = v.ownBlock ∨ v'.ownBlock = some w.heap.size) → wpList Try.prog ops Q rest (a.put o.dst v') w') : wpList Try.prog ops Q (o :: rest) a w := by
  obtain ⟨i9, hi, hz0, hz1, hz2⟩ := info_parts info9
  have hb : b < w.heap.size := by have := World.block_lt_of_cell? w _ hc; simpa using this
  refine wpList_append_any w hgd s x 55 ho base 9 i9 (.string ⟨#[]⟩) 1 16 Try.underlying55 hi hz0 hz1 hz2 rfl (by decide) v n xs hs hown w.heap.size (some ⟨b, 0, none⟩) 1 1 [.string z] hx ⟨rfl, fun _ => ⟨_, rfl, hb, ?_⟩⟩ (by simp [Value.oneCell']) (by unfold maxLen; omega) (by omega) hbase (fun v' w' h2 h3 h4 => h v' w' h2 h3 h4)
  intro j u hu
  cases j with
  | zero => simp at hu; subst hu; exact hc
  | succ j => simp at hu

/-- What the walk keeps: the forms so far, in a row of its own. -/
def FR (w : World) (S : Array Value) (zs : List (List Int)) (v : Value) (wx : World) : Prop :=
  wx.ownsRow (w.heap.size + 1) 9 1 v zs.length (zs.map strv) ∧ Blk wx w.heap.size 60 S ∧ Below w.heap.size w wx ∧ zs.length ≤ 9

theorem FR.app {w : World} {S : Array Value} {zs : List (List Int)} {v v' : Value} {wx w1 w2 : World} {z : List Int} (h : FR w S zs v wx) (hb : Below wx.heap.size wx w1) (h1 : w2.ownsRow (w.heap.size + 1) 9 1 v' (zs.length + 1) (zs.map strv ++ [strv z])) (hg : w1.grownBy w2 v.ownBlock) (hl : zs.length ≤ 8) : FR w S (zs ++ [z]) v' w2 := by
  obtain ⟨hr, hk, hB, _⟩ := h
  have hr1 := own_below hr hb
  have hk1 := hk.below hb hk.lt
  refine ⟨by simpa using h1, hk1.grown hg (fun e => own_blk_ne hr1 hk1 (by decide) e.symm), (bl hB hb).grown hg (by have := hk1.lt; omega) (fun j ej => by have := own_ge hr1 j ej; omega), by simp; omega⟩
theorem FR.none_ {w : World} {S : Array Value} : FR w S [] (.slice none 0 0) (w.alloc (.cells S 60)) := ⟨World.ownsRow_nil _ _ _ _, Blk.new _ _ _, by go_grown, by simp⟩
theorem FR.still {w : World} {S : Array Value} {zs : List (List Int)} {v : Value} {wx w1 : World} (h : FR w S zs v wx) (hb : Below wx.heap.size wx w1) : FR w S zs v w1 := ⟨own_below h.1 hb, h.2.1.below hb h.2.1.lt, bl h.2.2.1 hb, h.2.2.2⟩

set_option maxRecDepth 100000 in
set_option maxHeartbeats 8000000 in
theorem forms_any (S : Array Value) (h : Int → Bool) (c : Int) (w : World) (hS : Rs S h) (h0 : 0 ≤ c) (h1 : c ≤ 255) :
    Calls Try.prog 44 #[.int .u8 c, .agg S] w fun e w' => (∃ A cp, e = .returned (.slice A (fL (mkr h c) c).length cp) ∧ Sl55 w' A (fL (mkr h c) c)) ∧ Below w.heap.size w w' := by
  have HM := Lib.hid (fun w => rmark_any S h c w hS h0 h1)
  have hs := Lib.hid hS.1
  generalize mkr h c = m at *
  clear hS
  go_enter Try.func44, Try.ntmps44
  go_upto_region 2 with fail
  go_cut [5, 24] from 9 to 24 (fun v t wx => t = .bool (decide (32 ≤ c ∧ c ≤ 126 ∧ c ≠ 92 ∧ m = false)) ∧ FR w S [] v wx)
  case first =>
    by_cases r : 32 ≤ c ∧ c ≤ 126 ∧ c ≠ 92
    · obtain ⟨r0, r1, r2⟩ := r
      have b92 : (c != 92) = true := by simpa using r2
      go_wp2_with fail
      refine wp_load60 (.tmp 3) (Blk.new w 60 S) hs.out rfl rfl ?_
      go_wp2_with (go_at_call 47; refine (HM.out _).mono ?_; rintro e w5 ⟨rfl, hb5⟩)
      go_meet
      refine ⟨?_, FR.none_.still hb5⟩
      clear HM hb5
      cases m <;> simp <;> omega
    · have r' : c < 32 ∨ 126 < c ∨ c = 92 := by omega
      have hD : decide (32 ≤ c ∧ c ≤ 126 ∧ c ≠ 92 ∧ m = false) = false := by rw [decide_eq_false_iff_not]; rintro ⟨a, b, d, _⟩; exact r ⟨a, b, d⟩
      have HD := Lib.hid hD
      clear hD r
      rcases r' with r | r | r
      · go_wp2_with fail
        go_meet
        exact ⟨by rw [HD.out], FR.none_⟩
      · have r3 : 32 ≤ c := by omega
        have r4 : ¬ c ≤ 126 := by omega
        go_wp2_with fail
        go_meet
        exact ⟨by rw [HD.out], FR.none_⟩
      · have r3 : 32 ≤ c := by omega
        have r4 : c ≤ 126 := by omega
        have b92 : (c != 92) = false := by simpa using r
        clear r
        go_wp2_with fail
        go_meet
        exact ⟨by rw [HD.out], FR.none_⟩
  case rest =>
    obtain ⟨rfl, hF⟩ := hcut
    go_upto_if 24 with fail
    go_cut [5] from 9 to 30 (fun v wx => FR w S (f1 m c) v wx)
    case first =>
      by_cases r : 32 ≤ c ∧ c ≤ 126 ∧ c ≠ 92 ∧ m = false
      · have hD : decide (32 ≤ c ∧ c ≤ 126 ∧ c ≠ 92 ∧ m = false) = true := decide_eq_true r
        have HF1 : Hid (f1 m c = [[c]]) := by show _ = _; unfold f1; rw [if_pos r]
        generalize decide (32 ≤ c ∧ c ≤ 126 ∧ c ≠ 92 ∧ m = false) = bb at *
        subst hD
        clear r
        go_wp2_with fail
        have hz := hF.2.1.lt

        rw [conv_blk (b := wc.heap.size) (t := 5) ([c]) 1 1 rfl (show Blk (wc.alloc (.cells #[.int .u8 c] 5)) wc.heap.size 5 (([c]).map (Value.int .u8)).toArray from Blk.new wc 5 _)]
        simp only [Result.andThen]
        rw [Oper.upon_value]
        have hss := strOfNums_size ([c])
        simp only [List.length_cons, List.length_nil] at hss
        have hbb : Below wc.heap.size wc ((wc.alloc (.cells #[.int .u8 c] 5)).alloc (.cells #[.string (strOfNums ([c]))] 9)) := by go_grown
        have hown := Lib.hid (own_below hF.1 hbb)
        have hcl : ((wc.alloc (.cells #[.int .u8 c] 5)).alloc (.cells #[.string (strOfNums ([c]))] 9)).cell? ⟨wc.heap.size + 1, 0, none⟩ = some (.string (strOfNums ([c]))) := by simp [go_sem]
        have hnl := hF.2.2.2
        go_wp2_with (at_builtin; refine wpList_app9 rfl (.tmp 25) (.tmp 29) rfl (w.heap.size + 1) _ _ _ rfl hown.out (wc.heap.size + 1) (strOfNums ([c])) rfl hcl (by omega) (by simp; omega) ?_; intro v' w6 hown' hgrow hblk)

        go_meet
        rw [HF1.out]
        exact hF.app hbb hown' hgrow (by simp)
      · have hD : decide (32 ≤ c ∧ c ≤ 126 ∧ c ≠ 92 ∧ m = false) = false := decide_eq_false r
        have HF1 : Hid (f1 m c = []) := by show _ = _; unfold f1; rw [if_neg r]
        generalize decide (32 ≤ c ∧ c ≤ 126 ∧ c ≠ 92 ∧ m = false) = bb at *
        subst hD
        clear r
        go_wp2_with fail
        go_meet
        rw [HF1.out]
        exact hF
    case rest =>
      have hF1 := hcut
      have hz := hF1.2.1.lt
      have hln1 : (f1 m c).length ≤ 1 := by unfold f1; split <;> simp
      clear hcut hF
      go_upto_region 4 with fail
      go_cut [5, 37] from 31 to 37 (fun v t wx => t = .bool (decide (m = true ∨ c = 92)) ∧ FR w S (f1 m c) v wx)
      case first =>
        go_wp2_with fail
        refine wp_load60 (.tmp 3) hF1.2.1 hs.out rfl rfl ?_
        cases m with
        | true =>
          go_wp2_with (go_at_call 47; refine (HM.out _).mono ?_; rintro e w5 ⟨rfl, hb5⟩)
          go_meet
          exact ⟨by simp, hF1.still hb5⟩
        | false =>
          by_cases e92 : c = 92
          · have b92 : (c == 92) = true := beq_iff_eq.2 e92
            have E := Lib.hid e92
            clear e92
            go_wp2_with (go_at_call 47; refine (HM.out _).mono ?_; rintro e w5 ⟨rfl, hb5⟩)
            go_meet
            exact ⟨by simp [E.out], hF1.still hb5⟩
          · have b92 : (c == 92) = false := beq_eq_false_iff_ne.2 e92
            have E := Lib.hid e92
            clear e92
            go_wp2_with (go_at_call 47; refine (HM.out _).mono ?_; rintro e w5 ⟨rfl, hb5⟩)
            go_meet
            exact ⟨by simp [E.out], hF1.still hb5⟩
      case rest =>
        obtain ⟨rfl, hF⟩ := hcut
        have hz := hF.2.1.lt
        clear hF1
        go_upto_if 37 with fail
        go_cut [5] from 31 to 44 (fun v wx => FR w S (f1 m c ++ f2 m c) v wx)
        case first =>
          by_cases r : m = true ∨ c = 92
          · have hD : decide (m = true ∨ c = 92) = true := decide_eq_true r
            have HF1 : Hid (f2 m c = [[92, c]]) := by show _ = _; unfold f2; rw [if_pos r]
            have HSS : Hid ((⟨#[92]⟩ : ByteArray) ++ strOfNums [c] = strOfNums [92, c]) := by show _ = _; rw [show (⟨#[92]⟩ : ByteArray) = strOfNums [92] from rfl, str_append]; rfl
            generalize decide (m = true ∨ c = 92) = bb at *
            subst hD
            clear r
            go_wp2_with fail
            rw [conv_blk (b := wc.heap.size) (t := 5) ([c]) 1 1 rfl (show Blk (wc.alloc (.cells #[.int .u8 c] 5)) wc.heap.size 5 (([c]).map (Value.int .u8)).toArray from Blk.new wc 5 _)]
            simp only [Result.andThen]
            rw [Oper.upon_value]
            have hss := strOfNums_size ([c])
            simp only [List.length_cons, List.length_nil] at hss
            have hbb : Below wc.heap.size wc ((wc.alloc (.cells #[.int .u8 c] 5)).alloc (.cells #[.string ((⟨#[92]⟩ : ByteArray) ++ strOfNums ([c]))] 9)) := by go_grown
            have hown := Lib.hid (own_below hF.1 hbb)
            have hcl : ((wc.alloc (.cells #[.int .u8 c] 5)).alloc (.cells #[.string ((⟨#[92]⟩ : ByteArray) ++ strOfNums ([c]))] 9)).cell? ⟨wc.heap.size + 1, 0, none⟩ = some (.string ((⟨#[92]⟩ : ByteArray) ++ strOfNums ([c]))) := by simp [go_sem]
            have hnl := hF.2.2.2
            go_wp2_with (at_builtin; refine wpList_app9 rfl (.tmp 38) (.tmp 43) rfl (w.heap.size + 1) _ _ _ rfl hown.out (wc.heap.size + 1) ((⟨#[92]⟩ : ByteArray) ++ strOfNums ([c])) rfl hcl (by omega) (by simp; omega) ?_; intro v' w6 hown' hgrow hblk)

            go_meet
            rw [HF1.out]
            exact hF.app (z := [92, c]) hbb (by unfold strv; rw [← HSS.out]; exact hown') hgrow (by omega)
          · have hD : decide (m = true ∨ c = 92) = false := decide_eq_false r
            have HF1 : Hid (f2 m c = []) := by show _ = _; unfold f2; rw [if_neg r]
            generalize decide (m = true ∨ c = 92) = bb at *
            subst hD
            clear r
            go_wp2_with fail
            go_meet
            rw [HF1.out, List.append_nil]
            exact hF
        case rest =>
          have hF2 := hcut
          have hln2 : (f2 m c).length ≤ 1 := by unfold f2; split <;> simp
          have hz := hF2.2.1.lt
          clear hcut hF HM
          go_upto_region 6 with fail
          have hln3 : ∀ k, (f3 c k).length ≤ 3 := by
            intro k
            match k with
            | 0 => simp [f3]
            | 1 => simp only [f3]; split <;> simp
            | 2 => simp only [f3]; split <;> split <;> simp
            | k + 3 => simp only [f3]; split <;> split <;> split <;> simp
          have HL3 := Lib.hid hln3
          clear hln3
          go_wp2_with fail
          go_loopw [5, 47] (fun v i wx => ∃ k : Nat, k ≤ 3 ∧ i = .int .i64 k ∧ FR w S (f1 m c ++ f2 m c ++ f3 c k) v wx ∧ Blk wx wc.heap.size 9 #[.string ⟨#[110]⟩, .string ⟨#[114]⟩, .string ⟨#[116]⟩] ∧ v.ownBlock ≠ some wc.heap.size) (fun v i _ => 3 - (intOf i).toNat)
          case atStart => exact ⟨0, by omega, rfl, by have := hF2.still (w1 := wc.alloc (.cells #[.string ⟨#[110]⟩, .string ⟨#[114]⟩, .string ⟨#[116]⟩] 9)) (by go_grown); simpa [f3] using this, Blk.new _ _ _, fun e => by have := (hF2.1.lt _ e).2; omega⟩
          case round =>
            obtain ⟨k, hk, rfl, hF, hT, hnb⟩ := hrel
            have t0 := hT.cell 0
            have t1 := hT.cell 1
            have t2 := hT.cell 2
            have hz := hF.2.1.lt
            have hkk : k = 0 ∨ k = 1 ∨ k = 2 ∨ k = 3 := by omega
            rcases hkk with rfl | rfl | rfl | rfl
            · have hv0 : (((⟨#[10, 13, 9]⟩ : ByteArray)[0]'(by decide)).toNat : Int) = 10 := rfl
              by_cases e : c = 10
              · have be : (c == 10) = true := beq_iff_eq.2 e
                have HFK : Hid (f3 c 1 = f3 c 0 ++ [[92, 110]]) := by show _ = _; simp [f3, e]
                have hnl := hF.2.2.2
                have hln : (f1 m c ++ f2 m c ++ f3 c 0).length ≤ 8 := by have := HL3.out 0; simp only [List.length_append]; omega
                clear e
                have hbb : Below wr.heap.size wr (wr.alloc (.cells #[.string ((⟨#[92]⟩ : ByteArray) ++ ⟨#[110]⟩)] 9)) := by go_grown
                have hown := Lib.hid (own_below hF.1 hbb)
                have hcl : (wr.alloc (.cells #[.string ((⟨#[92]⟩ : ByteArray) ++ ⟨#[110]⟩)] 9)).cell? ⟨wr.heap.size, 0, none⟩ = some (.string ((⟨#[92]⟩ : ByteArray) ++ ⟨#[110]⟩)) := (Blk.new wr 9 #[.string ((⟨#[92]⟩ : ByteArray) ++ ⟨#[110]⟩)]).cell 0
                have HFF := Lib.hid hF
                have HTT := Lib.hid (hT.below hbb hT.lt)
                have htl := hT.lt
                clear hF hT
                have HAP := Lib.hid (show Value.string ((⟨#[92]⟩ : ByteArray) ++ ⟨#[110]⟩) = strv [92, 110] from rfl)
                go_wp2_with (at_builtin; refine wpList_app9 rfl (.tmp 56) (.tmp 59) rfl (w.heap.size + 1) _ _ _ rfl hown.out wr.heap.size ((⟨#[92]⟩ : ByteArray) ++ ⟨#[110]⟩) rfl hcl (by omega) (by simp; omega) ?_; intro v' w6 hown' hgrow hblk)
                rw [HAP.out] at hown'
                have hF6 := HFF.out.app (z := [92, 110]) hbb hown' hgrow hln
                have hT6 := HTT.out.grown hgrow (fun e => hnb e.symm)
                have hnb6 : v'.ownBlock ≠ some wc.heap.size := by rcases hblk with h | h; rw [h]; exact hnb; rw [h]; intro e; injection e with e; simp at e; omega
                rw [List.append_assoc (f1 m c ++ f2 m c), ← HFK.out] at hF6
                go_roundw
                case rel => exact ⟨1, by omega, by rfl, hF6, hT6, hnb6⟩
                case measure => simp [intOf]
              · have be : (c == 10) = false := beq_eq_false_iff_ne.2 e
                have HFK : Hid (f3 c 1 = f3 c 0) := by show _ = _; simp [f3, e]
                clear e
                go_wp2_with fail
                go_roundw
                case rel => exact ⟨1, by omega, by rfl, by rw [HFK.out]; exact hF, hT, hnb⟩
                case measure => simp [intOf]
            · have hv0 : (((⟨#[10, 13, 9]⟩ : ByteArray)[1]'(by decide)).toNat : Int) = 13 := rfl
              by_cases e : c = 13
              · have be : (c == 13) = true := beq_iff_eq.2 e
                have HFK : Hid (f3 c 2 = f3 c 1 ++ [[92, 114]]) := by show _ = _; simp [f3, e]
                have hnl := hF.2.2.2
                have hln : (f1 m c ++ f2 m c ++ f3 c 1).length ≤ 8 := by have := HL3.out 1; simp only [List.length_append]; omega
                clear e
                have hbb : Below wr.heap.size wr (wr.alloc (.cells #[.string ((⟨#[92]⟩ : ByteArray) ++ ⟨#[114]⟩)] 9)) := by go_grown
                have hown := Lib.hid (own_below hF.1 hbb)
                have hcl : (wr.alloc (.cells #[.string ((⟨#[92]⟩ : ByteArray) ++ ⟨#[114]⟩)] 9)).cell? ⟨wr.heap.size, 0, none⟩ = some (.string ((⟨#[92]⟩ : ByteArray) ++ ⟨#[114]⟩)) := (Blk.new wr 9 #[.string ((⟨#[92]⟩ : ByteArray) ++ ⟨#[114]⟩)]).cell 0
                have HFF := Lib.hid hF
                have HTT := Lib.hid (hT.below hbb hT.lt)
                have htl := hT.lt
                clear hF hT
                have HAP := Lib.hid (show Value.string ((⟨#[92]⟩ : ByteArray) ++ ⟨#[114]⟩) = strv [92, 114] from rfl)
                go_wp2_with (at_builtin; refine wpList_app9 rfl (.tmp 56) (.tmp 59) rfl (w.heap.size + 1) _ _ _ rfl hown.out wr.heap.size ((⟨#[92]⟩ : ByteArray) ++ ⟨#[114]⟩) rfl hcl (by omega) (by simp; omega) ?_; intro v' w6 hown' hgrow hblk)
                rw [HAP.out] at hown'
                have hF6 := HFF.out.app (z := [92, 114]) hbb hown' hgrow hln
                have hT6 := HTT.out.grown hgrow (fun e => hnb e.symm)
                have hnb6 : v'.ownBlock ≠ some wc.heap.size := by rcases hblk with h | h; rw [h]; exact hnb; rw [h]; intro e; injection e with e; simp at e; omega
                rw [List.append_assoc (f1 m c ++ f2 m c), ← HFK.out] at hF6
                go_roundw
                case rel => exact ⟨2, by omega, by rfl, hF6, hT6, hnb6⟩
                case measure => simp [intOf]
              · have be : (c == 13) = false := beq_eq_false_iff_ne.2 e
                have HFK : Hid (f3 c 2 = f3 c 1) := by show _ = _; simp [f3, e]
                clear e
                go_wp2_with fail
                go_roundw
                case rel => exact ⟨2, by omega, by rfl, by rw [HFK.out]; exact hF, hT, hnb⟩
                case measure => simp [intOf]
            · have hv0 : (((⟨#[10, 13, 9]⟩ : ByteArray)[2]'(by decide)).toNat : Int) = 9 := rfl
              by_cases e : c = 9
              · have be : (c == 9) = true := beq_iff_eq.2 e
                have HFK : Hid (f3 c 3 = f3 c 2 ++ [[92, 116]]) := by show _ = _; simp [f3, e]
                have hnl := hF.2.2.2
                have hln : (f1 m c ++ f2 m c ++ f3 c 2).length ≤ 8 := by have := HL3.out 2; simp only [List.length_append]; omega
                clear e
                have hbb : Below wr.heap.size wr (wr.alloc (.cells #[.string ((⟨#[92]⟩ : ByteArray) ++ ⟨#[116]⟩)] 9)) := by go_grown
                have hown := Lib.hid (own_below hF.1 hbb)
                have hcl : (wr.alloc (.cells #[.string ((⟨#[92]⟩ : ByteArray) ++ ⟨#[116]⟩)] 9)).cell? ⟨wr.heap.size, 0, none⟩ = some (.string ((⟨#[92]⟩ : ByteArray) ++ ⟨#[116]⟩)) := (Blk.new wr 9 #[.string ((⟨#[92]⟩ : ByteArray) ++ ⟨#[116]⟩)]).cell 0
                have HFF := Lib.hid hF
                have HTT := Lib.hid (hT.below hbb hT.lt)
                have htl := hT.lt
                clear hF hT
                have HAP := Lib.hid (show Value.string ((⟨#[92]⟩ : ByteArray) ++ ⟨#[116]⟩) = strv [92, 116] from rfl)
                go_wp2_with (at_builtin; refine wpList_app9 rfl (.tmp 56) (.tmp 59) rfl (w.heap.size + 1) _ _ _ rfl hown.out wr.heap.size ((⟨#[92]⟩ : ByteArray) ++ ⟨#[116]⟩) rfl hcl (by omega) (by simp; omega) ?_; intro v' w6 hown' hgrow hblk)
                rw [HAP.out] at hown'
                have hF6 := HFF.out.app (z := [92, 116]) hbb hown' hgrow hln
                have hT6 := HTT.out.grown hgrow (fun e => hnb e.symm)
                have hnb6 : v'.ownBlock ≠ some wc.heap.size := by rcases hblk with h | h; rw [h]; exact hnb; rw [h]; intro e; injection e with e; simp at e; omega
                rw [List.append_assoc (f1 m c ++ f2 m c), ← HFK.out] at hF6
                go_roundw
                case rel => exact ⟨3, by omega, by rfl, hF6, hT6, hnb6⟩
                case measure => simp [intOf]
              · have be : (c == 9) = false := beq_eq_false_iff_ne.2 e
                have HFK : Hid (f3 c 3 = f3 c 2) := by show _ = _; simp [f3, e]
                clear e
                go_wp2_with fail
                go_roundw
                case rel => exact ⟨3, by omega, by rfl, by rw [HFK.out]; exact hF, hT, hnb⟩
                case measure => simp [intOf]
            · clear t0 t1 t2 hT hnb
              have hF3 : FR w S (fp m c 0) u5 wr := by unfold fp; simpa [f4] using hF
              clear hF HL3 hF2 hln1 hln2
              have HL1 := Lib.hid (fun w => hex_low (c / 16) (by omega) (by omega) w)
              have HL2 := Lib.hid (fun w => hex_low (c % 16) (by omega) (by omega) w)
              have HU1 := Lib.hid (fun w => hex_up (c / 16) (by omega) (by omega) w)
              have HU2 := Lib.hid (fun w => hex_up (c % 16) (by omega) (by omega) w)
              go_wp2_with fail
              go_loopw [5, 8] (fun v i wx => ∃ k : Nat, k ≤ 4 ∧ i = .int .i64 k ∧ FR w S (fp m c k) v wx) (fun v i _ => 4 - (intOf i).toNat)
              case atStart => exact ⟨0, by omega, rfl, hF3⟩
              case round =>
                clear hF3
                obtain ⟨k, hk, rfl, hF⟩ := hrel
                have hz := hF.2.1.lt
                have hkk : k = 0 ∨ k = 1 ∨ k = 2 ∨ k = 3 ∨ k = 4 := by omega
                rcases hkk with rfl | rfl | rfl | rfl | rfl
                · have HAP : Hid (Value.string ((⟨#[92, 120]⟩ : ByteArray) ++ strOfNums ([hexd (c / 16), hexd (c % 16)])) = strv (hx c 0)) := by
                    show _ = _
                    rw [show (⟨#[92, 120]⟩ : ByteArray) = strOfNums [92, 120] from rfl, str_append]
                    rfl
                  have hln := fp_len m c 0
                  have hnl := hF.2.2.2
                  go_wp2_with fail
                  refine (HL1.out _).mono ?_
                  rintro e w5 ⟨rfl, rfl⟩
                  go_wp2_with fail
                  refine (HL2.out _).mono ?_
                  rintro e w5 ⟨rfl, rfl⟩
                  go_wp2_with fail
                  rw [conv_blk (b := wr.heap.size) (t := 5) ([hexd (c / 16), hexd (c % 16)]) 2 2 rfl (show Blk (wr.alloc (.cells #[.int .u8 (hexd (c / 16)), .int .u8 (hexd (c % 16))] 5)) wr.heap.size 5 (([hexd (c / 16), hexd (c % 16)]).map (Value.int .u8)).toArray from Blk.new wr 5 _)]
                  simp only [Result.andThen]
                  rw [Oper.upon_value]
                  have hss := strOfNums_size ([hexd (c / 16), hexd (c % 16)])
                  simp only [List.length_cons, List.length_nil] at hss
                  have hbb : Below wr.heap.size wr ((wr.alloc (.cells #[.int .u8 (hexd (c / 16)), .int .u8 (hexd (c % 16))] 5)).alloc (.cells #[.string ((⟨#[92, 120]⟩ : ByteArray) ++ strOfNums ([hexd (c / 16), hexd (c % 16)]))] 9)) := by go_grown
                  have hown := Lib.hid (own_below hF.1 hbb)
                  have hcl : ((wr.alloc (.cells #[.int .u8 (hexd (c / 16)), .int .u8 (hexd (c % 16))] 5)).alloc (.cells #[.string ((⟨#[92, 120]⟩ : ByteArray) ++ strOfNums ([hexd (c / 16), hexd (c % 16)]))] 9)).cell? ⟨wr.heap.size + 1, 0, none⟩ = some (.string ((⟨#[92, 120]⟩ : ByteArray) ++ strOfNums ([hexd (c / 16), hexd (c % 16)]))) := by
                    have := (Blk.new (wr.alloc (.cells #[.int .u8 (hexd (c / 16)), .int .u8 (hexd (c % 16))] 5)) 9 #[.string ((⟨#[92, 120]⟩ : ByteArray) ++ strOfNums ([hexd (c / 16), hexd (c % 16)]))]).cell 0
                    rw [World.size_alloc] at this
                    exact this
                  have HFF := Lib.hid hF
                  clear hF
                  go_wp2_with (at_builtin; refine wpList_app9 rfl (.tmp 66) (.tmp 84) rfl (w.heap.size + 1) _ _ _ rfl hown.out (wr.heap.size + 1) ((⟨#[92, 120]⟩ : ByteArray) ++ strOfNums ([hexd (c / 16), hexd (c % 16)])) rfl hcl (by omega) (by simp; omega) ?_; intro v' w6 hown' hgrow hblk)
                  rw [HAP.out] at hown'
                  have hF6 := HFF.out.app (z := hx c 0) hbb hown' hgrow (by omega)
                  rw [← fp_step] at hF6
                  go_roundw
                  case rel => (repeat apply Exists.intro); exact ⟨⟨1, by omega, by rfl, hF6⟩, rfl⟩
                  case measure => simp [intOf]
                · have HAP : Hid (Value.string ((⟨#[92, 120]⟩ : ByteArray) ++ strOfNums ([hexu (c / 16), hexd (c % 16)])) = strv (hx c 1)) := by
                    show _ = _
                    rw [show (⟨#[92, 120]⟩ : ByteArray) = strOfNums [92, 120] from rfl, str_append]
                    rfl
                  have hln := fp_len m c 1
                  have hnl := hF.2.2.2
                  go_wp2_with fail
                  refine (HU1.out _).mono ?_
                  rintro e w5 ⟨rfl, rfl⟩
                  go_wp2_with fail
                  refine (HL2.out _).mono ?_
                  rintro e w5 ⟨rfl, rfl⟩
                  go_wp2_with fail
                  rw [conv_blk (b := wr.heap.size) (t := 5) ([hexu (c / 16), hexd (c % 16)]) 2 2 rfl (show Blk (wr.alloc (.cells #[.int .u8 (hexu (c / 16)), .int .u8 (hexd (c % 16))] 5)) wr.heap.size 5 (([hexu (c / 16), hexd (c % 16)]).map (Value.int .u8)).toArray from Blk.new wr 5 _)]
                  simp only [Result.andThen]
                  rw [Oper.upon_value]
                  have hss := strOfNums_size ([hexu (c / 16), hexd (c % 16)])
                  simp only [List.length_cons, List.length_nil] at hss
                  have hbb : Below wr.heap.size wr ((wr.alloc (.cells #[.int .u8 (hexu (c / 16)), .int .u8 (hexd (c % 16))] 5)).alloc (.cells #[.string ((⟨#[92, 120]⟩ : ByteArray) ++ strOfNums ([hexu (c / 16), hexd (c % 16)]))] 9)) := by go_grown
                  have hown := Lib.hid (own_below hF.1 hbb)
                  have hcl : ((wr.alloc (.cells #[.int .u8 (hexu (c / 16)), .int .u8 (hexd (c % 16))] 5)).alloc (.cells #[.string ((⟨#[92, 120]⟩ : ByteArray) ++ strOfNums ([hexu (c / 16), hexd (c % 16)]))] 9)).cell? ⟨wr.heap.size + 1, 0, none⟩ = some (.string ((⟨#[92, 120]⟩ : ByteArray) ++ strOfNums ([hexu (c / 16), hexd (c % 16)]))) := by
                    have := (Blk.new (wr.alloc (.cells #[.int .u8 (hexu (c / 16)), .int .u8 (hexd (c % 16))] 5)) 9 #[.string ((⟨#[92, 120]⟩ : ByteArray) ++ strOfNums ([hexu (c / 16), hexd (c % 16)]))]).cell 0
                    rw [World.size_alloc] at this
                    exact this
                  have HFF := Lib.hid hF
                  clear hF
                  go_wp2_with (at_builtin; refine wpList_app9 rfl (.tmp 66) (.tmp 84) rfl (w.heap.size + 1) _ _ _ rfl hown.out (wr.heap.size + 1) ((⟨#[92, 120]⟩ : ByteArray) ++ strOfNums ([hexu (c / 16), hexd (c % 16)])) rfl hcl (by omega) (by simp; omega) ?_; intro v' w6 hown' hgrow hblk)
                  rw [HAP.out] at hown'
                  have hF6 := HFF.out.app (z := hx c 1) hbb hown' hgrow (by omega)
                  rw [← fp_step] at hF6
                  go_roundw
                  case rel => (repeat apply Exists.intro); exact ⟨⟨2, by omega, by rfl, hF6⟩, rfl⟩
                  case measure => simp [intOf]
                · have HAP : Hid (Value.string ((⟨#[92, 120]⟩ : ByteArray) ++ strOfNums ([hexd (c / 16), hexu (c % 16)])) = strv (hx c 2)) := by
                    show _ = _
                    rw [show (⟨#[92, 120]⟩ : ByteArray) = strOfNums [92, 120] from rfl, str_append]
                    rfl
                  have hln := fp_len m c 2
                  have hnl := hF.2.2.2
                  go_wp2_with fail
                  refine (HL1.out _).mono ?_
                  rintro e w5 ⟨rfl, rfl⟩
                  go_wp2_with fail
                  refine (HU2.out _).mono ?_
                  rintro e w5 ⟨rfl, rfl⟩
                  go_wp2_with fail
                  rw [conv_blk (b := wr.heap.size) (t := 5) ([hexd (c / 16), hexu (c % 16)]) 2 2 rfl (show Blk (wr.alloc (.cells #[.int .u8 (hexd (c / 16)), .int .u8 (hexu (c % 16))] 5)) wr.heap.size 5 (([hexd (c / 16), hexu (c % 16)]).map (Value.int .u8)).toArray from Blk.new wr 5 _)]
                  simp only [Result.andThen]
                  rw [Oper.upon_value]
                  have hss := strOfNums_size ([hexd (c / 16), hexu (c % 16)])
                  simp only [List.length_cons, List.length_nil] at hss
                  have hbb : Below wr.heap.size wr ((wr.alloc (.cells #[.int .u8 (hexd (c / 16)), .int .u8 (hexu (c % 16))] 5)).alloc (.cells #[.string ((⟨#[92, 120]⟩ : ByteArray) ++ strOfNums ([hexd (c / 16), hexu (c % 16)]))] 9)) := by go_grown
                  have hown := Lib.hid (own_below hF.1 hbb)
                  have hcl : ((wr.alloc (.cells #[.int .u8 (hexd (c / 16)), .int .u8 (hexu (c % 16))] 5)).alloc (.cells #[.string ((⟨#[92, 120]⟩ : ByteArray) ++ strOfNums ([hexd (c / 16), hexu (c % 16)]))] 9)).cell? ⟨wr.heap.size + 1, 0, none⟩ = some (.string ((⟨#[92, 120]⟩ : ByteArray) ++ strOfNums ([hexd (c / 16), hexu (c % 16)]))) := by
                    have := (Blk.new (wr.alloc (.cells #[.int .u8 (hexd (c / 16)), .int .u8 (hexu (c % 16))] 5)) 9 #[.string ((⟨#[92, 120]⟩ : ByteArray) ++ strOfNums ([hexd (c / 16), hexu (c % 16)]))]).cell 0
                    rw [World.size_alloc] at this
                    exact this
                  have HFF := Lib.hid hF
                  clear hF
                  go_wp2_with (at_builtin; refine wpList_app9 rfl (.tmp 66) (.tmp 84) rfl (w.heap.size + 1) _ _ _ rfl hown.out (wr.heap.size + 1) ((⟨#[92, 120]⟩ : ByteArray) ++ strOfNums ([hexd (c / 16), hexu (c % 16)])) rfl hcl (by omega) (by simp; omega) ?_; intro v' w6 hown' hgrow hblk)
                  rw [HAP.out] at hown'
                  have hF6 := HFF.out.app (z := hx c 2) hbb hown' hgrow (by omega)
                  rw [← fp_step] at hF6
                  go_roundw
                  case rel => (repeat apply Exists.intro); exact ⟨⟨3, by omega, by rfl, hF6⟩, rfl⟩
                  case measure => simp [intOf]
                · have HAP : Hid (Value.string ((⟨#[92, 120]⟩ : ByteArray) ++ strOfNums ([hexu (c / 16), hexu (c % 16)])) = strv (hx c 3)) := by
                    show _ = _
                    rw [show (⟨#[92, 120]⟩ : ByteArray) = strOfNums [92, 120] from rfl, str_append]
                    rfl
                  have hln := fp_len m c 3
                  have hnl := hF.2.2.2
                  go_wp2_with fail
                  refine (HU1.out _).mono ?_
                  rintro e w5 ⟨rfl, rfl⟩
                  go_wp2_with fail
                  refine (HU2.out _).mono ?_
                  rintro e w5 ⟨rfl, rfl⟩
                  go_wp2_with fail
                  rw [conv_blk (b := wr.heap.size) (t := 5) ([hexu (c / 16), hexu (c % 16)]) 2 2 rfl (show Blk (wr.alloc (.cells #[.int .u8 (hexu (c / 16)), .int .u8 (hexu (c % 16))] 5)) wr.heap.size 5 (([hexu (c / 16), hexu (c % 16)]).map (Value.int .u8)).toArray from Blk.new wr 5 _)]
                  simp only [Result.andThen]
                  rw [Oper.upon_value]
                  have hss := strOfNums_size ([hexu (c / 16), hexu (c % 16)])
                  simp only [List.length_cons, List.length_nil] at hss
                  have hbb : Below wr.heap.size wr ((wr.alloc (.cells #[.int .u8 (hexu (c / 16)), .int .u8 (hexu (c % 16))] 5)).alloc (.cells #[.string ((⟨#[92, 120]⟩ : ByteArray) ++ strOfNums ([hexu (c / 16), hexu (c % 16)]))] 9)) := by go_grown
                  have hown := Lib.hid (own_below hF.1 hbb)
                  have hcl : ((wr.alloc (.cells #[.int .u8 (hexu (c / 16)), .int .u8 (hexu (c % 16))] 5)).alloc (.cells #[.string ((⟨#[92, 120]⟩ : ByteArray) ++ strOfNums ([hexu (c / 16), hexu (c % 16)]))] 9)).cell? ⟨wr.heap.size + 1, 0, none⟩ = some (.string ((⟨#[92, 120]⟩ : ByteArray) ++ strOfNums ([hexu (c / 16), hexu (c % 16)]))) := by
                    have := (Blk.new (wr.alloc (.cells #[.int .u8 (hexu (c / 16)), .int .u8 (hexu (c % 16))] 5)) 9 #[.string ((⟨#[92, 120]⟩ : ByteArray) ++ strOfNums ([hexu (c / 16), hexu (c % 16)]))]).cell 0
                    rw [World.size_alloc] at this
                    exact this
                  have HFF := Lib.hid hF
                  clear hF
                  go_wp2_with (at_builtin; refine wpList_app9 rfl (.tmp 66) (.tmp 84) rfl (w.heap.size + 1) _ _ _ rfl hown.out (wr.heap.size + 1) ((⟨#[92, 120]⟩ : ByteArray) ++ strOfNums ([hexu (c / 16), hexu (c % 16)])) rfl hcl (by omega) (by simp; omega) ?_; intro v' w6 hown' hgrow hblk)
                  rw [HAP.out] at hown'
                  have hF6 := HFF.out.app (z := hx c 3) hbb hown' hgrow (by omega)
                  rw [← fp_step] at hF6
                  go_roundw
                  case rel => (repeat apply Exists.intro); exact ⟨⟨4, by omega, by rfl, hF6⟩, rfl⟩
                  case measure => simp [intOf]
                · obtain ⟨A, cp, hAc⟩ := own_form hF.1
                  subst hAc
                  go_wp2_with fail
                  go_ret
                  exact ⟨⟨A, cp, rfl, Reads.of_own hF.1⟩, hF.2.2.1⟩
end Go.Proofs.Ytdgihlelopfdeaa
