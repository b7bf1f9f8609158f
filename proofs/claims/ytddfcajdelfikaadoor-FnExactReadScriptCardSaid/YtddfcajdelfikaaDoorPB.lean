/- Plain laws: a step as a text. -/
import Derived.Test.YtddfcajdelfikaaDoorPA
import Derived.Test.YtddfcajdelfikaaDoorPA
set_option linter.unusedVariables false
set_option linter.unusedSimpArgs false
namespace Go.Proofs.YtddfcajdelfikaaDoor.Vm
open Go

def wordOf (k : Int) : List UInt8 :=
  if k = 1 then [99, 97, 108, 108] else if k = 2 then [100, 101, 108, 105, 118, 101, 114] else if k = 3 then [108, 111, 115, 101] else if k = 4 then [100, 111, 117, 98, 108, 101] else if k = 5 then [116, 105, 99, 107]
  else if k = 6 then [100, 111, 119, 110] else if k = 7 then [116, 111, 114, 110] else if k = 8 then [117, 112] else if k = 9 then [99, 97, 108, 109] else []
def stepWords (x : S_impl_Step) : List (List UInt8) :=
  if x.f_Kind = 1 then [wordOf 1, numText x.f_A] ++ callWords x.f_Call
  else if x.f_Kind = 5 then [wordOf 5]
  else if x.f_Kind = 7 then [wordOf 7, numText x.f_A, numText x.f_B] ++ x.f_Keep.map numText
  else [wordOf x.f_Kind, numText x.f_A]
/-- A step that has a text. -/
def stepOk (x : S_impl_Step) : Bool :=
  decide (1 ≤ x.f_Kind) && decide (x.f_Kind ≤ 9) && isNum x.f_A && isNum x.f_B && (if x.f_Kind = 1 then callOk x.f_Call else (x.f_Call.f_Kind == 0) && noAsk x.f_Call.f_Ask) &&
  (if x.f_Kind = 7 then x.f_Keep.all isNum else (x.f_B == 0) && x.f_Keep.isEmpty) && (if x.f_Kind = 5 then x.f_A == 0 else true)
def stepText (x : S_impl_Step) : List UInt8 := bif stepOk x then Lib.join (stepWords x) [32] else []

/-! ### loops -/

def keepG (t : List UInt8) (k : Int) : List UInt8 ⊕ (List UInt8 ⊕ List UInt8) := bif isNum k then .inl ((t ++ [32]) ++ numText k) else .inr (.inr [])
theorem keep_fold (l : List Int) (t : List UInt8) : foldE keepG (fun t => .inl t) t l = bif l.all isNum then .inl (t ++ Lib.joinTail [32] (l.map numText)) else .inr [] := by
  induction l generalizing t with
  | nil => simp [foldE, Lib.joinTail]
  | cons k l ih =>
    simp only [foldE, keepG, List.all_cons]
    cases isNum k with
    | false => rfl
    | true =>
      simp only [cond_true, ih, Bool.true_and, List.map_cons]
      congr 1
      simp [Lib.joinTail]
theorem joinTail_len (l : List Int) : (Lib.joinTail [32] (l.map numText)).length ≤ 14 * l.length := by
  induction l with
  | nil => simp [Lib.joinTail]
  | cons k l ih =>
    have := numText_len k
    simp [Lib.joinTail] at ih ⊢
    omega

theorem keep_loop (step : List UInt8 × Int → Option ((List UInt8 × Int) ⊕ (List UInt8 ⊕ List UInt8))) (l : List Int) (hl : l.length ≤ 1099511627776) (t : List UInt8) (ht : t.length ≤ 1099511627776)
    (hs : ∀ s, step s = (bif (decide (s.2 < (l.length : Int))) then ((at? l s.2).bind fun x28 => ((spec_l01Num x28).bind fun v30 => (bif (!v30) then (some (Sum.inr (Sum.inr []))) else (bif decide (s.1.length + ([32] : List UInt8).length ≤ 9223372036854775807) then ((spec_NumText x28).bind fun v34 => (bif decide ((s.1 ++ ([32] : List UInt8)).length + v34.length ≤ 9223372036854775807) then (some (Sum.inl (((s.1 ++ ([32] : List UInt8)) ++ v34), (IntKind.i64.wrap (s.2 + (1 : Int)))))) else none)) else none)))) else (some (Sum.inr (Sum.inl s.1))))) :
    loopC step (t, 0) = some (bif l.all isNum then .inl (t ++ Lib.joinTail [32] (l.map numText)) else .inr []) := by
  rw [← keep_fold]
  exact loopC_all (step := step) (fun (i : Nat) t => (t, (i : Int))) l 0 keepG (fun t => .inl t) (fun i t => t.length ≤ 1099511627776 + 14 * i) t (by omega) (fun i t hI hi => by
    have e : l.getD i 0 = l[i] := by rw [List.getD_eq_getElem?_getD, List.getElem?_eq_getElem hi, Option.getD_some]
    have hn := numText_len l[i]
    rw [e, hs]
    refine ⟨?_, fun t' ht => ?_⟩
    · simp only [decide_eq_true (show (i : Int) < l.length by omega), cond_true, at?_ok (xs := l) (i := (i : Int)) rfl hi, Option.bind_some, spec_l01Num_eq, spec_NumText_eq, keepG]
      cases isNum l[i] with
      | false => rfl
      | true =>
        simp only [Bool.not_true, cond_false, cond_true]
        rw [decide_eq_true (by simp; omega), cond_true, decide_eq_true (by simp; omega), cond_true, w64 (by omega) (by omega)]
        rfl
    · unfold keepG at ht
      cases hk : isNum l[i] <;> rw [hk] at ht
      · cases ht
      · obtain rfl := Sum.inl.inj ht
        simp
        omega) (fun i t hI hi => by
    subst hi
    rw [hs, decide_eq_false (by omega)]
    rfl)

theorem spec_StepText_l1_eq (x : S_impl_Step) (hl : x.f_Keep.length ≤ 1099511627776) (t : List UInt8) (ht : t.length ≤ 1099511627776) : loopC (spec_StepText_l1 x) (t, 0) = some (bif x.f_Keep.all isNum then .inl (t ++ Lib.joinTail [32] (x.f_Keep.map numText)) else .inr []) := keep_loop _ _ hl _ ht (fun _ => rfl)
theorem spec_StepText_l2_eq (x : S_impl_Step) (hl : x.f_Keep.length ≤ 1099511627776) (t : List UInt8) (ht : t.length ≤ 1099511627776) : loopC (spec_StepText_l2 x) (t, 0) = some (bif x.f_Keep.all isNum then .inl (t ++ Lib.joinTail [32] (x.f_Keep.map numText)) else .inr []) := keep_loop _ _ hl _ ht (fun _ => rfl)
theorem spec_StepText_l4_eq (x : S_impl_Step) (hl : x.f_Keep.length ≤ 1099511627776) (t : List UInt8) (ht : t.length ≤ 1099511627776) : loopC (spec_StepText_l4 x) (t, 0) = some (bif x.f_Keep.all isNum then .inl (t ++ Lib.joinTail [32] (x.f_Keep.map numText)) else .inr []) := keep_loop _ _ hl _ ht (fun _ => rfl)

theorem spec_at_word {k : Int} (h1 : 1 ≤ k) (h9 : k ≤ 9) : (spec_l14Words.bind fun v10 => at? v10 k) = some (wordOf k) := by
  have : k = 1 ∨ k = 2 ∨ k = 3 ∨ k = 4 ∨ k = 5 ∨ k = 6 ∨ k = 7 ∨ k = 8 ∨ k = 9 := by omega
  rcases this with rfl | rfl | rfl | rfl | rfl | rfl | rfl | rfl | rfl <;> rfl
theorem wordOf_len (k : Int) : (wordOf k).length ≤ 7 := by
  unfold wordOf
  repeat' split
  all_goals simp

end Go.Proofs.YtddfcajdelfikaaDoor.Vm

set_option linter.unusedVariables false
set_option linter.unusedSimpArgs false
namespace Go.Proofs.YtddfcajdelfikaaDoor.Vm
open Go

theorem spec_StepText_eq (x : S_impl_Step) (hl : x.f_Keep.length ≤ 1099511627776) : spec_StepText x = some (stepText x) := by
  unfold spec_StepText stepText
  simp only [spec_l01Num_eq, Option.bind_some]
  by_cases hk : x.f_Kind < 1 ∨ 9 < x.f_Kind
  · have e1 : (decide (x.f_Kind < 1) || decide ((9 : Int) < x.f_Kind)) = true := by simpa using hk
    have e2 : stepOk x = false := by
      have : (decide (1 ≤ x.f_Kind) && decide (x.f_Kind ≤ 9)) = false := by simp; omega
      simp only [stepOk, this, Bool.false_and]
    rw [e1, e2]; rfl
  have e1 : (decide (x.f_Kind < 1) || decide ((9 : Int) < x.f_Kind)) = false := by simp; omega
  have e2 : (decide (1 ≤ x.f_Kind) && decide (x.f_Kind ≤ 9)) = true := by simp; omega
  rw [e1, cond_false]
  cases hA : isNum x.f_A with
  | false =>
    have : stepOk x = false := by simp only [stepOk, hA, Bool.and_false, Bool.false_and]
    rw [this]; rfl
  | true =>
  cases hB : isNum x.f_B with
  | false =>
    have : stepOk x = false := by simp only [stepOk, hB, Bool.and_false, Bool.false_and]
    rw [this]; rfl
  | true =>
  have hok : stepOk x = ((if x.f_Kind = 1 then callOk x.f_Call else (x.f_Call.f_Kind == 0) && noAsk x.f_Call.f_Ask) && (if x.f_Kind = 7 then x.f_Keep.all isNum else (x.f_B == 0) && x.f_Keep.isEmpty) && (if x.f_Kind = 5 then x.f_A == 0 else true)) := by
    simp only [stepOk, e2, hA, hB, Bool.true_and]
  have hW := spec_at_word (k := x.f_Kind) (by omega) (by omega)
  have hw : ∀ {β : Type} (f : List UInt8 → Option β), (spec_l14Words.bind fun v10 => (at? v10 x.f_Kind).bind f) = f (wordOf x.f_Kind) := fun f => by
    rw [← Option.bind_assoc, hW, Option.bind_some]
  have lw := wordOf_len x.f_Kind
  have lA := numText_len x.f_A
  have lB := numText_len x.f_B
  have lK := joinTail_len x.f_Keep
  have lC := (callWords_bound x.f_Call).2
  have dt : ∀ {p : Prop} [Decidable p], p → decide p = true := fun h => decide_eq_true h
  simp only [Bool.not_true, cond_false, cond_true, Option.bind_some, hw, spec_NumText_eq, spec_l14Call_eq]
  have hna : ((x.f_Call.f_Ask.f_Kind == (0 : Int)) && ((x.f_Call.f_Ask.f_Key == ([] : List UInt8)) && ((x.f_Call.f_Ask.f_Val == ([] : List UInt8)) && ((x.f_Call.f_Ask.f_Range.f_Lo == ([] : List UInt8)) && ((x.f_Call.f_Ask.f_Range.f_Hi == ([] : List UInt8)) && ((x.f_Call.f_Ask.f_Most == (0 : Int)) && (x.f_Call.f_Ask.f_Back == false))))))) = noAsk x.f_Call.f_Ask := rfl
  rw [hna]
  have hke : decide ((0 : Int) < (x.f_Keep.length : Int)) = !x.f_Keep.isEmpty := by
    cases x.f_Keep with
    | nil => rfl
    | cons => simp
  rw [hke]
  by_cases h1 : x.f_Kind = 1
  · -- a call
    rw [hok, if_pos h1, if_neg (show ¬ x.f_Kind = 7 by omega), if_neg (show ¬ x.f_Kind = 5 by omega)]
    simp only [h1, show ((1 : Int) != 1) = false from rfl, show ((1 : Int) != 7) = true from rfl, show ((1 : Int) == 5) = false from rfl, show ((1 : Int) != 5) = true from rfl, show ((1 : Int) == 7) = false from rfl, show ((1 : Int) == 1) = true from rfl, Bool.false_and, Bool.false_or, Bool.true_and, Bool.or_false, cond_true, cond_false, Bool.and_true]
    rw [h1] at lw
    cases hb : (x.f_B != (0 : Int)) with
    | true =>
      rw [show (x.f_B == (0 : Int)) = false by simpa using hb, Bool.false_and, Bool.and_false]; rfl
    | false =>
      rw [show (x.f_B == (0 : Int)) = true by simpa using hb, Bool.true_and]
      cases he : x.f_Keep.isEmpty with
      | false => rw [Bool.and_false]; rfl
      | true =>
        have hke0 : x.f_Keep = [] := by simpa using he
        rw [Bool.and_true]
        simp only [Bool.not_true, Bool.or_false, cond_false]
        rw [dt (by simp; omega), cond_true, dt (by simp; omega), cond_true, spec_StepText_l2_eq x hl _ (by simp; omega), hke0]
        simp only [List.all_nil, cond_true, List.map_nil, Option.bind_some, early]
        cases hc : callOk x.f_Call with
        | false => rfl
        | true =>
          have hne : (Lib.join (callWords x.f_Call) [32] == ([] : List UInt8)) = false := by
            cases hcw : callWords x.f_Call with
            | nil =>
              exfalso
              revert hcw
              unfold callWords askWords
              repeat' split
              all_goals simp
            | cons y r =>
              have := callWords_ne hc y (by rw [hcw]; simp)
              rw [Lib.join_cons]
              cases y with
              | nil => exact absurd rfl this
              | cons => rfl
          simp only [cond_true, hne, cond_false]
          rw [dt (by simp [Lib.joinTail]; omega), cond_true, dt (by simp [Lib.joinTail]; omega), cond_true]
          simp only [stepWords, h1, if_true]
          cases hcw : callWords x.f_Call with
          | nil => rw [hcw] at hne; cases hne
          | cons y r =>
            show _ = some (Lib.join (wordOf 1 :: numText x.f_A :: y :: r) [32])
            rw [join_cons2, join_cons2]
            simp [Lib.joinTail]
  rw [hok, if_neg h1]
  rw [show (x.f_Kind != (1 : Int)) = true by simpa using h1, show (x.f_Kind == (1 : Int)) = false by simpa using h1]
  simp only [Bool.true_and, cond_false]
  have hcall : ((x.f_Call.f_Kind != (0 : Int)) || !noAsk x.f_Call.f_Ask) = !((x.f_Call.f_Kind == 0) && noAsk x.f_Call.f_Ask) := by
    cases h : (x.f_Call.f_Kind == (0 : Int)) <;> simp [bne, h]
  rw [hcall]
  cases hcc : ((x.f_Call.f_Kind == 0) && noAsk x.f_Call.f_Ask) with
  | false => rfl
  | true =>
  simp only [Bool.not_true, Bool.false_or, Bool.true_and]
  by_cases h7 : x.f_Kind = 7
  · simp only [h7, show ((7 : Int) != 7) = false from rfl, show ((7 : Int) == 5) = false from rfl, show ((7 : Int) != 5) = true from rfl, show ((7 : Int) == 7) = true from rfl, Bool.false_and, Bool.or_false, cond_true, cond_false, if_true, if_neg (show ¬ (7 : Int) = 5 by decide), Bool.and_true]
    rw [h7] at lw
    rw [dt (by simp; omega), cond_true, dt (by simp; omega), cond_true, dt (by simp; omega), cond_true, dt (by simp; omega), cond_true, spec_StepText_l1_eq x hl _ (by simp; omega)]
    cases x.f_Keep.all isNum with
    | false => rfl
    | true =>
      simp only [cond_true, Option.bind_some, early, stepWords, h7, if_neg (show ¬ (7 : Int) = 1 by decide), if_neg (show ¬ (7 : Int) = 5 by decide), if_true]
      show _ = some (Lib.join (wordOf 7 :: numText x.f_A :: numText x.f_B :: x.f_Keep.map numText) [32])
      rw [join_cons2, join_cons2, Lib.join_cons]
      simp
  rw [if_neg h7, show (x.f_Kind != (7 : Int)) = true by simpa using h7, show (x.f_Kind == (7 : Int)) = false by simpa using h7]
  simp only [Bool.true_and, cond_false]
  cases hb : (x.f_B != (0 : Int)) with
  | true => rw [show (x.f_B == (0 : Int)) = false by simpa using hb]; rfl
  | false =>
  rw [show (x.f_B == (0 : Int)) = true by simpa using hb, Bool.true_and]
  cases he : x.f_Keep.isEmpty with
  | false => rfl
  | true =>
  have hke0 : x.f_Keep = [] := by simpa using he
  simp only [Bool.not_true, Bool.or_false, Bool.false_or, Bool.true_and]
  by_cases h5 : x.f_Kind = 5
  · simp only [h5, show ((5 : Int) == 5) = true from rfl, show ((5 : Int) != 5) = false from rfl, Bool.true_and, if_true, cond_false]
    rw [h5] at lw
    cases ha : (x.f_A != (0 : Int)) with
    | true => rw [show (x.f_A == (0 : Int)) = false by simpa using ha]; rfl
    | false =>
      rw [show (x.f_A == (0 : Int)) = true by simpa using ha, cond_false, spec_StepText_l4_eq x hl _ (by omega), hke0]
      simp [early, stepWords, h5, Lib.join_one, Lib.joinTail]
  rw [if_neg h5, show (x.f_Kind != (5 : Int)) = true by simpa using h5, show (x.f_Kind == (5 : Int)) = false by simpa using h5]
  simp only [Bool.false_and, cond_false, cond_true]
  have L := spec_StepText_l2_eq x hl ((wordOf x.f_Kind ++ [32]) ++ numText x.f_A) (by simp; omega)
  rw [dt (by simp; omega), cond_true, dt (by simp; omega), cond_true, L, hke0]
  simp [early, stepWords, h1, h5, h7, join_two, Lib.joinTail]

end Go.Proofs.YtddfcajdelfikaaDoor.Vm

set_option linter.unusedVariables false
set_option linter.unusedSimpArgs false
namespace Go.Proofs.YtddfcajdelfikaaDoor.Vm
open Go

theorem impl_wordOf_eq (k : Int) : impl_wordOf k = some (if k = 1 then [] else wordOf k) := by
  by_cases h : 1 ≤ k ∧ k ≤ 9
  · have : k = 1 ∨ k = 2 ∨ k = 3 ∨ k = 4 ∨ k = 5 ∨ k = 6 ∨ k = 7 ∨ k = 8 ∨ k = 9 := by omega
    rcases this with rfl | rfl | rfl | rfl | rfl | rfl | rfl | rfl | rfl <;> rfl
  · have b : ∀ n : Int, k ≠ n → (k == n) = false := fun n h => by simpa using h
    unfold impl_wordOf wordOf
    rw [b 2 (by omega), b 3 (by omega), b 4 (by omega), b 5 (by omega), b 6 (by omega), b 7 (by omega), b 8 (by omega), b 9 (by omega), if_neg (by omega), if_neg (by omega), if_neg (by omega), if_neg (by omega), if_neg (by omega), if_neg (by omega), if_neg (by omega), if_neg (by omega), if_neg (by omega), if_neg (by omega)]
    rfl

/-- Is a word empty? -/
def emptyG (t : Unit) (w : List UInt8) : Unit ⊕ (Unit ⊕ List UInt8) := bif (w == ([] : List UInt8)) then .inr (.inr []) else .inl ()
theorem empty_fold (l : List (List UInt8)) : foldE emptyG (fun _ => .inl ()) () l = bif l.any (· == []) then .inr [] else .inl () := by
  induction l with
  | nil => rfl
  | cons w l ih =>
    simp only [foldE, emptyG, List.any_cons]
    cases (w == ([] : List UInt8)) with
    | true => rfl
    | false => simpa using ih
theorem empty_loop (step : Int → Option (Int ⊕ (Unit ⊕ List UInt8))) (l : List (List UInt8)) (hl : l.length ≤ 1099511627900)
    (hs : ∀ s, step s = (bif (decide (s < (l.length : Int))) then ((at? l s).bind fun x22 => (bif (x22 == ([] : List UInt8)) then (some (Sum.inr (Sum.inr []))) else (some (Sum.inl (IntKind.i64.wrap (s + (1 : Int))))))) else (some (Sum.inr (Sum.inl ()))))) :
    loopC step 0 = some (bif l.any (· == []) then .inr [] else .inl ()) := by
  rw [← empty_fold]
  exact loopC_all (step := step) (fun (i : Nat) (_ : Unit) => (i : Int)) l [] emptyG (fun t => .inl ()) (fun i t => True) () trivial (fun i t _ hi => by
    have e : l.getD i [] = l[i] := by rw [List.getD_eq_getElem?_getD, List.getElem?_eq_getElem hi, Option.getD_some]
    rw [e, hs]
    refine ⟨?_, fun t' ht => trivial⟩
    simp only [decide_eq_true (show (i : Int) < l.length by omega), cond_true, at?_ok (xs := l) (i := (i : Int)) rfl hi, Option.bind_some, emptyG]
    cases (l[i] == ([] : List UInt8)) with
    | true => rfl
    | false => rw [cond_false, cond_false, w64 (by omega) (by omega)]; rfl) (fun i t _ hi => by
    subst hi
    rw [hs, decide_eq_false (by omega)]
    rfl)

def numG (t : List (List UInt8)) (k : Int) : List (List UInt8) ⊕ List (List UInt8) := .inl (t ++ [numText k])
theorem num_fold (l : List Int) (t : List (List UInt8)) : foldE numG id t l = t ++ l.map numText := by
  induction l generalizing t with
  | nil => simp [foldE]
  | cons k l ih => simp [foldE, numG, ih]
theorem impl_StepText_l3_eq (x : S_impl_Step) (hl : x.f_Keep.length ≤ 1099511627776) (t : List (List UInt8)) (ht : t.length ≤ 3) : loopC (impl_StepText_l3 x) (0, t) = some (t ++ x.f_Keep.map numText) := by
  rw [← num_fold]
  exact loopC_all (step := impl_StepText_l3 x) (fun (i : Nat) t => ((i : Int), t)) x.f_Keep 0 numG id (fun i t => t.length ≤ 3 + i) t (by omega) (fun i t hI hi => by
    have e : x.f_Keep.getD i 0 = x.f_Keep[i] := by rw [List.getD_eq_getElem?_getD, List.getElem?_eq_getElem hi, Option.getD_some]
    rw [e]
    refine ⟨?_, fun t' ht => ?_⟩
    · simp only [impl_StepText_l3, decide_eq_true (show (i : Int) < x.f_Keep.length by omega), cond_true, at?_ok (xs := x.f_Keep) (i := (i : Int)) rfl hi, Option.bind_some, impl_NumText_eq]
      rw [room_ok (by simp; omega) (by simp; omega), cond_true, w64 (by omega) (by omega)]
      rfl
    · obtain rfl := Sum.inl.inj ht
      simp
      omega) (fun i t hI hi => by
    subst hi
    simp only [impl_StepText_l3, decide_eq_false (show ¬ (x.f_Keep.length : Int) < x.f_Keep.length by omega), cond_false]
    rfl)

theorem any_numText {l : List Int} : (l.map numText).any (· == []) = !l.all isNum := by
  induction l with
  | nil => rfl
  | cons k l ih =>
    rw [List.map_cons, List.any_cons, List.all_cons, ih]
    cases h : isNum k with
    | true =>
      have := numText_ne h
      rw [show (numText k == ([] : List UInt8)) = false by simpa using this]
      simp
    | false =>
      have : numText k = [] := by simp [numText, h]
      rw [this]
      rfl
theorem numText_emp (k : Int) : (numText k == ([] : List UInt8)) = !isNum k := by
  have := any_numText (l := [k])
  simpa using this
theorem wordOf_emp (k : Int) : (wordOf k == ([] : List UInt8)) = !(decide (1 ≤ k) && decide (k ≤ 9)) := by
  by_cases h : 1 ≤ k ∧ k ≤ 9
  · have : k = 1 ∨ k = 2 ∨ k = 3 ∨ k = 4 ∨ k = 5 ∨ k = 6 ∨ k = 7 ∨ k = 8 ∨ k = 9 := by omega
    rcases this with rfl | rfl | rfl | rfl | rfl | rfl | rfl | rfl | rfl <;> rfl
  · have e : (decide (1 ≤ k) && decide (k ≤ 9)) = false := by simp; omega
    rw [e]
    unfold wordOf
    rw [if_neg (by omega), if_neg (by omega), if_neg (by omega), if_neg (by omega), if_neg (by omega), if_neg (by omega), if_neg (by omega), if_neg (by omega), if_neg (by omega)]
    rfl
theorem Join_ok {l : List (List UInt8)} (h : l.length ≤ 140737488355328) (h2 : (Lib.join l [32]).length ≤ 140737488355328) : strings_Join l [32] = some (Lib.join l [32]) := by
  unfold strings_Join
  rw [decide_eq_true h, decide_eq_true h2]
  rfl

theorem impl_StepText_eq (x : S_impl_Step) (hl : x.f_Keep.length ≤ 1099511627776) : impl_StepText x = some (stepText x) := by
  unfold impl_StepText stepText
  rw [impl_wordOf_eq]
  have lw := wordOf_len x.f_Kind
  have lA := numText_len x.f_A
  have lB := numText_len x.f_B
  have lK := joinTail_len x.f_Keep
  have lC := callWords_bound x.f_Call
  have hna : ((x.f_Call.f_Ask.f_Kind == (0 : Int)) && ((x.f_Call.f_Ask.f_Key == ([] : List UInt8)) && ((x.f_Call.f_Ask.f_Val == ([] : List UInt8)) && ((x.f_Call.f_Ask.f_Range.f_Lo == ([] : List UInt8)) && ((x.f_Call.f_Ask.f_Range.f_Hi == ([] : List UInt8)) && ((x.f_Call.f_Ask.f_Most == (0 : Int)) && (x.f_Call.f_Ask.f_Back == false))))))) = noAsk x.f_Call.f_Ask := rfl
  have hke : decide ((0 : Int) < (x.f_Keep.length : Int)) = !x.f_Keep.isEmpty := by
    cases x.f_Keep with
    | nil => rfl
    | cons => simp
  simp only [Option.bind_some, impl_CallOk_eq, impl_NumText_eq, impl_callWords_eq, hna, hke]
  have hcz : callOk x.f_Call = true → ((x.f_Call.f_Kind == (0 : Int)) && noAsk x.f_Call.f_Ask) = false := fun h => by
    have : x.f_Call.f_Kind ≠ 0 := by rcases callOk_cases h with ⟨h, _⟩ | ⟨h, _⟩ <;> omega
    rw [show (x.f_Call.f_Kind == (0 : Int)) = false by simpa using this, Bool.false_and]
  by_cases h1 : x.f_Kind = 1
  · have hok : stepOk x = (isNum x.f_A && isNum x.f_B && callOk x.f_Call && ((x.f_B == 0) && x.f_Keep.isEmpty)) := by
      simp [stepOk, h1]
    rw [hok]
    simp only [h1, show ((1 : Int) == 1) = true from rfl, show ((1 : Int) != 7) = true from rfl, show ((1 : Int) == 5) = false from rfl, Bool.true_and, Bool.false_and, Bool.or_false, cond_true, if_true]
    cases hc : callOk x.f_Call with
    | false =>
      rw [Bool.and_false, Bool.false_and, cond_false]
      cases ((x.f_Call.f_Kind == (0 : Int)) && noAsk x.f_Call.f_Ask) <;> rfl
    | true =>
      rw [hcz hc]
      simp only [Bool.not_false, show (true == true) = true from rfl, Bool.not_true, cond_true, cond_false, Option.bind_some, Bool.and_true]
      cases hb : (x.f_B != (0 : Int)) with
      | true => rw [show (x.f_B == (0 : Int)) = false by simpa using hb, Bool.false_and, Bool.and_false]; rfl
      | false =>
        have hb0 : x.f_B = 0 := by simpa using hb
        rw [show (x.f_B == (0 : Int)) = true by simpa using hb, Bool.true_and, hb0, show isNum 0 = true from rfl, Bool.and_true]
        cases he : x.f_Keep.isEmpty with
        | false => rw [Bool.and_false]; rfl
        | true =>
          simp only [Bool.not_true, Bool.or_false, cond_false, Bool.and_true]
          rw [room_ok (by simp; omega) (by simp; omega), cond_true, empty_loop (impl_StepText_l1 (numText x.f_A) (callWords x.f_Call)) (app [[99, 97, 108, 108], numText x.f_A] (callWords x.f_Call)) (by rw [app_length]; simp; omega) (fun _ => rfl)]
          have ha : (app [[99, 97, 108, 108], numText x.f_A] (callWords x.f_Call)).any (· == []) = !isNum x.f_A := by
            unfold app
            rw [List.any_append]
            have : (callWords x.f_Call).any (· == []) = false := by
              rw [List.any_eq_false]
              intro w hw
              have := callWords_ne hc w hw
              simpa using this
            rw [this]
            simp only [List.any_cons, List.any_nil, numText_emp, show (([99, 97, 108, 108] : List UInt8) == []) = false from rfl, Bool.false_or, Bool.or_false]
          rw [ha]
          cases hA : isNum x.f_A with
          | false => rfl
          | true =>
            simp only [Bool.not_true, cond_false, cond_true, Option.bind_some, early]
            have e : app [[99, 97, 108, 108], numText x.f_A] (callWords x.f_Call) = stepWords x := by
              unfold stepWords
              rw [if_pos h1]
              rfl
            have hj : (Lib.join (stepWords x) [32]).length ≤ 140737488355328 := by
              unfold stepWords
              rw [if_pos h1]
              show (Lib.join (wordOf 1 :: numText x.f_A :: callWords x.f_Call) [32]).length ≤ _
              cases hcw : callWords x.f_Call with
              | nil => rw [join_two]; simp [wordOf]; omega
              | cons y r =>
                rw [hcw] at lC
                rw [join_cons2, join_cons2]
                simp [wordOf]
                omega
            rw [e, Join_ok (by unfold stepWords; rw [if_pos h1]; simp; omega) hj]
            rfl
  rw [if_neg h1, show (x.f_Kind == (1 : Int)) = false by simpa using h1]
  simp only [cond_false]
  have h0 : (!(!(false == !((x.f_Call.f_Kind == (0 : Int)) && noAsk x.f_Call.f_Ask)))) = ((x.f_Call.f_Kind == (0 : Int)) && noAsk x.f_Call.f_Ask) := by
    cases ((x.f_Call.f_Kind == (0 : Int)) && noAsk x.f_Call.f_Ask) <;> rfl
  rw [h0, wordOf_emp]
  cases hcc : ((x.f_Call.f_Kind == 0) && noAsk x.f_Call.f_Ask) with
  | false =>
    have : stepOk x = false := by simp only [stepOk, if_neg h1, hcc, Bool.and_false, Bool.false_and]
    rw [this]; rfl
  | true =>
  cases hk : (decide (1 ≤ x.f_Kind) && decide (x.f_Kind ≤ 9)) with
  | false =>
    have : stepOk x = false := by simp only [stepOk, hk, Bool.false_and]
    rw [this]; rfl
  | true =>
  have hok : stepOk x = (isNum x.f_A && isNum x.f_B && (if x.f_Kind = 7 then x.f_Keep.all isNum else (x.f_B == 0) && x.f_Keep.isEmpty) && (if x.f_Kind = 5 then x.f_A == 0 else true)) := by
    simp only [stepOk, hk, if_neg h1, hcc, Bool.true_and, Bool.and_true]
  rw [hok]
  simp only [Bool.not_true, cond_true, Option.bind_some, cond_false]
  have hwe : (wordOf x.f_Kind == ([] : List UInt8)) = false := by rw [wordOf_emp, hk]; rfl
  by_cases h7 : x.f_Kind = 7
  · simp only [h7, show ((7 : Int) != 7) = false from rfl, show ((7 : Int) == 5) = false from rfl, show ((7 : Int) == 7) = true from rfl, Bool.false_and, Bool.or_false, cond_true, cond_false, if_true, if_neg (show ¬ (7 : Int) = 5 by decide), Bool.and_true]
    rw [room_ok (by simp) (by simp), cond_true, impl_StepText_l3_eq x hl _ (by rw [app_length]; simp), Option.bind_some]
    have e : app [wordOf 7, numText x.f_A] [numText x.f_B] ++ x.f_Keep.map numText = stepWords x := by
      unfold stepWords
      rw [if_neg h1, if_neg (show ¬ x.f_Kind = 5 by omega), if_pos h7]
      rfl
    have hlen : (stepWords x).length = 3 + x.f_Keep.length := by rw [← e]; simp [app]; omega
    rw [e, empty_loop (impl_StepText_l4 (stepWords x)) (stepWords x) (by omega) (fun _ => rfl), Option.bind_some]
    have ha : (stepWords x).any (· == []) = !(isNum x.f_A && isNum x.f_B && x.f_Keep.all isNum) := by
      rw [← e]
      unfold app
      rw [List.any_append, any_numText]
      simp only [List.any_cons, List.any_nil, List.cons_append, List.nil_append, numText_emp, show (wordOf 7 == ([] : List UInt8)) = false from rfl, Bool.false_or, Bool.or_false]
      cases isNum x.f_A <;> cases isNum x.f_B <;> simp
    rw [ha]
    cases (isNum x.f_A && isNum x.f_B && x.f_Keep.all isNum) with
    | false => rfl
    | true =>
      simp only [Bool.not_true, cond_false, cond_true, early]
      have hj : (Lib.join (stepWords x) [32]).length ≤ 140737488355328 := by
        rw [← e]
        show (Lib.join (wordOf 7 :: numText x.f_A :: numText x.f_B :: x.f_Keep.map numText) [32]).length ≤ _
        rw [join_cons2, join_cons2, Lib.join_cons]
        simp [wordOf]
        omega
      rw [Join_ok (by omega) hj]
      rfl
  rw [if_neg h7, show (x.f_Kind != (7 : Int)) = true by simpa using h7, show (x.f_Kind == (7 : Int)) = false by simpa using h7]
  simp only [Bool.true_and, cond_false]
  cases hb : (x.f_B != (0 : Int)) with
  | true => rw [show (x.f_B == (0 : Int)) = false by simpa using hb]; simp
  | false =>
  have hb0 : x.f_B = 0 := by simpa using hb
  rw [hb0, show ((0 : Int) == 0) = true from rfl, show isNum 0 = true from rfl]
  cases he : x.f_Keep.isEmpty with
  | false => simp
  | true =>
  simp only [Bool.not_true, Bool.or_false, Bool.false_or, Bool.and_true, Bool.and_self]
  by_cases h5 : x.f_Kind = 5
  · simp only [h5, show ((5 : Int) == 5) = true from rfl, Bool.true_and, if_true, cond_true]
    cases ha : (x.f_A != (0 : Int)) with
    | true => rw [show (x.f_A == (0 : Int)) = false by simpa using ha, Bool.and_false]; rfl
    | false =>
      have ha0 : x.f_A = 0 := by simpa using ha
      rw [ha0, show ((0 : Int) == 0) = true from rfl, show isNum 0 = true from rfl]
      have L := empty_loop (impl_StepText_l2 (wordOf 5)) [wordOf 5] (by simp) (fun _ => rfl)
      simp only [cond_false, Bool.and_self, cond_true]
      rw [L]
      simp only [stepWords, h5, if_neg (show ¬ (5 : Int) = 1 by decide), if_true]
      rfl
  rw [if_neg h5, show (x.f_Kind == (5 : Int)) = false by simpa using h5]
  simp only [Bool.false_and, cond_false, Bool.and_true]
  have L := empty_loop (impl_StepText_l5 (wordOf x.f_Kind) (numText x.f_A)) [wordOf x.f_Kind, numText x.f_A] (by simp) (fun _ => rfl)
  rw [L]
  simp only [List.any_cons, hwe, numText_emp, List.any_nil, Bool.false_or, Bool.or_false]
  cases isNum x.f_A with
  | false => rfl
  | true =>
    simp only [Bool.not_true, cond_false, cond_true, Option.bind_some, early]
    rw [Join_ok (by simp) (by rw [join_two]; simp; omega)]
    simp [stepWords, h1, h5, h7]

end Go.Proofs.YtddfcajdelfikaaDoor.Vm

set_option linter.unusedVariables false
set_option linter.unusedSimpArgs false
namespace Go.Proofs.YtddfcajdelfikaaDoor.Vm
open Go

def noCall : S_impl_Call := S_impl_Call.mk (0 : Int) (S_impl_Ask.mk (0 : Int) [] [] (S_impl_Range.mk [] []) (0 : Int) false)
def kindOf (w : List UInt8) : Int :=
  if w = wordOf 1 then 1 else if w = wordOf 2 then 2 else if w = wordOf 3 then 3 else if w = wordOf 4 then 4 else if w = wordOf 5 then 5 else if w = wordOf 6 then 6 else if w = wordOf 7 then 7 else if w = wordOf 8 then 8 else if w = wordOf 9 then 9 else 0
def numAt (ws : List (List UInt8)) (i : Nat) : Int := (textNum (ws.getD i [])).1
def textAt (ws : List (List UInt8)) (i : Nat) : List UInt8 := (unq (ws.getD i [])).1
def nums (ws : List (List UInt8)) : List Int := ws.map fun w => (textNum w).1

theorem textNum_nil : textNum [] = (0, false) := rfl
theorem unq_nil : unq [] = ([], false) := unq_not (fun v hv e => by rw [quote_small hv] at e; cases e)

theorem spec_l14Num_eq (ws : List (List UInt8)) (i : Nat) : spec_l14Num ws i = some (numAt ws i) := by
  unfold spec_l14Num numAt
  by_cases h : ws.length ≤ i
  · rw [decide_eq_true (show (ws.length : Int) ≤ i by omega), cond_true, List.getD_eq_getElem?_getD, List.getElem?_eq_none h]
    rfl
  · have hi : i < ws.length := by omega
    rw [decide_eq_false (show ¬ (ws.length : Int) ≤ i by omega), cond_false, at?_ok (n := i) rfl hi, Option.bind_some, spec_TextNum_eq, List.getD_eq_getElem?_getD, List.getElem?_eq_getElem hi]
    rfl
theorem spec_l14Text_eq (ws : List (List UInt8)) (hb : ∀ w ∈ ws, w.length ≤ 1099511627776) (i : Nat) : spec_l14Text ws i = some (textAt ws i) := by
  unfold spec_l14Text textAt
  by_cases h : ws.length ≤ i
  · rw [decide_eq_true (show (ws.length : Int) ≤ i by omega), cond_true, List.getD_eq_getElem?_getD, List.getElem?_eq_none h, Option.getD_none, unq_nil]
  · have hi : i < ws.length := by omega
    rw [decide_eq_false (show ¬ (ws.length : Int) ≤ i by omega), cond_false, at?_ok (n := i) rfl hi, Option.bind_some, spec_Unquote_eq _ (hb _ (List.getElem_mem hi)), List.getD_eq_getElem?_getD, List.getElem?_eq_getElem hi]
    rfl

def readCall (ws : List (List UInt8)) : S_impl_Call :=
  let w := ws.getD 0 []
  if ws = [] then noCall
  else if w = [98, 101, 103, 105, 110] then ⟨1, noCall.f_Ask⟩
  else if w = [99, 111, 109, 109, 105, 116] then ⟨3, noCall.f_Ask⟩
  else if w = [97, 98, 111, 114, 116] then ⟨4, noCall.f_Ask⟩
  else if w = [103, 101, 116] then ⟨2, ⟨1, textAt ws 1, [], ⟨[], []⟩, 0, false⟩⟩
  else if w = [112, 117, 116] then ⟨2, ⟨2, textAt ws 1, textAt ws 2, ⟨[], []⟩, 0, false⟩⟩
  else if w = [100, 101, 108] then ⟨2, ⟨3, textAt ws 1, [], ⟨[], []⟩, 0, false⟩⟩
  else if w = [115, 99, 97, 110] then ⟨2, ⟨4, [], [], ⟨textAt ws 1, textAt ws 2⟩, numAt ws 3, false⟩⟩
  else if w = [98, 97, 99, 107] then ⟨2, ⟨4, [], [], ⟨textAt ws 1, textAt ws 2⟩, numAt ws 3, true⟩⟩
  else noCall
theorem cond_beq {α : Type} (x y : List UInt8) (a b : α) : (bif x == y then a else b) = if x = y then a else b := by
  by_cases h : x = y
  · subst h; simp
  · rw [if_neg h, show (x == y) = false by simpa using h]; rfl

theorem spec_l14ReadCall_eq (ws : List (List UInt8)) (hb : ∀ w ∈ ws, w.length ≤ 1099511627776) : spec_l14ReadCall ws = some (readCall ws) := by
  unfold spec_l14ReadCall readCall
  cases ws with
  | nil => rfl
  | cons w r =>
    have hz : (((w :: r).length : Int) == 0) = false := by simp; omega
    rw [hz, cond_false, show ((1 : Int)) = ((1 : Nat) : Int) from rfl, show ((2 : Int)) = ((2 : Nat) : Int) from rfl, show ((3 : Int)) = ((3 : Nat) : Int) from rfl, spec_l14Text_eq _ hb, spec_l14Text_eq _ hb, spec_l14Num_eq]
    rw [show at? (w :: r) (0 : Int) = some w from rfl]
    simp only [Option.bind_some, cond_beq, List.getD_cons_zero, if_neg (show ¬ (w :: r) = [] by simp)]
    by_cases h1 : w = [98, 101, 103, 105, 110]
    · rw [if_pos h1, if_pos h1]; rfl
    rw [if_neg h1, if_neg h1]
    by_cases h2 : w = [99, 111, 109, 109, 105, 116]
    · rw [if_pos h2, if_pos h2]; rfl
    rw [if_neg h2, if_neg h2]
    by_cases h3 : w = [97, 98, 111, 114, 116]
    · rw [if_pos h3, if_pos h3]; rfl
    rw [if_neg h3, if_neg h3]
    by_cases h4 : w = [103, 101, 116]
    · rw [if_pos h4, if_pos h4]
    rw [if_neg h4, if_neg h4]
    by_cases h5 : w = [112, 117, 116]
    · rw [if_pos h5, if_pos h5]
    rw [if_neg h5, if_neg h5]
    by_cases h6 : w = [100, 101, 108]
    · rw [if_pos h6, if_pos h6]
    rw [if_neg h6, if_neg h6]
    by_cases h7 : w = [115, 99, 97, 110]
    · rw [if_pos h7, if_pos h7, h7]; rfl
    rw [if_neg h7, if_neg h7]
    by_cases h8 : w = [98, 97, 99, 107]
    · rw [if_pos h8, if_pos h8, h8]; rfl
    rw [if_neg h8, if_neg h8]
    rfl

def textCall (ws : List (List UInt8)) : S_impl_Call :=
  match ws with
  | [w] => if w = [98, 101, 103, 105, 110] then ⟨1, noCall.f_Ask⟩ else if w = [99, 111, 109, 109, 105, 116] then ⟨3, noCall.f_Ask⟩ else if w = [97, 98, 111, 114, 116] then ⟨4, noCall.f_Ask⟩ else noCall
  | [w, a] => if w = [103, 101, 116] then ⟨2, ⟨1, (unq a).1, [], ⟨[], []⟩, 0, false⟩⟩ else if w = [100, 101, 108] then ⟨2, ⟨3, (unq a).1, [], ⟨[], []⟩, 0, false⟩⟩ else noCall
  | [w, a, b] => if w = [112, 117, 116] then ⟨2, ⟨2, (unq a).1, (unq b).1, ⟨[], []⟩, 0, false⟩⟩ else noCall
  | [w, a, b, c] => if w = [115, 99, 97, 110] then ⟨2, ⟨4, [], [], ⟨(unq a).1, (unq b).1⟩, (textNum c).1, false⟩⟩ else if w = [98, 97, 99, 107] then ⟨2, ⟨4, [], [], ⟨(unq a).1, (unq b).1⟩, (textNum c).1, true⟩⟩ else noCall
  | _ => noCall

theorem len_ne {n : Nat} {k : Int} (h : (n : Int) ≠ k) : ((n : Int) == k) = false := by simpa using h

theorem impl_textCall_eq (ws : List (List UInt8)) (hb : ∀ w ∈ ws, w.length ≤ 1099511627776) : impl_textCall ws = some (textCall ws) := by
  unfold impl_textCall
  match ws, hb with
  | [], _ => rfl
  | [w], _ =>
    simp only [List.length_singleton, show (((1 : Nat) : Int) == 1) = true from rfl, show (((1 : Nat) : Int) == 2) = false from rfl, show (((1 : Nat) : Int) == 3) = false from rfl, show (((1 : Nat) : Int) == 4) = false from rfl, cond_true, cond_false, show at? [w] (0 : Int) = some w from rfl, Option.bind_some, cond_beq, textCall]
    by_cases h1 : w = [98, 101, 103, 105, 110]
    · rw [if_pos h1, if_pos h1]; rfl
    rw [if_neg h1, if_neg h1]
    by_cases h2 : w = [99, 111, 109, 109, 105, 116]
    · rw [if_pos h2, if_pos h2]; rfl
    rw [if_neg h2, if_neg h2]
    by_cases h3 : w = [97, 98, 111, 114, 116]
    · rw [if_pos h3, if_pos h3]; rfl
    rw [if_neg h3, if_neg h3]
    rfl
  | [w, a], hb =>
    have ha := impl_quoted_eq a (hb a (by simp))
    simp only [List.length_cons, List.length_nil, show (((0 + 1 + 1 : Nat) : Int) == 1) = false from rfl, show (((0 + 1 + 1 : Nat) : Int) == 2) = true from rfl, show (((0 + 1 + 1 : Nat) : Int) == 3) = false from rfl, show (((0 + 1 + 1 : Nat) : Int) == 4) = false from rfl, cond_true, cond_false, show at? [w, a] (0 : Int) = some w from rfl, show at? [w, a] (1 : Int) = some a from rfl, ha, Option.bind_some, cond_beq, textCall]
    by_cases h1 : w = [103, 101, 116]
    · rw [if_pos h1, if_pos h1]
    rw [if_neg h1, if_neg h1]
    by_cases h2 : w = [100, 101, 108]
    · rw [if_pos h2, if_pos h2]
    rw [if_neg h2, if_neg h2]
    rfl
  | [w, a, b], hb =>
    have ha := impl_quoted_eq a (hb a (by simp))
    have hbb := impl_quoted_eq b (hb b (by simp))
    simp only [List.length_cons, List.length_nil, show (((0 + 1 + 1 + 1 : Nat) : Int) == 1) = false from rfl, show (((0 + 1 + 1 + 1 : Nat) : Int) == 2) = false from rfl, show (((0 + 1 + 1 + 1 : Nat) : Int) == 3) = true from rfl, show (((0 + 1 + 1 + 1 : Nat) : Int) == 4) = false from rfl, cond_true, cond_false, show at? [w, a, b] (0 : Int) = some w from rfl, show at? [w, a, b] (1 : Int) = some a from rfl, show at? [w, a, b] (2 : Int) = some b from rfl, ha, hbb, Option.bind_some, cond_beq, textCall]
    by_cases h1 : w = [112, 117, 116]
    · rw [if_pos h1, if_pos h1]
    rw [if_neg h1, if_neg h1]
    rfl
  | [w, a, b, c], hb =>
    have ha := impl_quoted_eq a (hb a (by simp))
    have hbb := impl_quoted_eq b (hb b (by simp))
    simp only [List.length_cons, List.length_nil, show (((0 + 1 + 1 + 1 + 1 : Nat) : Int) == 1) = false from rfl, show (((0 + 1 + 1 + 1 + 1 : Nat) : Int) == 2) = false from rfl, show (((0 + 1 + 1 + 1 + 1 : Nat) : Int) == 3) = false from rfl, show (((0 + 1 + 1 + 1 + 1 : Nat) : Int) == 4) = true from rfl, cond_true, cond_false, show at? [w, a, b, c] (0 : Int) = some w from rfl, show at? [w, a, b, c] (1 : Int) = some a from rfl, show at? [w, a, b, c] (2 : Int) = some b from rfl, show at? [w, a, b, c] (3 : Int) = some c from rfl, ha, hbb, impl_TextNum_eq, Option.bind_some, textCall]
    by_cases h1 : w = [115, 99, 97, 110]
    · rw [if_pos h1, h1]; rfl
    rw [if_neg h1, show (w == [115, 99, 97, 110]) = false by simpa using h1]
    by_cases h2 : w = [98, 97, 99, 107]
    · rw [if_pos h2, h2]; rfl
    rw [if_neg h2, show (w == [98, 97, 99, 107]) = false by simpa using h2]
    rfl
  | w :: a :: b :: c :: d :: r, _ =>
    have hl : ∀ k : Int, k ≤ 4 → (((w :: a :: b :: c :: d :: r).length : Int) == k) = false := fun k hk => len_ne (by simp; omega)
    rw [hl 1 (by omega), hl 2 (by omega), hl 3 (by omega), hl 4 (by omega)]
    rfl

/-- What the program tells, the reference tells too. -/
theorem textCall_read {ws : List (List UInt8)} (h : textCall ws ≠ noCall) : readCall ws = textCall ws := by
  match ws, h with
  | [], h => exact absurd rfl h
  | [w], h =>
    unfold textCall at h ⊢
    simp only at h ⊢
    split at h
    · rename_i e; subst e; rfl
    · split at h
      · rename_i e; subst e; rfl
      · split at h
        · rename_i e; subst e; rfl
        · exact absurd rfl h
  | [w, a], h =>
    unfold textCall at h ⊢
    simp only at h ⊢
    split at h
    · rename_i e; subst e; rfl
    · split at h
      · rename_i e; subst e; rfl
      · exact absurd rfl h
  | [w, a, b], h =>
    unfold textCall at h ⊢
    simp only at h ⊢
    split at h
    · rename_i e; subst e; rfl
    · exact absurd rfl h
  | [w, a, b, c], h =>
    unfold textCall at h ⊢
    simp only at h ⊢
    split at h
    · rename_i e; subst e; rfl
    · split at h
      · rename_i e; subst e; rfl
      · exact absurd rfl h
  | w :: a :: b :: c :: d :: r, h => exact absurd rfl h

theorem noCall_bad : callOk noCall = false := rfl
/-- What the reference tells of just as many words as it writes, the program tells too. -/
theorem read_textCall {ws : List (List UInt8)} (h : callOk (readCall ws) = true) (hl : ws.length = (callWords (readCall ws)).length) : textCall ws = readCall ws := by
  unfold readCall at h hl ⊢
  simp only at h hl ⊢
  split at h
  · cases h
  rename_i h0
  rw [if_neg h0] at hl ⊢
  obtain ⟨w, r, rfl⟩ : ∃ w r, ws = w :: r := by
    cases ws with
    | nil => exact absurd rfl h0
    | cons w r => exact ⟨w, r, rfl⟩
  simp only [List.getD_cons_zero] at h hl ⊢
  have one : ∀ {k}, (w :: r).length = 1 → k = w → r = [] := fun h _ => by simpa using h
  split at h
  · rename_i e; subst e; obtain rfl : r = [] := by simpa [callWords] using hl
    rfl
  rename_i h1
  rw [if_neg h1] at hl ⊢
  split at h
  · rename_i e; subst e; obtain rfl : r = [] := by simpa [callWords] using hl
    rfl
  rename_i h2
  rw [if_neg h2] at hl ⊢
  split at h
  · rename_i e; subst e; obtain rfl : r = [] := by simpa [callWords] using hl
    rfl
  rename_i h3
  rw [if_neg h3] at hl ⊢
  split at h
  · rename_i e; subst e
    have : r.length = 1 := by simpa [callWords, askWords] using hl
    match r, this with
    | [a], _ => rfl
  rename_i h4
  rw [if_neg h4] at hl ⊢
  split at h
  · rename_i e; subst e
    have : r.length = 2 := by simpa [callWords, askWords] using hl
    match r, this with
    | [a, b], _ => rfl
  rename_i h5
  rw [if_neg h5] at hl ⊢
  split at h
  · rename_i e; subst e
    have : r.length = 1 := by simpa [callWords, askWords] using hl
    match r, this with
    | [a], _ => rfl
  rename_i h6
  rw [if_neg h6] at hl ⊢
  split at h
  · rename_i e; subst e
    have : r.length = 3 := by simpa [callWords, askWords] using hl
    match r, this with
    | [a, b, c], _ => rfl
  rename_i h7
  rw [if_neg h7] at hl ⊢
  split at h
  · rename_i e; subst e
    have : r.length = 3 := by simpa [callWords, askWords] using hl
    match r, this with
    | [a, b, c], _ => rfl
  · cases h

end Go.Proofs.YtddfcajdelfikaaDoor.Vm

set_option linter.unusedVariables false
set_option linter.unusedSimpArgs false
namespace Go.Proofs.YtddfcajdelfikaaDoor.Vm
open Go

theorem digs_nosp (n : Nat) : (32 : UInt8) ∉ digs n := by
  induction n using digs.induct with
  | case1 n h =>
    rw [digs_lt h]
    have : ∀ k : Fin 10, (32 : UInt8) ∉ [UInt8.ofNat (48 + k.1)] := by decide
    exact this ⟨n, h⟩
  | case2 n h ih =>
    rw [digs_ge h]
    have : ∀ k : Fin 10, (32 : UInt8) ∉ [UInt8.ofNat (48 + k.1)] := by decide
    have h2 := this ⟨n % 10, Nat.mod_lt _ (by omega)⟩
    rw [List.mem_append]
    rintro (h3 | h3)
    · exact ih h3
    · exact h2 h3
theorem numText_nosp (n : Int) : (32 : UInt8) ∉ numText n := by
  unfold numText
  cases isNum n
  · simp
  · exact digs_nosp _
theorem quoteB_nosp (c : UInt8) : (32 : UInt8) ∉ quoteB c := by
  have h : ∀ n : Fin 256, (32 : UInt8) ∉ quoteB (UInt8.ofNat n.1) := by decide +kernel
  have := h ⟨c.toNat, c.toNat_lt⟩
  simpa only [UInt8.ofNat_toNat] using this
theorem quote_nosp (v : List UInt8) : (32 : UInt8) ∉ quote v := by
  unfold quote
  cases decide (4096 < v.length)
  · simp only [cond_false, List.mem_cons, List.mem_append, List.mem_flatMap, List.not_mem_nil, or_false]
    rintro (h | ⟨c, _, h⟩ | h)
    · revert h; decide
    · exact quoteB_nosp c h
    · revert h; decide
  · simp
theorem wordOf_nosp (k : Int) : (32 : UInt8) ∉ wordOf k := by
  unfold wordOf
  repeat' split
  all_goals decide
theorem callWords_nosp (x : S_impl_Call) : ∀ w ∈ callWords x, (32 : UInt8) ∉ w := by
  unfold callWords askWords
  have q := quote_nosp
  have n := numText_nosp x.f_Ask.f_Most
  repeat' split
  all_goals (try cases x.f_Ask.f_Back) <;> simp [q, n]
theorem stepWords_nosp (x : S_impl_Step) : ∀ w ∈ stepWords x, (32 : UInt8) ∉ w := by
  have n := numText_nosp
  have wo := wordOf_nosp
  unfold stepWords
  intro w hw
  split at hw
  · rcases List.mem_append.1 hw with h | h
    · simp at h; rcases h with rfl | rfl
      · exact wo _
      · exact n _
    · exact callWords_nosp _ _ h
  · split at hw
    · simp at hw; subst hw; exact wo _
    · split at hw
      · simp at hw
        rcases hw with rfl | rfl | rfl | ⟨k, _, rfl⟩
        · exact wo _
        · exact n _
        · exact n _
        · exact n _
      · simp at hw; rcases hw with rfl | rfl
        · exact wo _
        · exact n _

theorem count_join (x : List UInt8) (r : List (List UInt8)) (h : ∀ w ∈ x :: r, (32 : UInt8) ∉ w) : (Lib.join (x :: r) [32]).count 32 = r.length := by
  rw [Lib.join_cons, List.count_append, List.count_eq_zero_of_not_mem (h x (by simp)), Nat.zero_add]
  have h' : ∀ w ∈ r, (32 : UInt8) ∉ w := fun w hw => h w (by simp [hw])
  clear h
  have h := h'
  clear h'
  induction r with
  | nil => rfl
  | cons y r ih =>
    have e : Lib.joinTail [32] (y :: r) = [32] ++ y ++ Lib.joinTail [32] r := by simp [Lib.joinTail]
    rw [e, List.count_append, List.count_append, ih (fun w hw => h w (by simp [hw])), List.count_eq_zero_of_not_mem (h y (by simp))]
    simp
    omega

theorem stepText_words {x : S_impl_Step} {s : List UInt8} (h : stepText x = s) (hs : s ≠ []) : stepOk x = true ∧ (splitB 32 s).length = (stepWords x).length := by
  unfold stepText at h
  cases hk : stepOk x with
  | false => rw [hk] at h; exact absurd h.symm hs
  | true =>
    rw [hk, cond_true] at h
    refine ⟨rfl, ?_⟩
    rw [splitB_len, ← h]
    have hn := stepWords_nosp x
    cases hw : stepWords x with
    | nil =>
      exfalso
      revert hw
      unfold stepWords
      repeat' split
      all_goals simp
    | cons y r =>
      rw [hw] at hn
      rw [count_join y r hn, List.length_cons]

/-! ### what each reads -/

def readS (ws : List (List UInt8)) : S_impl_Step :=
  ⟨kindOf (ws.getD 0 []), numAt ws 1, if kindOf (ws.getD 0 []) = 7 then numAt ws 2 else 0, if kindOf (ws.getD 0 []) = 7 then nums (ws.drop 3) else [], if kindOf (ws.getD 0 []) = 1 ∧ 2 < ws.length then readCall (ws.drop 2) else noCall⟩
def readI (ws : List (List UInt8)) : S_impl_Step :=
  if kindOf (ws.getD 0 []) = 1 then (if 2 < ws.length then ⟨1, numAt ws 1, 0, [], textCall (ws.drop 2)⟩ else ⟨0, numAt ws 1, 0, [], noCall⟩)
  else ⟨kindOf (ws.getD 0 []), numAt ws 1, if kindOf (ws.getD 0 []) = 7 then numAt ws 2 else 0, if kindOf (ws.getD 0 []) = 7 then nums (ws.drop 3) else [], noCall⟩
def told (s : List UInt8) (x : S_impl_Step) : S_impl_Step × Bool :=
  bif (s == ([] : List UInt8)) || !(stepText x == s) then (⟨0, 0, 0, [], noCall⟩, false) else (x, true)

theorem told_same (s : List UInt8) : told s (readI (splitB 32 s)) = told s (readS (splitB 32 s)) := by
  unfold told
  by_cases hs : s = []
  · subst hs; rfl
  rw [show (s == ([] : List UInt8)) = false by simpa using hs]
  simp only [Bool.false_or]
  have key : stepText (readI (splitB 32 s)) = s ∨ stepText (readS (splitB 32 s)) = s → readI (splitB 32 s) = readS (splitB 32 s) := by
    generalize hws : splitB 32 s = ws
    unfold readI readS
    by_cases h1 : kindOf (ws.getD 0 []) = 1
    · rw [if_pos h1, h1]
      by_cases h2 : 2 < ws.length
      · simp only [if_pos h2, if_neg (show ¬ (1 : Int) = 7 by decide), h2, and_self, if_true]
        rintro (h | h)
        · have hok := (stepText_words h hs).1
          have hc : callOk (textCall (ws.drop 2)) = true := by
            simp [stepOk] at hok
            exact hok.2
          rw [textCall_read (fun e => by rw [e] at hc; cases hc)]
        · obtain ⟨hok, hl⟩ := stepText_words h hs
          have hc : callOk (readCall (ws.drop 2)) = true := by
            simp [stepOk] at hok
            exact hok.2
          rw [hws] at hl
          rw [read_textCall hc (by
            rw [List.length_drop, hl]
            simp [stepWords])]
      · simp only [if_neg h2, if_neg (show ¬ (1 : Int) = 7 by decide), if_neg (show ¬ ((1 : Int) = 1 ∧ 2 < ws.length) from fun h => h2 h.2)]
        rintro (h | h)
        · exact absurd h.symm hs
        · have hok := (stepText_words h hs).1
          simp [stepOk, h2, noCall_bad] at hok
    · rw [if_neg h1]
      intro _
      rw [if_neg (show ¬ (kindOf (ws.getD 0 []) = 1 ∧ 2 < ws.length) from fun h => h1 h.1)]
  by_cases h : stepText (readI (splitB 32 s)) = s ∨ stepText (readS (splitB 32 s)) = s
  · rw [key h]
  · have a1 : (stepText (readI (splitB 32 s)) == s) = false := by simp at h ⊢; exact h.1
    have a2 : (stepText (readS (splitB 32 s)) == s) = false := by simp at h ⊢; exact h.2
    rw [a1, a2]
    rfl

end Go.Proofs.YtddfcajdelfikaaDoor.Vm

set_option linter.unusedVariables false
set_option linter.unusedSimpArgs false
namespace Go.Proofs.YtddfcajdelfikaaDoor.Vm
open Go

theorem splitB_part (c : UInt8) (s : List UInt8) : ∀ w ∈ splitB c s, w.length ≤ s.length := by
  induction s with
  | nil => simp [splitB]
  | cons x r ih =>
    unfold splitB
    cases ((x.toNat : Int) == (c.toNat : Int)) with
    | true =>
      simp only [cond_true, List.mem_cons]
      rintro w (rfl | h)
      · simp
      · have := ih w h; simp; omega
    | false =>
      simp only [cond_false]
      cases hs : splitB c r with
      | nil => simp [joinHead]
      | cons q qs =>
        rw [hs] at ih
        simp only [joinHead, List.mem_cons]
        rintro w (rfl | h)
        · have := ih q (by simp); simp; omega
        · have := ih w (by simp [h]); simp; omega

/-! ### the kind -/

def kindG (t : Int × Int) (w0 x : List UInt8) : (Int × Int) ⊕ Int := .inl (t.1 + 1, bif x == w0 then t.1 else t.2)
def kindGS (w0 : List UInt8) (t : Int × Int) (x : List UInt8) : (Int × Int) ⊕ Int := .inl (t.1 + 1, bif (bif decide (0 < t.1) then x == w0 else false) then t.1 else t.2)
def words10 : List (List UInt8) := [[], wordOf 1, wordOf 2, wordOf 3, wordOf 4, wordOf 5, wordOf 6, wordOf 7, wordOf 8, wordOf 9]
def words8 : List (List UInt8) := [wordOf 2, wordOf 3, wordOf 4, wordOf 5, wordOf 6, wordOf 7, wordOf 8, wordOf 9]

theorem kind_cases (w0 : List UInt8) : (∃ k : Int, (1 ≤ k ∧ k ≤ 9) ∧ w0 = wordOf k) ∨ ∀ k : Int, 1 ≤ k → k ≤ 9 → (wordOf k == w0) = false ∧ w0 ≠ wordOf k := by
  by_cases h : ∃ k : Int, (1 ≤ k ∧ k ≤ 9) ∧ w0 = wordOf k
  · exact .inl h
  · refine .inr fun k h1 h2 => ?_
    have : w0 ≠ wordOf k := fun e => h ⟨k, ⟨h1, h2⟩, e⟩
    exact ⟨by simpa using Ne.symm this, this⟩
theorem kind_none {w0 : List UInt8} (h : ∀ k : Int, 1 ≤ k → k ≤ 9 → (wordOf k == w0) = false ∧ w0 ≠ wordOf k) : kindOf w0 = 0 := by
  unfold kindOf
  rw [if_neg (h 1 (by omega) (by omega)).2, if_neg (h 2 (by omega) (by omega)).2, if_neg (h 3 (by omega) (by omega)).2, if_neg (h 4 (by omega) (by omega)).2, if_neg (h 5 (by omega) (by omega)).2, if_neg (h 6 (by omega) (by omega)).2, if_neg (h 7 (by omega) (by omega)).2, if_neg (h 8 (by omega) (by omega)).2, if_neg (h 9 (by omega) (by omega)).2]
theorem kindS_eq (w0 : List UInt8) : foldE (kindGS w0) (fun t => t.2) (0, 0) words10 = kindOf w0 := by
  rcases kind_cases w0 with ⟨k, ⟨h1, h2⟩, rfl⟩ | h
  · have : k = 1 ∨ k = 2 ∨ k = 3 ∨ k = 4 ∨ k = 5 ∨ k = 6 ∨ k = 7 ∨ k = 8 ∨ k = 9 := by omega
    rcases this with rfl | rfl | rfl | rfl | rfl | rfl | rfl | rfl | rfl <;> decide +kernel
  · rw [kind_none h]
    have g : ∀ k : Int, 1 ≤ k → k ≤ 9 → (wordOf k == w0) = false := fun k h1 h2 => (h k h1 h2).1
    simp [foldE, kindGS, words10, g]
theorem kindI_eq (w0 : List UInt8) : foldE (fun t x => kindG t w0 x) (fun t => t.2) (2, 0) words8 = if kindOf w0 = 1 then 0 else kindOf w0 := by
  rcases kind_cases w0 with ⟨k, ⟨h1, h2⟩, rfl⟩ | h
  · have : k = 1 ∨ k = 2 ∨ k = 3 ∨ k = 4 ∨ k = 5 ∨ k = 6 ∨ k = 7 ∨ k = 8 ∨ k = 9 := by omega
    rcases this with rfl | rfl | rfl | rfl | rfl | rfl | rfl | rfl | rfl <;> decide +kernel
  · rw [kind_none h]
    have g : ∀ k : Int, 1 ≤ k → k ≤ 9 → (wordOf k == w0) = false := fun k h1 h2 => (h k h1 h2).1
    simp [foldE, kindG, words8, g]
theorem kindOf_call (w0 : List UInt8) : (w0 == ([99, 97, 108, 108] : List UInt8)) = decide (kindOf w0 = 1) := by
  by_cases h : w0 = [99, 97, 108, 108]
  · subst h; rfl
  · rw [show (w0 == ([99, 97, 108, 108] : List UInt8)) = false by simpa using h]
    symm
    rw [decide_eq_false_iff_not]
    unfold kindOf
    rw [if_neg (show ¬ w0 = wordOf 1 from h)]
    repeat' split
    all_goals omega

theorem spec_kind_loop (ws : List (List UInt8)) (hn : ws ≠ []) : loopC (spec_TextStep_l1 words10 ws) (0, 0) = some (kindOf (ws.getD 0 [])) := by
  rw [← kindS_eq]
  obtain ⟨w0, r, rfl⟩ : ∃ w r, ws = w :: r := by
    cases ws with
    | nil => exact absurd rfl hn
    | cons w r => exact ⟨w, r, rfl⟩
  exact loopC_all (step := spec_TextStep_l1 words10 (w0 :: r)) (fun (i : Nat) (t : Int × Int) => ((i : Int), t.2)) words10 [] (kindGS w0) (fun t => t.2) (fun i t => t.1 = i ∧ i ≤ 10) (0, 0) ⟨rfl, by omega⟩ (fun i t ⟨hI, h10⟩ hi => by
    have e : words10.getD i [] = words10[i] := by rw [List.getD_eq_getElem?_getD, List.getElem?_eq_getElem hi, Option.getD_some]
    have hi' : i < 10 := hi
    rw [e]
    refine ⟨?_, fun t' ht => ?_⟩
    · simp only [spec_TextStep_l1, decide_eq_true (show (i : Int) < (words10.length : Int) by exact Int.ofNat_lt.2 hi), cond_true, at?_ok (xs := words10) (i := (i : Int)) rfl hi, Option.bind_some, show at? (w0 :: r) (0 : Int) = some w0 from rfl, kindGS, hI]
      rw [w64 (by omega) (by omega)]
      cases decide ((0 : Int) < (i : Int)) with
      | true => simp only [cond_true, Option.bind_some]; cases (words10[i] == w0) <;> rfl
      | false => rfl
    · obtain rfl := Sum.inl.inj ht
      exact ⟨by show t.1 + 1 = _; omega, by omega⟩) (fun i t ⟨hI, h10⟩ hi => by
    subst hi
    rfl)
theorem impl_kind_loop (ws : List (List UInt8)) (hn : ws ≠ []) : loopC (impl_TextStep_l1 ws) (2, 0) = some (if kindOf (ws.getD 0 []) = 1 then 0 else kindOf (ws.getD 0 [])) := by
  rw [← kindI_eq]
  obtain ⟨w0, r, rfl⟩ : ∃ w r, ws = w :: r := by
    cases ws with
    | nil => exact absurd rfl hn
    | cons w r => exact ⟨w, r, rfl⟩
  exact loopC_all (step := impl_TextStep_l1 (w0 :: r)) (fun (i : Nat) (t : Int × Int) => ((i : Int) + 2, t.2)) words8 [] (fun t x => kindG t w0 x) (fun t => t.2) (fun i t => t.1 = i + 2 ∧ i ≤ 8) (2, 0) ⟨rfl, by omega⟩ (fun i t ⟨hI, h10⟩ hi => by
    have e : words8.getD i [] = wordOf ((i : Int) + 2) := by
      have hi' : i < 8 := hi
      have : i = 0 ∨ i = 1 ∨ i = 2 ∨ i = 3 ∨ i = 4 ∨ i = 5 ∨ i = 6 ∨ i = 7 := by omega
      rcases this with rfl | rfl | rfl | rfl | rfl | rfl | rfl | rfl <;> rfl
    have hi' : i < 8 := hi
    rw [e]
    refine ⟨?_, fun t' ht => ?_⟩
    · simp only [impl_TextStep_l1, decide_eq_true (show (i : Int) + 2 ≤ 9 by omega), cond_true, impl_wordOf_eq, if_neg (show ¬ (i : Int) + 2 = 1 by omega), Option.bind_some, show at? (w0 :: r) (0 : Int) = some w0 from rfl, kindG, hI]
      rw [w64 (by omega) (by omega)]
      cases (wordOf ((i : Int) + 2) == w0) <;> simp <;> omega
    · obtain rfl := Sum.inl.inj ht
      exact ⟨by show t.1 + 1 = _; omega, by omega⟩) (fun i t ⟨hI, h10⟩ hi => by
    subst hi
    rfl)

/-! ### the numbers -/

def numsG (t : List Int) (w : List UInt8) : List Int ⊕ List Int := .inl (t ++ [(textNum w).1])
theorem nums_fold (l : List (List UInt8)) (t : List Int) : foldE numsG id t l = t ++ nums l := by
  induction l generalizing t with
  | nil => simp [foldE, nums]
  | cons k l ih => simp [foldE, numsG, ih, nums]

theorem spec_nums_loop (step : Int × List Int → Option ((Int × List Int) ⊕ List Int)) (ws : List (List UInt8)) (hl : ws.length ≤ 1099511627776)
    (hs : ∀ s, step s = (bif (decide (s.1 < (ws.length : Int))) then ((spec_l14Num ws s.1).bind fun v34 => (bif room 8 s.2.length (([v34] : List Int).length) then (some (Sum.inl ((IntKind.i64.wrap (s.1 + (1 : Int))), (s.2 ++ [v34])))) else none)) else (some (Sum.inr s.2)))) :
    loopC step (3, []) = some (nums (ws.drop 3)) := by
  by_cases h3 : 3 ≤ ws.length
  · have L := loopC_each (step := step) (fun (i : Nat) t => ((i : Int), t)) ws [] numsG id (fun i t => t.length ≤ i) (fun i t hI hi => by
      refine ⟨?_, fun t' ht => ?_⟩
      · rw [hs]
        simp only [decide_eq_true (show (i : Int) < ws.length by omega), cond_true, spec_l14Num_eq, Option.bind_some]
        rw [room_ok (by simp; omega) (by simp; omega), cond_true, w64 (by omega) (by omega)]
        rfl
      · obtain rfl := Sum.inl.inj ht
        simp; omega) (fun i t hI hi => by
      subst hi
      rw [hs, decide_eq_false (by omega)]
      rfl) (ws.length - 3) 3 [] rfl h3 (by simp)
    rw [nums_fold, List.nil_append] at L
    exact L
  · rw [loopC_eq, hs, decide_eq_false (by show ¬ (3 : Int) < _; omega), drop_all (by omega)]
    rfl

theorem impl_nums_loop (step : Int × List Int → Option ((Int × List Int) ⊕ List Int)) (ws : List (List UInt8)) (hl : ws.length ≤ 1099511627776)
    (hs : ∀ s, step s = (bif (decide (s.1 < ((((ws.length : Int).toNat - (3 : Int).toNat) : Nat) : Int))) then ((at? (List.take ((ws.length : Int).toNat - (3 : Int).toNat) (List.drop ((3 : Int).toNat) ws)) s.1).bind fun x37 => ((impl_TextNum x37).bind fun v39 => (bif room 8 s.2.length (([v39.1] : List Int).length) then (some (Sum.inl ((IntKind.i64.wrap (s.1 + (1 : Int))), (s.2 ++ [v39.1])))) else none))) else (some (Sum.inr s.2)))) :
    loopC step (0, []) = some (nums (ws.drop 3)) := by
  have e1 : (((ws.length : Int).toNat - (3 : Int).toNat) : Nat) = (ws.drop 3).length := by simp
  have e2 : List.take ((ws.length : Int).toNat - (3 : Int).toNat) (List.drop ((3 : Int).toNat) ws) = ws.drop 3 := List.take_of_length_le (by simp)
  have hd : (ws.drop 3).length ≤ ws.length := by simp
  rw [e2] at hs
  simp only [e1] at hs
  have L := loopC_all (step := step) (fun (i : Nat) t => ((i : Int), t)) (ws.drop 3) [] numsG id (fun i t => t.length ≤ i) [] (by simp) (fun i t hI hi => by
    have e : (ws.drop 3).getD i [] = (ws.drop 3)[i] := by rw [List.getD_eq_getElem?_getD, List.getElem?_eq_getElem hi, Option.getD_some]
    rw [e]
    refine ⟨?_, fun t' ht => ?_⟩
    · rw [hs]
      simp only [decide_eq_true (show (i : Int) < (ws.drop 3).length by omega), cond_true, at?_ok (xs := ws.drop 3) (i := (i : Int)) rfl hi, impl_TextNum_eq, Option.bind_some]
      rw [room_ok (by simp; omega) (by simp; omega), cond_true, w64 (by omega) (by omega)]
      rfl
    · obtain rfl := Sum.inl.inj ht
      simp; omega) (fun i t hI hi => by
    subst hi
    rw [hs, decide_eq_false (by omega)]
    rfl)
  rw [nums_fold, List.nil_append] at L
  exact L

end Go.Proofs.YtddfcajdelfikaaDoor.Vm

set_option linter.unusedVariables false
set_option linter.unusedSimpArgs false
namespace Go.Proofs.YtddfcajdelfikaaDoor.Vm
open Go

theorem fin_told (s : List UInt8) (x : S_impl_Step) (f : Option (List UInt8)) (h : f = some (stepText x)) :
    Option.bind (bif (s == ([] : List UInt8)) then (some true) else (f.bind fun v => (some (!(v == s))))) (fun (v : Bool) => (bif v then (some ((S_impl_Step.mk (0 : Int) (0 : Int) (0 : Int) [] (S_impl_Call.mk (0 : Int) (S_impl_Ask.mk (0 : Int) [] [] (S_impl_Range.mk [] []) (0 : Int) false))), false)) else (some (x, true)))) = some (told s x) := by
  subst h
  unfold told noCall
  cases (s == ([] : List UInt8)) with
  | true => rfl
  | false =>
    simp only [cond_false, Option.bind_some, Bool.false_or]
    cases (stepText x == s) <;> rfl

theorem spec_TextStep_eq (s : List UInt8) (hs : s.length ≤ 1048576) : spec_TextStep s = some (told s (readS (splitB 32 s))) := by
  have hp := splitB_part 32 s
  have hne := splitB_ne 32 s
  have hlen := splitB_len 32 s
  have hcl : s.count 32 ≤ s.length := List.count_le_length
  unfold spec_TextStep
  rw [spec_l07Parts_eq s 32 (by omega), Option.bind_some]
  generalize splitB 32 s = ws at *
  rw [show spec_l14Words = some words10 from rfl, Option.bind_some, spec_kind_loop ws hne, Option.bind_some, show ((1 : Int)) = ((1 : Nat) : Int) from rfl, show (2 : Int) = ((2 : Nat) : Int) from rfl, spec_l14Num_eq, Option.bind_some, spec_l14Num_eq, spec_nums_loop (spec_TextStep_l2 ws) ws (by omega) (fun _ => rfl), spec_nums_loop (spec_TextStep_l3 ws) ws (by omega) (fun _ => rfl)]
  simp only [Option.bind_some]
  have hk : (nums (ws.drop 3)).length ≤ 1099511627776 := by simp [nums]; omega
  have hz : ([] : List Int).length ≤ 1099511627776 := by simp
  unfold readS
  by_cases h1 : kindOf (ws.getD 0 []) = 1
  · by_cases h2 : 2 < ws.length
    · rw [h1, show (((1 : Int) == ((1 : Nat) : Int)) && decide ((((2 : Nat) : Int)) < (ws.length : Int))) = true by simp; omega, cond_true, decide_eq_true (show (0 : Int) ≤ ((2 : Nat) : Int) by omega), decide_eq_true (show ((2 : Nat) : Int) ≤ (ws.length : Int) by omega), decide_eq_true (Int.le_refl _)]
      simp only [Bool.and_self, cond_true]
      have e2 : List.take ((ws.length : Int).toNat - (((2 : Nat) : Int)).toNat) (List.drop ((((2 : Nat) : Int)).toNat) ws) = ws.drop 2 := List.take_of_length_le (by simp)
      rw [e2, spec_l14ReadCall_eq _ (fun w hw => by have := hp w (List.mem_of_mem_drop hw); omega)]
      simp only [Option.bind_some, show ((1 : Int) == (7 : Int)) = false from rfl, cond_false, if_neg (show ¬ (1 : Int) = 7 by decide), h2, and_self, if_true]
      exact fin_told s _ _ (spec_StepText_eq _ hz)
    · rw [h1, show (((1 : Int) == ((1 : Nat) : Int)) && decide ((((2 : Nat) : Int)) < (ws.length : Int))) = false by simp; omega, cond_false]
      simp only [show ((1 : Int) == (7 : Int)) = false from rfl, cond_false, if_neg (show ¬ (1 : Int) = 7 by decide), if_neg (show ¬ (True ∧ 2 < ws.length) from fun h => h2 h.2)]
      exact fin_told s ⟨1, numAt ws 1, 0, [], noCall⟩ _ (spec_StepText_eq _ hz)
  · rw [show ((kindOf (ws.getD 0 []) == ((1 : Nat) : Int))) = false by simpa using h1, Bool.false_and, cond_false, if_neg (show ¬ (kindOf (ws.getD 0 []) = 1 ∧ 2 < ws.length) from fun h => h1 h.1)]
    by_cases h7 : kindOf (ws.getD 0 []) = 7
    · rw [if_pos h7, if_pos h7, h7, show ((7 : Int) == 7) = true from rfl, cond_true]
      exact fin_told s ⟨7, numAt ws 1, numAt ws 2, nums (ws.drop 3), noCall⟩ _ (spec_StepText_eq _ hk)
    · rw [if_neg h7, if_neg h7, show ((kindOf (ws.getD 0 []) == (7 : Int))) = false by simpa using h7, cond_false]
      exact fin_told s ⟨kindOf (ws.getD 0 []), numAt ws 1, 0, [], noCall⟩ _ (spec_StepText_eq _ hz)

theorem impl_TextStep_eq (s : List UInt8) (hs : s.length ≤ 1048576) : impl_TextStep s = some (told s (readI (splitB 32 s))) := by
  have hp := splitB_part 32 s
  have hne := splitB_ne 32 s
  have hlen := splitB_len 32 s
  have hcl : s.count 32 ≤ s.length := List.count_le_length
  unfold impl_TextStep
  rw [strings_Split_eq s 32 (by omega), Option.bind_some]
  generalize splitB 32 s = ws at *
  rw [impl_kind_loop ws hne, Option.bind_some, impl_nums_loop (impl_TextStep_l2 ws) ws (by omega) (fun _ => rfl), impl_nums_loop (impl_TextStep_l3 ws) ws (by omega) (fun _ => rfl), impl_nums_loop (impl_TextStep_l4 ws) ws (by omega) (fun _ => rfl), impl_nums_loop (impl_TextStep_l5 ws) ws (by omega) (fun _ => rfl)]
  have hk : (nums (ws.drop 3)).length ≤ 1099511627776 := by simp [nums]; omega
  have hz : ([] : List Int).length ≤ 1099511627776 := by simp
  have hg : ∀ i, i < ws.length → at? ws ((i : Nat) : Int) = some (ws.getD i []) := fun i hi => by
    rw [at?_ok (n := i) rfl hi, List.getD_eq_getElem?_getD, List.getElem?_eq_getElem hi]; rfl
  have hge : ∀ i, ws.length ≤ i → numAt ws i = 0 := fun i hi => by
    unfold numAt
    rw [List.getD_eq_getElem?_getD, List.getElem?_eq_none hi]; rfl
  have h0 : 0 < ws.length := by
    cases ws with
    | nil => exact absurd rfl hne
    | cons => simp
  have g0 : at? ws (0 : Int) = some (ws.getD 0 []) := hg 0 h0
  unfold readI
  rw [g0]
  simp only [Option.bind_some, kindOf_call]
  by_cases hl1 : 1 < ws.length
  · rw [decide_eq_true (show (1 : Int) < (ws.length : Int) by omega), cond_true, show at? ws (1 : Int) = some (ws.getD 1 []) from hg 1 hl1, Option.bind_some, impl_TextNum_eq, Option.bind_some, show (textNum (ws.getD 1 [])).1 = numAt ws 1 from rfl]
    by_cases h1 : kindOf (ws.getD 0 []) = 1
    · simp only [h1, if_true, decide_true, Bool.true_and]
      by_cases h2 : 2 < ws.length
      · rw [if_pos h2, decide_eq_true (show (2 : Int) < (ws.length : Int) by omega), cond_true, decide_eq_true (show (0 : Int) ≤ 2 by omega), decide_eq_true (show (2 : Int) ≤ (ws.length : Int) by omega), decide_eq_true (Int.le_refl _)]
        simp only [Bool.and_self, cond_true]
        have e2 : List.take ((ws.length : Int).toNat - ((2 : Int)).toNat) (List.drop (((2 : Int)).toNat) ws) = ws.drop 2 := List.take_of_length_le (by simp)
        rw [e2, impl_textCall_eq _ (fun w hw => by have := hp w (List.mem_of_mem_drop hw); omega)]
        simp only [Option.bind_some, show ((1 : Int) == (7 : Int)) = false from rfl, Bool.false_and, cond_false]
        exact fin_told s ⟨1, numAt ws 1, 0, [], textCall (ws.drop 2)⟩ _ (impl_StepText_eq _ hz)
      · rw [if_neg h2, decide_eq_false (show ¬ (2 : Int) < (ws.length : Int) by omega)]
        simp only [cond_false, show ((0 : Int) == (7 : Int)) = false from rfl, Bool.false_and]
        exact fin_told s ⟨0, numAt ws 1, 0, [], noCall⟩ _ (impl_StepText_eq _ hz)
    · rw [if_neg h1, if_neg h1, decide_eq_false h1, Bool.false_and, cond_false]
      by_cases h7 : kindOf (ws.getD 0 []) = 7
      · simp only [h7, if_true, show ((7 : Int) == (7 : Int)) = true from rfl, Bool.true_and]
        by_cases h2 : 2 < ws.length
        · rw [decide_eq_true (show (2 : Int) < (ws.length : Int) by omega), cond_true, show at? ws (2 : Int) = some (ws.getD 2 []) from hg 2 h2, Option.bind_some, impl_TextNum_eq, Option.bind_some, decide_eq_true (show (0 : Int) ≤ 3 by omega), decide_eq_true (show (3 : Int) ≤ (ws.length : Int) by omega), decide_eq_true (Int.le_refl _)]
          simp only [Bool.and_self, cond_true, Option.bind_some]
          exact fin_told s ⟨7, numAt ws 1, numAt ws 2, nums (ws.drop 3), noCall⟩ _ (impl_StepText_eq _ hk)
        · rw [decide_eq_false (show ¬ (2 : Int) < (ws.length : Int) by omega), cond_false, hge 2 (by omega), drop_all (by omega)]
          exact fin_told s ⟨7, numAt ws 1, 0, [], noCall⟩ _ (impl_StepText_eq _ hz)
      · rw [if_neg h7, if_neg h7, show ((kindOf (ws.getD 0 []) == (7 : Int))) = false by simpa using h7, Bool.false_and, cond_false]
        exact fin_told s ⟨kindOf (ws.getD 0 []), numAt ws 1, 0, [], noCall⟩ _ (impl_StepText_eq _ hz)
  · rw [decide_eq_false (show ¬ (1 : Int) < (ws.length : Int) by omega), cond_false, hge 1 (by omega), hge 2 (by omega), if_neg (show ¬ 2 < ws.length by omega), decide_eq_false (show ¬ (2 : Int) < (ws.length : Int) by omega)]
    simp only [Bool.and_false, cond_false]
    by_cases h1 : kindOf (ws.getD 0 []) = 1
    · rw [if_pos h1, if_pos h1]
      exact fin_told s ⟨0, 0, 0, [], noCall⟩ _ (impl_StepText_eq _ hz)
    · rw [if_neg h1, if_neg h1]
      have e : (if kindOf (ws.getD 0 []) = 7 then (0 : Int) else 0) = 0 := by split <;> rfl
      have e2 : (if kindOf (ws.getD 0 []) = 7 then nums (ws.drop 3) else []) = [] := by
        rw [drop_all (by omega)]
        split <;> rfl
      rw [e, e2]
      exact fin_told s ⟨kindOf (ws.getD 0 []), 0, 0, [], noCall⟩ _ (impl_StepText_eq _ hz)

theorem TextStep_same (s : List UInt8) (hs : s.length ≤ 1048576) : ∃ r, spec_TextStep s = some r ∧ impl_TextStep s = some r ∧ r.1.f_Keep.length ≤ 1048577 := by
  refine ⟨_, spec_TextStep_eq s hs, (impl_TextStep_eq s hs).trans (by rw [told_same]), ?_⟩
  have hlen := splitB_len 32 s
  have hcl : s.count 32 ≤ s.length := List.count_le_length
  unfold told
  cases ((s == ([] : List UInt8)) || !(stepText (readS (splitB 32 s)) == s)) with
  | true => simp
  | false =>
    simp only [cond_false, readS]
    split
    · simp [nums]; omega
    · simp

end Go.Proofs.YtddfcajdelfikaaDoor.Vm

set_option linter.unusedVariables false
set_option linter.unusedSimpArgs false
namespace Go.Proofs.YtddfcajdelfikaaDoor.Vm
open Go

theorem eqIntS_self (l : List Int) (hl : l.length ≤ 1099511627776) : laws_eqIntS l l = some true := by
  unfold laws_eqIntS
  have e : ((l.length : Int) != (l.length : Int)) = false := by simp
  rw [e, cond_false]
  have L := loopC_all (step := laws_eqIntS_l1 l l) (fun (i : Nat) (_ : Unit) => (i : Int)) l 0 (fun _ _ => .inl ()) (fun _ => .inl ()) (fun i t => True) () trivial (fun i t _ hi => by
    refine ⟨?_, fun _ _ => trivial⟩
    simp only [laws_eqIntS_l1, decide_eq_true (show (i : Int) < l.length by omega), cond_true, at?_ok (xs := l) (i := (i : Int)) rfl hi, Option.bind_some]
    rw [show (l[i] != l[i]) = false by simp, cond_false, w64 (by omega) (by omega)]
    rfl) (fun i t _ hi => by
    subst hi
    simp only [laws_eqIntS_l1, decide_eq_false (show ¬ (l.length : Int) < l.length by omega), cond_false])
  have e2 : ∀ l : List Int, foldE (fun (_ : Unit) (_ : Int) => (Sum.inl () : Unit ⊕ (Unit ⊕ Bool))) (fun _ => .inl ()) () l = .inl () := fun l => by
    induction l with
    | nil => rfl
    | cons k l ih => exact ih
  rw [e2] at L
  rw [show loopC (laws_eqIntS_l1 l l) (0 : Int) = _ from L]
  rfl

theorem eqStep_self (x : S_impl_Step) (hl : x.f_Keep.length ≤ 1099511627776) : laws_eqStep x x = some true := by
  unfold laws_eqStep laws_eqCall laws_eqAsk laws_eqRange
  rw [eqIntS_self _ hl]
  simp

/-- n, n+1, .. -/
def countUp (n : Int) : Nat → List Int
  | 0 => []
  | k + 1 => n :: countUp (n + 1) k
theorem countUp_len (n : Int) (k : Nat) : (countUp n k).length = k := by
  induction k generalizing n with
  | zero => rfl
  | succ k ih => simp [countUp, ih]
theorem countUp_succ (n : Int) (k : Nat) : countUp n (k + 1) = countUp n k ++ [n + k] := by
  induction k generalizing n with
  | zero => simp [countUp]
  | succ k ih =>
    rw [countUp, ih]
    simp [countUp]
    omega
theorem countUp_get (n : Int) (k i : Nat) (h : i < k) : (countUp n k)[i]? = some (n + i) := by
  induction k generalizing n i with
  | zero => omega
  | succ k ih =>
    cases i with
    | zero => simp [countUp]
    | succ i =>
      rw [countUp, List.getElem?_cons_succ, ih (n + 1) i (by omega)]
      congr 1
      omega

theorem markIntS_eq (l : List Int) (m : Int) (hm : 0 ≤ m ∧ m ≤ 1099511627776) (hl : l.length ≤ 1099511627776) : laws_markIntS l m = some (m + l.length, countUp m l.length) := by
  unfold laws_markIntS
  have L := loopC_rel (step := laws_markIntS_l1) (fun s => ∃ i : Nat, s.2.1 = i ∧ i ≤ l.length ∧ s.1 = m + i ∧ s.2.2.length = l.length ∧ s.2.2.take i = countUp m i) (fun s => l.length - s.2.1.toNat)
    (fun s r => r = (m + l.length, countUp m l.length)) (fun s ⟨i, hi, hle, h1, h2, h3⟩ => by
    obtain ⟨v, i', a, rfl⟩ : ∃ f i o, s = (f, i, o) := ⟨s.1, s.2.1, s.2.2, rfl⟩
    obtain rfl : i' = (i : Int) := hi
    have h2 : a.length = l.length := h2
    have h3 : a.take i = countUp m i := h3
    obtain rfl : v = m + i := h1
    simp only [laws_markIntS_l1]
    by_cases hlt : i < l.length
    · left
      rw [decide_eq_true (show (i : Int) < a.length by omega), cond_true, at?_ok (xs := a) (i := (i : Int)) rfl (by omega), Option.bind_some, w64 (by omega) (by omega), w64 (by omega) (by omega)]
      refine ⟨_, rfl, ⟨i + 1, rfl, by omega, by show m + i + 1 = _; omega, by show (a.set _ _).length = _; rw [List.length_set]; exact h2, ?_⟩, ?_, fun r hr => hr⟩
      · show (a.set i (m + i)).take (i + 1) = _
        rw [set_take (by omega), h3, countUp_succ]
      · show l.length - (i + 1) < l.length - i; omega
    · right
      obtain rfl : i = l.length := by omega
      rw [decide_eq_false (show ¬ ((l.length : Nat) : Int) < a.length by omega), cond_false]
      refine ⟨_, rfl, ?_⟩
      rw [← h3, ← h2, List.take_length]) (m, 0, l) ⟨0, rfl, by omega, by omega, rfl, rfl⟩
  obtain ⟨r, hr, rfl⟩ := L
  rw [hr]
  rfl

theorem heldIntS_eq (m : Int) (k : Nat) (hm : 0 ≤ m ∧ m ≤ 1099511627776) (hk : k ≤ 1099511627776) : laws_heldIntS (countUp m k) m = some (m + k) := by
  unfold laws_heldIntS
  have hl := countUp_len m k
  have L := loopC_rel (step := laws_heldIntS_l1 (countUp m k)) (fun s => ∃ i : Nat, s.2 = i ∧ i ≤ k ∧ s.1 = m + i) (fun s => k - s.2.toNat)
    (fun s r => r = .inl (m + k)) (fun s ⟨i, hi, hle, h1⟩ => by
    obtain ⟨v, i', rfl⟩ : ∃ f i, s = (f, i) := ⟨s.1, s.2, rfl⟩
    obtain rfl : i' = (i : Int) := hi
    obtain rfl : v = m + i := h1
    simp only [laws_heldIntS_l1]
    by_cases hlt : i < k
    · left
      have hg : (countUp m k)[i]'(by omega) = m + i := by
        have := countUp_get m k i hlt
        rw [List.getElem?_eq_getElem (by omega)] at this
        exact Option.some.inj this
      rw [decide_eq_true (show (i : Int) < (countUp m k).length by omega), cond_true, at?_ok (xs := countUp m k) (i := (i : Int)) rfl (by omega), Option.bind_some, hg, show (m + (i : Int) != m + (i : Int)) = false by simp, cond_false, w64 (by omega) (by omega), w64 (by omega) (by omega)]
      refine ⟨_, rfl, ⟨i + 1, rfl, by omega, by show m + i + 1 = _; omega⟩, ?_, fun r hr => hr⟩
      show k - (i + 1) < k - i; omega
    · right
      obtain rfl : i = k := by omega
      rw [decide_eq_false (show ¬ ((i : Nat) : Int) < (countUp m i).length by omega), cond_false]
      exact ⟨_, rfl, rfl⟩) (m, 0) ⟨0, rfl, by omega, by omega⟩
  obtain ⟨r, hr, rfl⟩ := L
  rw [hr]
  rfl

theorem law_FnExactTextStep (a : List UInt8) : laws_FnExactTextStep a = some true := by
  unfold laws_FnExactTextStep
  by_cases h : (1048576 : Int) < a.length
  · rw [decide_eq_true h]; rfl
  · rw [decide_eq_false h, cond_false]
    obtain ⟨r, h1, h2, hk⟩ := TextStep_same a (by omega)
    have hmark : laws_markStep r.1 1 = some (1 + (r.1.f_Keep.length : Int), ⟨r.1.f_Kind, r.1.f_A, r.1.f_B, countUp 1 r.1.f_Keep.length, r.1.f_Call⟩) := by
      unfold laws_markStep
      rw [markIntS_eq _ _ (by omega) (by omega)]
      rfl
    have hheld : laws_heldStep ⟨r.1.f_Kind, r.1.f_A, r.1.f_B, countUp 1 r.1.f_Keep.length, r.1.f_Call⟩ 1 = some (1 + (r.1.f_Keep.length : Int)) := by
      unfold laws_heldStep
      rw [heldIntS_eq _ _ (by omega) (by omega), Option.bind_some, decide_eq_false (by omega)]
      rfl
    have hneg : decide (1 + (r.1.f_Keep.length : Int) < 0) = false := decide_eq_false (by omega)
    rw [h1, h2, Option.bind_some, Option.bind_some, eqStep_self _ (by omega), Option.bind_some, hmark]
    simp [hheld, hneg, eqStep_self r.1 (by omega)]

end Go.Proofs.YtddfcajdelfikaaDoor.Vm
