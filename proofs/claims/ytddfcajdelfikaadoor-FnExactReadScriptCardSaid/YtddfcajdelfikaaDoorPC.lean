/- Plain laws: a script's steps: both functions tell the same. -/
import Derived.Test.YtddfcajdelfikaaDoorPB
import Derived.Test.YtddfcajdelfikaaDoorH1
set_option linter.unusedVariables false
set_option linter.unusedSimpArgs false
namespace Go.Proofs.YtddfcajdelfikaaDoor.Vm
open Go

def tstep (l : List UInt8) : S_impl_Step × Bool := told l (readS (splitB 32 l))
theorem spec_tstep (l : List UInt8) (h : l.length ≤ 1048576) : spec_TextStep l = some (tstep l) := spec_TextStep_eq l h
theorem impl_tstep (l : List UInt8) (h : l.length ≤ 1048576) : impl_TextStep l = some (tstep l) := (impl_TextStep_eq l h).trans (by rw [told_same]; rfl)
theorem tstep_keep (l : List UInt8) (h : l.length ≤ 8000) : (tstep l).1.f_Keep.length ≤ 8001 := by
  have hlen := splitB_len 32 l
  have hcl : l.count 32 ≤ l.length := List.count_le_length
  unfold tstep told
  cases ((l == ([] : List UInt8)) || !(stepText (readS (splitB 32 l)) == l)) with
  | true => simp
  | false =>
    simp only [cond_false, readS]
    split
    · simp [nums]; omega
    · simp

def linesB (s : List UInt8) : List (List UInt8) := bif ((splitB 10 s).getLastD [] == ([] : List UInt8)) then (splitB 10 s).dropLast else splitB 10 s
theorem last_at {ws : List (List UInt8)} (hn : ws ≠ []) (hl : ws.length ≤ 1099511627776) : at? ws (IntKind.i64.wrap ((ws.length : Int) - (1 : Int))) = some (ws.getLastD []) := by
  have h0 : 0 < ws.length := by cases ws with | nil => exact absurd rfl hn | cons => simp
  rw [w64 (by omega) (by omega), at?_ok (n := ws.length - 1) (by omega) (by omega), List.getLastD_eq_getLast?, List.getLast?_eq_getElem?, List.getElem?_eq_getElem (by omega)]
  rfl
theorem lines_of {ws : List (List UInt8)} (hn : ws ≠ []) (hl : ws.length ≤ 1099511627776) :
    ((at? ws (IntKind.i64.wrap ((ws.length : Int) - (1 : Int)))).bind fun x3 => (bif (x3 == ([] : List UInt8)) then (bif (decide ((0 : Int) ≤ (0 : Int)) && decide ((0 : Int) ≤ (IntKind.i64.wrap ((ws.length : Int) - (1 : Int)))) && decide ((IntKind.i64.wrap ((ws.length : Int) - (1 : Int))) ≤ (ws.length : Int))) then (some (List.take ((IntKind.i64.wrap ((ws.length : Int) - (1 : Int))).toNat) ws)) else none) else (some ws))) = some (bif (ws.getLastD [] == ([] : List UInt8)) then ws.dropLast else ws) := by
  have h0 : 0 < ws.length := by cases ws with | nil => exact absurd rfl hn | cons => simp
  rw [last_at hn hl, Option.bind_some, w64 (by omega) (by omega), decide_eq_true (Int.le_refl 0), decide_eq_true (show (0 : Int) ≤ (ws.length : Int) - 1 by omega), decide_eq_true (show (ws.length : Int) - 1 ≤ (ws.length : Int) by omega), show ((ws.length : Int) - 1).toNat = ws.length - 1 by omega, List.dropLast_eq_take]
  cases (ws.getLastD [] == ([] : List UInt8)) <;> rfl
theorem spec_l14Lines_eq (s : List UInt8) (hs : s.length ≤ 8000) : spec_l14Lines s = some (linesB s) := by
  have hlen := splitB_len 10 s
  have hcl : s.count 10 ≤ s.length := List.count_le_length
  unfold spec_l14Lines
  rw [spec_l07Parts_eq s 10 (by omega), Option.bind_some]
  exact lines_of (splitB_ne 10 s) (by omega)
theorem impl_linesOf_eq (s : List UInt8) (hs : s.length ≤ 8000) : impl_linesOf s = some (linesB s) := by
  have hlen := splitB_len 10 s
  have hcl : s.count 10 ≤ s.length := List.count_le_length
  unfold impl_linesOf
  rw [strings_Split_eq s 10 (by omega), Option.bind_some]
  exact lines_of (splitB_ne 10 s) (by omega)
theorem linesB_part (s : List UInt8) : ∀ w ∈ linesB s, w.length ≤ s.length := by
  intro w hw
  unfold linesB at hw
  cases h : ((splitB 10 s).getLastD [] == ([] : List UInt8)) <;> rw [h] at hw
  · exact splitB_part 10 s w hw
  · exact splitB_part 10 s w (List.dropLast_subset _ hw)
theorem linesB_len (s : List UInt8) : (linesB s).length ≤ s.length + 1 := by
  have hlen := splitB_len 10 s
  have hcl : s.count 10 ≤ s.length := List.count_le_length
  unfold linesB
  cases ((splitB 10 s).getLastD [] == ([] : List UInt8)) <;> simp <;> omega

def quiet (l : List UInt8) : Bool := bif (l == ([] : List UInt8)) then true else (((l.getD 0 0).toNat : Int) == 35)
theorem spec_l14Quiet_eq (l : List UInt8) : spec_l14Quiet l = some (quiet l) := by
  cases l with
  | nil => rfl
  | cons x r =>
    unfold spec_l14Quiet quiet
    rw [show ((x :: r) == ([] : List UInt8)) = false from rfl, inRange_ok (show (0 : Int) ≤ 0 by omega) (show (0 : Int) < ((x :: r).length : Int) by simp)]
    rfl
theorem impl_says_eq (l : List UInt8) : impl_says l = some (!quiet l) := by
  cases l with
  | nil => rfl
  | cons x r =>
    unfold impl_says quiet
    rw [show ((x :: r) == ([] : List UInt8)) = false from rfl, inRange_ok (show (0 : Int) ≤ 0 by omega) (show (0 : Int) < ((x :: r).length : Int) by simp)]
    rfl

def lineG (t : Int × List S_impl_Step) (l : List UInt8) : (Int × List S_impl_Step) ⊕ (List S_impl_Step ⊕ (List S_impl_Step × Int)) :=
  bif quiet l then .inl (t.1 + 1, t.2) else
    bif (!(tstep l).2) || ((t.2.length : Int) == 300) then .inr (.inr ([], t.1 + 1)) else .inl (t.1 + 1, t.2 ++ [(tstep l).1])
theorem lineG_inl {t : Int × List S_impl_Step} {l : List UInt8} {t' : Int × List S_impl_Step} (h : lineG t l = .inl t') (hl : t.2.length ≤ 300) : t'.1 = t.1 + 1 ∧ t'.2.length ≤ 300 ∧ (t'.2 = t.2 ∨ t'.2 = t.2 ++ [(tstep l).1]) := by
  unfold lineG at h
  cases hq : quiet l with
  | true => rw [hq] at h; obtain rfl := Sum.inl.inj h; exact ⟨rfl, hl, .inl rfl⟩
  | false =>
    rw [hq, cond_false] at h
    cases hb : (!(tstep l).2) || ((t.2.length : Int) == 300) with
    | true => rw [hb] at h; cases h
    | false =>
      rw [hb] at h
      obtain rfl := Sum.inl.inj h
      simp only [Bool.or_eq_false_iff, beq_eq_false_iff_ne] at hb
      exact ⟨rfl, by simp; omega, .inr rfl⟩

theorem spec_ReadScript_loop (ls : List (List UInt8)) (hb : ∀ w ∈ ls, w.length ≤ 8000) (hl : ls.length ≤ 8001) : loopC (spec_ReadScript_l1 ls) (0, []) = some (foldE lineG (fun t => .inl t.2) (0, []) ls) := by
  exact loopC_all (step := spec_ReadScript_l1 ls) (fun (i : Nat) t => ((i : Int), t.2)) ls [] lineG (fun t => .inl t.2) (fun i t => t.1 = i ∧ t.2.length ≤ 300) (0, []) ⟨rfl, by simp⟩ (fun i t ⟨hI, h3⟩ hi => by
    have e : ls.getD i [] = ls[i] := by rw [List.getD_eq_getElem?_getD, List.getElem?_eq_getElem hi, Option.getD_some]
    rw [e]
    refine ⟨?_, fun t' ht => ?_⟩
    · simp only [spec_ReadScript_l1, decide_eq_true (show (i : Int) < (ls.length : Int) by omega), cond_true, at?_ok (xs := ls) (i := (i : Int)) rfl hi, Option.bind_some, spec_l14Quiet_eq, lineG, hI]
      rw [spec_tstep _ (by have := hb _ (List.getElem_mem hi); omega), Option.bind_some, w64 (by omega) (by omega)]
      cases quiet ls[i] with
      | true => rfl
      | false =>
        simp only [cond_false]
        cases hc : (!(tstep ls[i]).2) || ((t.2.length : Int) == 300) with
        | true => rfl
        | false =>
          simp only [cond_false]
          rw [room_ok (by simp; omega) (by simp; omega)]
          rfl
    · obtain ⟨h1, h2, _⟩ := lineG_inl ht h3
      exact ⟨by omega, h2⟩) (fun i t ⟨hI, h3⟩ hi => by
    subst hi
    simp only [spec_ReadScript_l1, decide_eq_false (show ¬ (ls.length : Int) < (ls.length : Int) by omega), cond_false])
theorem impl_readLines_loop (ls : List (List UInt8)) (hb : ∀ w ∈ ls, w.length ≤ 8000) (hl : ls.length ≤ 8001) : loopC (impl_readLines_l1 ls (-1)) (0, []) = some (foldE lineG (fun t => .inl t.2) (0, []) ls) := by
  exact loopC_all (step := impl_readLines_l1 ls (-1)) (fun (i : Nat) t => ((i : Int), t.2)) ls [] lineG (fun t => .inl t.2) (fun i t => t.1 = i ∧ t.2.length ≤ 300) (0, []) ⟨rfl, by simp⟩ (fun i t ⟨hI, h3⟩ hi => by
    have e : ls.getD i [] = ls[i] := by rw [List.getD_eq_getElem?_getD, List.getElem?_eq_getElem hi, Option.getD_some]
    rw [e]
    refine ⟨?_, fun t' ht => ?_⟩
    · simp only [impl_readLines_l1, decide_eq_true (show (i : Int) < (ls.length : Int) by omega), cond_true, at?_ok (xs := ls) (i := (i : Int)) rfl hi, Option.bind_some, impl_says_eq, lineG, hI]
      rw [impl_tstep _ (by have := hb _ (List.getElem_mem hi); omega), Option.bind_some, w64 (by omega) (by omega), show ((i : Int) == -1) = false by simp]
      simp only [cond_false, Option.bind_some, Bool.not_not]
      cases quiet ls[i] with
      | true => rfl
      | false =>
        simp only [cond_false]
        cases hc : (!(tstep ls[i]).2) || ((t.2.length : Int) == 300) with
        | true => rfl
        | false =>
          simp only [cond_false]
          rw [room_ok (by simp; omega) (by simp; omega)]
          rfl
    · obtain ⟨h1, h2, _⟩ := lineG_inl ht h3
      exact ⟨by omega, h2⟩) (fun i t ⟨hI, h3⟩ hi => by
    subst hi
    simp only [impl_readLines_l1, decide_eq_false (show ¬ (ls.length : Int) < (ls.length : Int) by omega), cond_false])

theorem lines_small (ls : List (List UInt8)) (hb : ∀ w ∈ ls, w.length ≤ 8000) (t : Int × List S_impl_Step) (h : t.2.length ≤ 300 ∧ ∀ x ∈ t.2, x.f_Keep.length ≤ 8001) :
    match foldE lineG (fun t => .inl t.2) t ls with | .inl o => o.length ≤ 300 ∧ ∀ x ∈ o, x.f_Keep.length ≤ 8001 | .inr o => o.1 = [] := by
  induction ls generalizing t with
  | nil => exact h
  | cons l ls ih =>
    simp only [foldE]
    cases hg : lineG t l with
    | inl t' =>
      obtain ⟨h1, h2, h3⟩ := lineG_inl hg h.1
      refine ih (fun w hw => hb w (by simp [hw])) t' ⟨h2, ?_⟩
      rcases h3 with h3 | h3 <;> rw [h3]
      · exact h.2
      · intro x hx
        rcases List.mem_append.1 hx with hx | hx
        · exact h.2 x hx
        · obtain rfl : x = (tstep l).1 := by simpa using hx
          exact tstep_keep l (hb l (by simp))
    | inr o =>
      unfold lineG at hg
      cases hq : quiet l with
      | true => rw [hq] at hg; cases hg
      | false =>
        rw [hq, cond_false] at hg
        cases hc : (!(tstep l).2) || ((t.2.length : Int) == 300) with
        | true => rw [hc] at hg; obtain rfl := Sum.inr.inj hg; rfl
        | false => rw [hc] at hg; cases hg

theorem ReadScript_same (s : List UInt8) : ∃ r, spec_ReadScript s = some r ∧ impl_ReadScript s = some r ∧ r.1.length ≤ 300 ∧ ∀ x ∈ r.1, x.f_Keep.length ≤ 8001 := by
  unfold spec_ReadScript impl_ReadScript impl_readLines
  by_cases h : (8000 : Int) < s.length
  · rw [decide_eq_true h]
    exact ⟨([], 1), rfl, rfl, by simp, by simp⟩
  · rw [decide_eq_false h]
    have hp : ∀ w ∈ linesB s, w.length ≤ 8000 := fun w hw => by have := linesB_part s w hw; omega
    have hl := linesB_len s
    have hsm := lines_small (linesB s) hp (0, []) ⟨by simp, by simp⟩
    simp only [cond_false, spec_l14Lines_eq s (by omega), impl_linesOf_eq s (by omega), Option.bind_some]
    rw [spec_ReadScript_loop _ hp (by omega), impl_readLines_loop _ hp (by omega)]
    cases hf : foldE lineG (fun t => .inl t.2) (0, []) (linesB s) with
    | inl o =>
      rw [hf] at hsm
      exact ⟨(o, 0), rfl, rfl, hsm⟩
    | inr o =>
      rw [hf] at hsm
      have hsm : o.1 = [] := hsm
      exact ⟨o, rfl, rfl, by rw [hsm]; simp, by rw [hsm]; simp⟩

end Go.Proofs.YtddfcajdelfikaaDoor.Vm

set_option linter.unusedVariables false
set_option linter.unusedSimpArgs false
namespace Go.Proofs.YtddfcajdelfikaaDoor.Vm
open Go

theorem eqStepS_self (l : List S_impl_Step) (hl : l.length ≤ 1099511627776) (hk : ∀ x ∈ l, x.f_Keep.length ≤ 1099511627776) : laws_eqStepS l l = some true := by
  unfold laws_eqStepS
  have e : ((l.length : Int) != (l.length : Int)) = false := by simp
  rw [e, cond_false]
  have L := loopC_all (step := laws_eqStepS_l1 l l) (fun (i : Nat) (_ : Unit) => (i : Int)) l ⟨0, 0, 0, [], noCall⟩ (fun _ _ => .inl ()) (fun _ => .inl ()) (fun i t => True) () trivial (fun i t _ hi => by
    refine ⟨?_, fun _ _ => trivial⟩
    simp only [laws_eqStepS_l1, decide_eq_true (show (i : Int) < (l.length : Int) by omega), cond_true, at?_ok (xs := l) (i := (i : Int)) rfl hi, Option.bind_some]
    rw [eqStep_self _ (hk _ (List.getElem_mem hi)), Option.bind_some, Bool.not_true, cond_false, w64 (by omega) (by omega)]
    rfl) (fun i t _ hi => by
    subst hi
    simp only [laws_eqStepS_l1, decide_eq_false (show ¬ (l.length : Int) < (l.length : Int) by omega), cond_false])
  have e2 : ∀ l : List S_impl_Step, foldE (fun (_ : Unit) (_ : S_impl_Step) => (Sum.inl () : Unit ⊕ (Unit ⊕ Bool))) (fun _ => .inl ()) () l = .inl () := fun l => by
    induction l with
    | nil => rfl
    | cons k l ih => exact ih
  rw [e2] at L
  rw [show loopC (laws_eqStepS_l1 l l) (0 : Int) = _ from L]
  rfl

/-- The text of a mark. -/
def mt (n : Int) : List UInt8 := 109 :: digs n.toNat
theorem markText_eq (n : Int) (h : 0 < n ∧ n ≤ 1099511627776) : laws_markText n = some (mt n) := by
  unfold laws_markText mt
  rw [decide_eq_false (show ¬ n ≤ 0 by omega), cond_false]
  have L := loopC_rel (step := laws_markText_l1) (fun s => 0 ≤ s.1 ∧ s.1 ≤ 1099511627776 ∧ (s.1 = 0 → s.2 = digs n.toNat) ∧ (0 < s.1 → digs s.1.toNat ++ s.2 = digs n.toNat)) (fun s => s.1.toNat)
    (fun s r => r = digs n.toNat) (fun s ⟨g0, g1, g2, g3⟩ => by
      unfold laws_markText_l1
      by_cases hz : 0 < s.1
      · left
        have e1 : s.1.tdiv 10 = s.1 / 10 := Int.tdiv_eq_ediv_of_nonneg g0
        have e2 : s.1.tmod 10 = s.1 % 10 := Int.tmod_eq_emod_of_nonneg g0
        have hlen : s.2.length ≤ 14 := by
          have h1 : (digs n.toNat).length ≤ 14 := digs_len 13 n.toNat (by omega)
          have h2 := g3 hz
          rw [← h2, List.length_append] at h1
          omega
        rw [decide_eq_true hz, cond_true, e1, e2, dig_u8 (by omega) (by omega), w64 (by omega) (by omega), decide_eq_true (by simp; omega), cond_true]
        refine ⟨_, rfl, ⟨by show 0 ≤ s.1 / 10; omega, by show s.1 / 10 ≤ _; omega, ?_, ?_⟩, by show (s.1 / 10).toNat < s.1.toNat; omega, fun r hr => hr⟩
        · intro h0
          have h0 : s.1 / 10 = 0 := h0
          show [UInt8.ofNat (48 + (s.1 % 10).toNat)] ++ s.2 = _
          rw [← g3 hz, digs_lt (n := s.1.toNat) (by omega), show (s.1 % 10).toNat = s.1.toNat by omega]
        · intro h0
          have h0 : 0 < s.1 / 10 := h0
          show digs (s.1 / 10).toNat ++ ([UInt8.ofNat (48 + (s.1 % 10).toNat)] ++ s.2) = _
          rw [← g3 hz, digs_ge (n := s.1.toNat) (by omega), show s.1.toNat / 10 = (s.1 / 10).toNat by omega, show s.1.toNat % 10 = (s.1 % 10).toNat by omega, List.append_assoc]
      · right
        rw [decide_eq_false hz, cond_false]
        exact ⟨_, rfl, g2 (by omega)⟩) (n, []) ⟨by omega, h.2, by omega, by simp⟩
  obtain ⟨r, hr, rfl⟩ := L
  have hlen : (digs n.toNat).length ≤ 14 := digs_len 13 n.toNat (by omega)
  rw [hr, Option.bind_some, decide_eq_true (by simp; omega), cond_true]
  rfl

/-- A step that bears its marks. -/
def markOne (x : S_impl_Step) (m : Int) : S_impl_Step :=
  ⟨m, m + 1, m + 2, countUp (m + 3) x.f_Keep.length, ⟨m + 3 + x.f_Keep.length, ⟨m + 3 + x.f_Keep.length + 1, mt (m + 3 + x.f_Keep.length + 2), mt (m + 3 + x.f_Keep.length + 3), ⟨mt (m + 3 + x.f_Keep.length + 4), mt (m + 3 + x.f_Keep.length + 5)⟩, m + 3 + x.f_Keep.length + 6, ((m + 3 + x.f_Keep.length + 7).tmod 3) == 0⟩⟩⟩
def nextM (x : S_impl_Step) (m : Int) : Int := m + 3 + x.f_Keep.length + 8
def markAll : Int → List S_impl_Step → List S_impl_Step
  | _, [] => []
  | m, x :: xs => markOne x m :: markAll (nextM x m) xs
def lastM : Int → List S_impl_Step → Int
  | m, [] => m
  | m, x :: xs => lastM (nextM x m) xs
theorem markAll_len (m : Int) (l : List S_impl_Step) : (markAll m l).length = l.length := by
  induction l generalizing m with
  | nil => rfl
  | cons x xs ih => simp [markAll, ih]
theorem lastM_bound (m : Int) (l : List S_impl_Step) (hk : ∀ x ∈ l, x.f_Keep.length ≤ 8001) : m ≤ lastM m l ∧ lastM m l ≤ m + 8012 * l.length := by
  induction l generalizing m with
  | nil => simp [lastM]
  | cons x xs ih =>
    have h1 := hk x (by simp)
    have h2 := ih (nextM x m) (fun y hy => hk y (by simp [hy]))
    simp only [lastM, List.length_cons]
    unfold nextM at h2 ⊢
    omega

theorem at?_set {α : Type} {l : List α} {i : Nat} {y : α} (h : i < l.length) : at? (l.set i y) (i : Int) = some y := by
  rw [at?_ok (n := i) rfl (by rw [List.length_set]; exact h), List.getElem_set_self]

theorem markStep_step (a : List S_impl_Step) (i : Nat) (m : Int) (hi : i < a.length) (hl : a.length ≤ 300) (hm : 1 ≤ m ∧ m ≤ 1000000000) (hk : a[i].f_Keep.length ≤ 8001) :
    laws_markStepS_l1 (m, (i : Int), a) = some (.inl (nextM a[i] m, ((i + 1 : Nat) : Int), a.set i (markOne a[i] m))) := by
  unfold laws_markStepS_l1
  simp only [decide_eq_true (show (i : Int) < (a.length : Int) by omega), cond_true]
  rw [at?_ok (xs := a) (i := (i : Int)) rfl hi, Option.bind_some]
  have hx : ∃ x, a[i] = x := ⟨_, rfl⟩
  obtain ⟨x, hx⟩ := hx
  rw [hx] at hk ⊢
  simp only [Int.toNat_natCast, List.set_set, at?_set hi, Option.bind_some]
  have e3 : IntKind.i64.wrap (IntKind.i64.wrap (IntKind.i64.wrap (m + 1) + 1) + 1) = m + 3 := by
    rw [w64 (n := m + 1) (by omega) (by omega), w64 (n := m + 1 + 1) (by omega) (by omega), w64 (by omega) (by omega)]; omega
  rw [e3, markIntS_eq _ _ (by omega) (by omega), Option.bind_some]
  have v : ∃ v : Int, m + 3 + x.f_Keep.length = v ∧ 0 < v ∧ v ≤ 1000100000 := ⟨_, rfl, by omega, by omega⟩
  obtain ⟨v, hv, hv0, hv1⟩ := v
  rw [hv]
  simp only []
  rw [w64 (n := m + 1) (by omega) (by omega), w64 (n := m + 1 + 1) (by omega) (by omega), w64 (n := v + 1) (by omega) (by omega), w64 (n := v + 1 + 1) (by omega) (by omega), w64 (n := v + 1 + 1 + 1) (by omega) (by omega), w64 (n := v + 1 + 1 + 1 + 1) (by omega) (by omega), w64 (n := v + 1 + 1 + 1 + 1 + 1) (by omega) (by omega), w64 (n := v + 1 + 1 + 1 + 1 + 1 + 1) (by omega) (by omega), w64 (n := v + 1 + 1 + 1 + 1 + 1 + 1 + 1) (by omega) (by omega), w64 (n := v + 1 + 1 + 1 + 1 + 1 + 1 + 1 + 1) (by omega) (by omega), w64 (n := (i : Int) + 1) (by omega) (by omega)]
  rw [markText_eq _ (by omega), Option.bind_some, markText_eq _ (by omega), Option.bind_some, markText_eq _ (by omega), Option.bind_some, markText_eq _ (by omega), Option.bind_some]
  unfold markOne nextM
  rw [hv]
  simp only [Int.add_assoc]
  rfl

theorem markStepS_eq (l : List S_impl_Step) (hl : l.length ≤ 300) (hk : ∀ x ∈ l, x.f_Keep.length ≤ 8001) : laws_markStepS l 1 = some (lastM 1 l, markAll 1 l) := by
  unfold laws_markStepS
  have L := loopC_rel (step := laws_markStepS_l1) (fun s => ∃ i : Nat, s.2.1 = i ∧ i ≤ l.length ∧ 1 ≤ s.1 ∧ s.1 ≤ 1 + 8012 * i ∧ s.2.2.length = l.length ∧ s.2.2.drop i = l.drop i ∧ s.2.2.take i ++ markAll s.1 (l.drop i) = markAll 1 l ∧ lastM s.1 (l.drop i) = lastM 1 l) (fun s => l.length - s.2.1.toNat)
    (fun s r => r = (lastM 1 l, markAll 1 l)) (fun s ⟨i, hi, hle, h1, h2, h3, h4, h5, h6⟩ => by
    obtain ⟨m, i', a, rfl⟩ : ∃ f i o, s = (f, i, o) := ⟨s.1, s.2.1, s.2.2, rfl⟩
    obtain rfl : i' = (i : Int) := hi
    have h1 : 1 ≤ m := h1
    have h2 : m ≤ 1 + 8012 * i := h2
    have h3 : a.length = l.length := h3
    have h4 : a.drop i = l.drop i := h4
    have h5 : a.take i ++ markAll m (l.drop i) = markAll 1 l := h5
    have h6 : lastM m (l.drop i) = lastM 1 l := h6
    by_cases hlt : i < l.length
    · left
      have e1 : a.drop i = a[i] :: a.drop (i + 1) := List.drop_eq_getElem_cons (by omega)
      have e2 : l.drop i = l[i] :: l.drop (i + 1) := List.drop_eq_getElem_cons hlt
      have e3 : a[i] = l[i] ∧ a.drop (i + 1) = l.drop (i + 1) := by
        rw [e1, e2] at h4
        exact ⟨(List.cons.inj h4).1, (List.cons.inj h4).2⟩
      have hkk := hk _ (List.getElem_mem hlt)
      refine ⟨_, markStep_step a i m (by omega) (by omega) (by omega) (by rw [e3.1]; exact hkk), ⟨i + 1, rfl, by omega, ?_, ?_, ?_, ?_, ?_, ?_⟩, ?_, fun r hr => hr⟩
      · show 1 ≤ nextM a[i] m
        unfold nextM; omega
      · show nextM a[i] m ≤ _
        unfold nextM; rw [e3.1]; omega
      · show (a.set i _).length = _
        rw [List.length_set]; exact h3
      · show (a.set i _).drop (i + 1) = _
        rw [List.drop_set_of_lt (by omega), e3.2]
      · show (a.set i _).take (i + 1) ++ markAll (nextM a[i] m) (l.drop (i + 1)) = _
        rw [set_take (by omega), ← h5, e2, e3.1, List.append_assoc]
        rfl
      · show lastM (nextM a[i] m) (l.drop (i + 1)) = _
        rw [← h6, e2, e3.1]
        rfl
      · show l.length - (i + 1) < l.length - i; omega
    · right
      obtain rfl : i = l.length := by omega
      refine ⟨(m, a), ?_, ?_⟩
      · unfold laws_markStepS_l1
        rw [decide_eq_false (show ¬ ((l.length : Nat) : Int) < (a.length : Int) by omega)]
        rfl
      · rw [List.drop_length] at h5 h6
        rw [← h5, ← h6, ← h3, List.take_length]
        simp [markAll, lastM]) (1, 0, l) ⟨0, rfl, by omega, by omega, by omega, rfl, rfl, by simp, by simp⟩
  obtain ⟨r, hr, rfl⟩ := L
  rw [hr]
  rfl

theorem markAll_get (m : Int) (l : List S_impl_Step) (i : Nat) (h : i < l.length) : ∃ k, (markAll m l)[i]? = some (markOne l[i] k) ∧ k = lastM m (l.take i) := by
  induction l generalizing m i with
  | nil => simp at h
  | cons x xs ih =>
    cases i with
    | zero => exact ⟨m, by simp [markAll], by simp [lastM]⟩
    | succ i =>
      obtain ⟨k, h1, h2⟩ := ih (nextM x m) i (by simpa using h)
      exact ⟨k, by simpa [markAll] using h1, by simpa [lastM] using h2⟩
theorem lastM_app (m : Int) (l : List S_impl_Step) (x : S_impl_Step) : lastM m (l ++ [x]) = nextM x (lastM m l) := by
  induction l generalizing m with
  | nil => rfl
  | cons y ys ih => exact ih _

theorem heldStepS_eq (l : List S_impl_Step) (hl : l.length ≤ 300) (hk : ∀ x ∈ l, x.f_Keep.length ≤ 8001) : laws_heldStepS (markAll 1 l) 1 = some (lastM 1 l) := by
  unfold laws_heldStepS
  have hlen := markAll_len 1 l
  have L := loopC_rel (step := laws_heldStepS_l1 (markAll 1 l)) (fun s => ∃ i : Nat, s.2 = i ∧ i ≤ l.length ∧ s.1 = lastM 1 (l.take i)) (fun s => l.length - s.2.toNat)
    (fun s r => r = .inl (lastM 1 l)) (fun s ⟨i, hi, hle, h1⟩ => by
    obtain ⟨m, i', rfl⟩ : ∃ f i, s = (f, i) := ⟨s.1, s.2, rfl⟩
    obtain rfl : i' = (i : Int) := hi
    obtain rfl : m = lastM 1 (l.take i) := h1
    by_cases hlt : i < l.length
    · left
      obtain ⟨k, hg, hkm⟩ := markAll_get 1 l i hlt
      have hb := lastM_bound 1 (l.take i) (fun x hx => hk x (List.mem_of_mem_take hx))
      have hbl : (l.take i).length = i := by simp; omega
      rw [hbl] at hb
      have hkk := hk _ (List.getElem_mem hlt)
      have hn : lastM 1 (l.take (i + 1)) = nextM l[i] (lastM 1 (l.take i)) := by
        rw [List.take_succ_eq_append_getElem hlt, lastM_app]
      rw [← hkm] at hb hn ⊢
      have hm : 1 ≤ k ∧ k ≤ 3000000 := by omega
      clear hkm
      have hat : at? (markAll 1 l) (i : Int) = some (markOne l[i] k) := by
        rw [at?_ok (n := i) rfl (by omega)]
        rw [List.getElem?_eq_getElem (by omega)] at hg
        exact hg
      generalize l[i] = x at *
      unfold laws_heldStepS_l1
      simp only [decide_eq_true (show (i : Int) < ((markAll 1 l).length : Int) by omega), cond_true]
      rw [hat, Option.bind_some]
      have v : ∃ v : Int, k + 3 + x.f_Keep.length = v ∧ 0 < v ∧ v ≤ 1000100000 := ⟨_, rfl, by omega, by omega⟩
      obtain ⟨v, hv, hv0, hv1⟩ := v
      unfold markOne
      rw [hv]
      have e3 : IntKind.i64.wrap (IntKind.i64.wrap (IntKind.i64.wrap (k + 1) + 1) + 1) = k + 3 := by
        rw [w64 (n := k + 1) (by omega) (by omega), w64 (n := k + 1 + 1) (by omega) (by omega), w64 (by omega) (by omega)]; omega
      simp only []
      rw [e3, heldIntS_eq (k + 3) x.f_Keep.length (by omega) (by omega), hv]
      simp only [Option.bind_some]
      rw [w64 (n := k + 1) (by omega) (by omega), w64 (n := k + 1 + 1) (by omega) (by omega), w64 (n := v + 1) (by omega) (by omega), w64 (n := v + 1 + 1) (by omega) (by omega), w64 (n := v + 1 + 1 + 1) (by omega) (by omega), w64 (n := v + 1 + 1 + 1 + 1) (by omega) (by omega), w64 (n := v + 1 + 1 + 1 + 1 + 1) (by omega) (by omega), w64 (n := v + 1 + 1 + 1 + 1 + 1 + 1) (by omega) (by omega), w64 (n := v + 1 + 1 + 1 + 1 + 1 + 1 + 1) (by omega) (by omega), w64 (n := v + 1 + 1 + 1 + 1 + 1 + 1 + 1 + 1) (by omega) (by omega), w64 (n := (i : Int) + 1) (by omega) (by omega)]
      rw [markText_eq _ (by omega), Option.bind_some, markText_eq _ (by omega), Option.bind_some, markText_eq _ (by omega), Option.bind_some, markText_eq _ (by omega), Option.bind_some]
      refine ⟨(nextM x k, ((i + 1 : Nat) : Int)), ?_, ⟨i + 1, rfl, by omega, hn.symm⟩, by show l.length - (i + 1) < l.length - i; omega, fun r hr => hr⟩
      have hneg : decide (v < 0) = false := decide_eq_false (by omega)
      unfold nextM
      simp [Int.add_assoc, hneg, hv]
    · right
      obtain rfl : i = l.length := by omega
      refine ⟨.inl (lastM 1 (l.take l.length)), ?_, by rw [List.take_length]⟩
      unfold laws_heldStepS_l1
      rw [decide_eq_false (show ¬ ((l.length : Nat) : Int) < ((markAll 1 l).length : Int) by omega)]
      rfl) (1, 0) ⟨0, rfl, by omega, by simp [lastM]⟩
  obtain ⟨r, hr, rfl⟩ := L
  rw [hr]
  rfl

theorem law_FnExactReadScript (a : List UInt8) : laws_FnExactReadScript a = some true := by
  unfold laws_FnExactReadScript
  by_cases h : (1048576 : Int) < a.length
  · rw [decide_eq_true h]; rfl
  · rw [decide_eq_false h, cond_false]
    obtain ⟨r, h1, h2, hl, hk⟩ := ReadScript_same a
    have hb := lastM_bound 1 r.1 hk
    have hneg : decide (lastM 1 r.1 < 0) = false := decide_eq_false (by omega)
    have heq := eqStepS_self r.1 (by omega) (fun x hx => by have := hk x hx; omega)
    rw [h1, h2, Option.bind_some, Option.bind_some, heq, Option.bind_some, markStepS_eq _ hl hk]
    simp [heldStepS_eq _ hl hk, hneg, heq]

end Go.Proofs.YtddfcajdelfikaaDoor.Vm
