/- Plain laws: loops, guards, wraps. -/
import Derived.Test.YtddfcajdelfikaaDoorVm34
import Derived.Test.YtddfcajdelfikaaDoorG3
set_option linter.unusedVariables false
set_option linter.unusedSimpArgs false
namespace Go.Proofs.YtddfcajdelfikaaDoor.Vm
open Go

/-- A loop, by an invariant, a measure, and what it hands back. -/
theorem loopC_rel {σ ρ : Type} {step : σ → Option (σ ⊕ ρ)} (P : σ → Prop) (μ : σ → Nat) (Q : σ → ρ → Prop)
    (h : ∀ s, P s → (∃ s', step s = some (.inl s') ∧ P s' ∧ μ s' < μ s ∧ ∀ r, Q s' r → Q s r) ∨ (∃ r, step s = some (.inr r) ∧ Q s r)) (s : σ) (hs : P s) :
    ∃ r, loopC step s = some r ∧ Q s r := by
  have key : ∀ n s, μ s < n → P s → ∃ r, loopC step s = some r ∧ Q s r := by
    intro n
    induction n with
    | zero => intro s hn; omega
    | succ n ih =>
      intro s hn hs
      rcases h s hs with ⟨s', e, hp, hm, hq⟩ | ⟨r, e, hq⟩
      · obtain ⟨r, hr, hqr⟩ := ih s' (by omega) hp
        exact ⟨r, by rw [loopC_eq, e]; exact hr, hq r hqr⟩
      · exact ⟨r, by rw [loopC_eq, e], hq⟩
  exact key _ s (Nat.lt_succ_self _) hs

/-- The same, where what it hands back is a function of where it stands. -/
theorem loopC_fn {σ ρ : Type} {step : σ → Option (σ ⊕ ρ)} (P : σ → Prop) (μ : σ → Nat) (f : σ → ρ)
    (h : ∀ s, P s → (∃ s', step s = some (.inl s') ∧ P s' ∧ μ s' < μ s ∧ f s' = f s) ∨ step s = some (.inr (f s))) (s : σ) (hs : P s) :
    loopC step s = some (f s) := by
  obtain ⟨r, hr, rfl⟩ := loopC_rel P μ (fun s r => r = f s) (fun s hs => by
    rcases h s hs with ⟨s', e, hp, hm, hq⟩ | e
    · exact .inl ⟨s', e, hp, hm, fun r hr => hr.trans hq⟩
    · exact .inr ⟨_, e, rfl⟩) s hs
  exact hr

theorem w64 {n : Int} (h0 : -9223372036854775808 ≤ n) (h1 : n ≤ 9223372036854775807) : IntKind.i64.wrap n = n := wrap_i64 h0 h1
theorem w8 {n : Int} (h0 : 0 ≤ n) (h1 : n ≤ 255) : IntKind.u8.wrap n = n := by
  simp [IntKind.wrap, IntKind.bits, IntKind.signed]
  omega
theorem U8_of {n : Nat} (h : n ≤ 255) : U8 (n : Int) = UInt8.ofNat n := by
  unfold U8
  congr 1
  omega
theorem room_ok {b n m : Nat} (h : (n + m) * b ≤ 140737488355328) (h' : n + m ≤ 9223372036854775807) : room b n m = true := by
  simp only [room, Bool.and_eq_true, decide_eq_true_eq]
  exact ⟨h, h'⟩
theorem inRange_ok {i : Int} {n : Nat} (h0 : 0 ≤ i) (h1 : i < n) : inRange i n = true := by simp [inRange, h0, h1]
theorem at?_ok {α : Type} {xs : List α} {i : Int} {n : Nat} (hi : i = n) (h : n < xs.length) : at? xs i = some xs[n] := by
  subst hi
  simp [at?, h]
theorem at?_get {α : Type} [Inhabited α] {xs : List α} {n : Nat} (h : n < xs.length) : at? xs (n : Int) = some xs[n] := at?_ok rfl h

theorem drop_getD {α : Type} {l : List α} {i : Nat} {d : α} (h : i < l.length) : l.drop i = l.getD i d :: l.drop (i + 1) := by
  rw [List.drop_eq_getElem_cons h, List.getD_eq_getElem?_getD, List.getElem?_eq_getElem h, Option.getD_some]
theorem drop_all {α : Type} {l : List α} {i : Nat} (h : l.length ≤ i) : l.drop i = [] := List.drop_eq_nil_of_le h

/-- A loop over a list: it goes on with what it carries, or ends early. -/
def foldE {α τ ρ : Type} (g : τ → α → τ ⊕ ρ) (fin : τ → ρ) : τ → List α → ρ
  | t, [] => fin t
  | t, x :: xs => match g t x with
    | .inl t' => foldE g fin t' xs
    | .inr r => r
theorem loopC_each {α τ σ ρ : Type} {step : σ → Option (σ ⊕ ρ)} (st : Nat → τ → σ) (l : List α) (d : α) (g : τ → α → τ ⊕ ρ) (fin : τ → ρ) (I : Nat → τ → Prop)
    (h1 : ∀ i t, I i t → i < l.length → step (st i t) = some (match g t (l.getD i d) with | .inl t' => .inl (st (i + 1) t') | .inr r => .inr r) ∧ ∀ t', g t (l.getD i d) = .inl t' → I (i + 1) t')
    (h2 : ∀ i t, I i t → i = l.length → step (st i t) = some (.inr (fin t))) :
    ∀ (k i : Nat) (t : τ), l.length - i = k → i ≤ l.length → I i t → loopC step (st i t) = some (foldE g fin t (l.drop i)) := by
  intro k
  induction k with
  | zero =>
    intro i t hk hi hI
    rw [loopC_eq, h2 i t hI (by omega), drop_all (by omega)]
    rfl
  | succ k ih =>
    intro i t hk hi hI
    have hlt : i < l.length := by omega
    obtain ⟨e, hn⟩ := h1 i t hI hlt
    rw [loopC_eq, e, drop_getD (d := d) hlt]
    simp only [foldE]
    cases hg : g t (l.getD i d) with
    | inl t' => exact ih (i + 1) t' (by omega) (by omega) (hn t' hg)
    | inr r => rfl
theorem loopC_all {α τ σ ρ : Type} {step : σ → Option (σ ⊕ ρ)} (st : Nat → τ → σ) (l : List α) (d : α) (g : τ → α → τ ⊕ ρ) (fin : τ → ρ) (I : Nat → τ → Prop) (t : τ) (h0 : I 0 t)
    (h1 : ∀ i t, I i t → i < l.length → step (st i t) = some (match g t (l.getD i d) with | .inl t' => .inl (st (i + 1) t') | .inr r => .inr r) ∧ ∀ t', g t (l.getD i d) = .inl t' → I (i + 1) t')
    (h2 : ∀ i t, I i t → i = l.length → step (st i t) = some (.inr (fin t))) : loopC step (st 0 t) = some (foldE g fin t l) := by
  have := loopC_each st l d g fin I h1 h2 l.length 0 t (by omega) (by omega) h0
  rwa [List.drop_zero] at this

end Go.Proofs.YtddfcajdelfikaaDoor.Vm

set_option linter.unusedVariables false
set_option linter.unusedSimpArgs false
namespace Go.Proofs.YtddfcajdelfikaaDoor.Vm
open Go

/-- The digits of a number. -/
def digs (n : Nat) : List UInt8 := if n < 10 then [UInt8.ofNat (48 + n)] else digs (n / 10) ++ [UInt8.ofNat (48 + n % 10)]
  termination_by n
  decreasing_by omega

def isNum (n : Int) : Bool := decide (0 ≤ n) && decide (n ≤ 1099511627775)
def numText (n : Int) : List UInt8 := bif isNum n then digs n.toNat else []

theorem digs_lt {n : Nat} (h : n < 10) : digs n = [UInt8.ofNat (48 + n)] := by rw [digs, if_pos h]
theorem digs_ge {n : Nat} (h : ¬ n < 10) : digs n = digs (n / 10) ++ [UInt8.ofNat (48 + n % 10)] := by rw [digs, if_neg h]
theorem digs_pos (n : Nat) : 1 ≤ (digs n).length := by
  by_cases h : n < 10
  · rw [digs_lt h]; simp
  · rw [digs_ge h]; simp

theorem digs_len : ∀ (k n : Nat), n < 10 ^ (k + 1) → (digs n).length ≤ k + 1
  | 0, n, h => by rw [digs_lt (by simpa using h)]; simp
  | k + 1, n, h => by
    by_cases hn : n < 10
    · rw [digs_lt hn]; simp
    · rw [digs_ge hn, List.length_append, List.length_singleton]
      have := digs_len k (n / 10) (by rw [Nat.div_lt_iff_lt_mul (by omega)]; rw [← Nat.pow_succ]; exact h)
      omega

theorem isNum_iff {n : Int} : isNum n = true ↔ 0 ≤ n ∧ n ≤ 1099511627775 := by simp [isNum]
theorem numText_len (n : Int) : (numText n).length ≤ 13 := by
  unfold numText
  cases h : isNum n
  · simp
  · have := isNum_iff.1 h
    exact digs_len 12 _ (by omega)

theorem spec_l01Num_eq (n : Int) : spec_l01Num n = some (isNum n) := rfl
theorem impl_isNum_eq (n : Int) : impl_isNum n = some (isNum n) := rfl

theorem dig_u8 {n : Int} (h0 : 0 ≤ n) (h1 : n < 10) : U8 (IntKind.u8.wrap (IntKind.i64.wrap ((48 : Int) + n))) = UInt8.ofNat (48 + n.toNat) := by
  rw [w64 (by omega) (by omega), w8 (by omega) (by omega), show (48 : Int) + n = ((48 + n.toNat : Nat) : Int) by omega, U8_of (by omega)]

theorem spec_NumText_n_eq : ∀ (k : Nat) (n : Int), isNum n = false ∨ n.toNat < k → 0 < k → spec_NumText_n k n = some (numText n)
  | 0, n, _, h => by omega
  | k + 1, n, h, _ => by
    unfold spec_NumText_n numText
    rw [spec_l01Num_eq]
    cases hn : isNum n with
    | false => rfl
    | true =>
      have hb := isNum_iff.1 hn
      have hk : n.toNat < k + 1 := by rcases h with h | h; · rw [hn] at h; cases h
                                      · exact h
      simp only [Option.bind_some, Bool.not_true, cond_false, cond_true]
      by_cases h10 : n < 10
      · rw [decide_eq_true h10, cond_true, dig_u8 hb.1 h10, digs_lt (by omega)]
      · rw [decide_eq_false h10, cond_false]
        have e1 : n.tdiv 10 = n / 10 := Int.tdiv_eq_ediv_of_nonneg hb.1
        have e2 : n.tmod 10 = n % 10 := Int.tmod_eq_emod_of_nonneg hb.1
        have hq : isNum (n / 10) = true := isNum_iff.2 (by omega)
        rw [e1, e2, w64 (by omega) (by omega), spec_NumText_n_eq k (n / 10) (.inr (by omega)) (by omega), Option.bind_some, dig_u8 (by omega) (by omega)]
        have hl := numText_len (n / 10)
        rw [decide_eq_true (by simp; omega), cond_true]
        have e3 : numText (n / 10) = digs (n.toNat / 10) := by
          unfold numText
          rw [hq, cond_true]
          congr 1
          omega
        rw [e3, digs_ge (n := n.toNat) (by omega), show (n % 10).toNat = n.toNat % 10 by omega]

theorem spec_NumText_eq (n : Int) : spec_NumText n = some (numText n) := by
  unfold spec_NumText
  refine spec_NumText_n_eq _ n ?_ (by omega)
  cases h : isNum n
  · exact .inl rfl
  · exact .inr (by have := isNum_iff.1 h; omega)

theorem impl_NumText_eq (n : Int) : impl_NumText n = some (numText n) := by
  unfold impl_NumText numText
  rw [impl_isNum_eq]
  cases hn : isNum n with
  | false => rfl
  | true =>
    have hb := isNum_iff.1 hn
    simp only [Option.bind_some, Bool.not_true, cond_false, cond_true]
    obtain ⟨r, hr, h1, h2, h3, h4⟩ := loopC_rel (step := impl_NumText_l1) (fun s => 0 ≤ s.1 ∧ s.1 ≤ 1099511627775 ∧ s.2.length + (digs s.1.toNat).length ≤ 13) (fun s => s.1.toNat)
      (fun s r => 0 ≤ r.1 ∧ r.1 < 10 ∧ r.2.length ≤ 13 ∧ [UInt8.ofNat (48 + r.1.toNat)] ++ r.2 = digs s.1.toNat ++ s.2) (fun s ⟨g0, g1, g2⟩ => by
        unfold impl_NumText_l1
        by_cases h10 : (9 : Int) < s.1
        · left
          have e1 : s.1.tdiv 10 = s.1 / 10 := Int.tdiv_eq_ediv_of_nonneg g0
          have e2 : s.1.tmod 10 = s.1 % 10 := Int.tmod_eq_emod_of_nonneg g0
          have ed : digs s.1.toNat = digs (s.1 / 10).toNat ++ [UInt8.ofNat (48 + (s.1 % 10).toNat)] := by
            rw [digs_ge (n := s.1.toNat) (by omega), show s.1.toNat / 10 = (s.1 / 10).toNat by omega, show s.1.toNat % 10 = (s.1 % 10).toNat by omega]
          rw [ed, List.length_append, List.length_singleton] at g2
          rw [decide_eq_true h10, cond_true, e1, e2, dig_u8 (by omega) (by omega), w64 (by omega) (by omega), decide_eq_true (by simp; omega), cond_true]
          refine ⟨_, rfl, ⟨?_, ?_, ?_⟩, ?_, ?_⟩
          · show 0 ≤ s.1 / 10; omega
          · show s.1 / 10 ≤ _; omega
          · simp; omega
          · show (s.1 / 10).toNat < s.1.toNat; omega
          · rintro r ⟨q0, q1, q2, q3⟩
            refine ⟨q0, q1, q2, ?_⟩
            rw [q3, ed]
            simp
        · right
          rw [decide_eq_false h10, cond_false]
          refine ⟨_, rfl, g0, by show s.1 < 10; omega, by show s.2.length ≤ 13; omega, ?_⟩
          show _ = digs s.1.toNat ++ s.2
          rw [digs_lt (by omega)]) (n, []) ⟨hb.1, hb.2, by simpa using digs_len 12 n.toNat (by omega)⟩
    rw [hr, Option.bind_some, dig_u8 h1 h2, decide_eq_true (by simp; omega), cond_true, h4]
    simp

end Go.Proofs.YtddfcajdelfikaaDoor.Vm

set_option linter.unusedVariables false
set_option linter.unusedSimpArgs false
namespace Go.Proofs.YtddfcajdelfikaaDoor.Vm
open Go

def numVal : List UInt8 → Int → Option Int
  | [], v => some v
  | c :: cs, v => bif decide ((c.toNat : Int) < 48) || decide (57 < (c.toNat : Int)) then none else numVal cs (10 * v + ((c.toNat : Int) - 48))

def textNum (t : List UInt8) : Int × Bool :=
  bif decide (1 ≤ t.length) && decide (t.length ≤ 13) then
    match numVal t 0 with
    | none => (0, false)
    | some v => bif numText v == t then (v, true) else (0, false)
  else (0, false)

theorem textNum_step (step : List UInt8 → Int × Int → Option ((Int × Int) ⊕ ((Int) ⊕ (Int × Bool)))) (t : List UInt8) (ht : t.length ≤ 13)
    (h1 : ∀ v i : Int, (t.length : Int) ≤ i → step t (v, i) = some (.inr (.inl v)))
    (h2 : ∀ (v : Int) (i : Nat), i < t.length → ((t.getD i 0).toNat : Int) < 48 ∨ 57 < ((t.getD i 0).toNat : Int) → step t (v, i) = some (.inr (.inr (0, false))))
    (h3 : ∀ (v : Int) (i : Nat), 0 ≤ v → v ≤ 1000000000000 → i < t.length → ¬ (((t.getD i 0).toNat : Int) < 48 ∨ 57 < ((t.getD i 0).toNat : Int)) → step t (v, i) = some (.inl (10 * v + (((t.getD i 0).toNat : Int) - 48), ((i + 1 : Nat) : Int)))) :
    loopC (step t) (0, 0) = some (match numVal t 0 with | none => .inr (0, false) | some v => .inl v) := by
  refine loopC_fn (step := step t) (fun s => ∃ i : Nat, s.2 = i ∧ i ≤ t.length ∧ 0 ≤ s.1 ∧ s.1 < 10 ^ i) (fun s => t.length - s.2.toNat)
    (fun s => match numVal (t.drop s.2.toNat) s.1 with | none => .inr (0, false) | some v => .inl v) (fun s ⟨i, hi, hle, h0, hv⟩ => ?_) (0, 0) ⟨0, rfl, Nat.zero_le _, by omega, by simp⟩
  obtain ⟨v, i', rfl⟩ : ∃ v i', s = (v, i') := ⟨s.1, s.2, rfl⟩
  obtain rfl : i' = (i : Int) := hi
  by_cases hlt : i < t.length
  · have hd : t.drop i = t.getD i 0 :: t.drop (i + 1) := drop_getD hlt
    simp only [Int.toNat_natCast, hd, numVal]
    by_cases hc : ((t.getD i 0).toNat : Int) < 48 ∨ 57 < ((t.getD i 0).toNat : Int)
    · right
      rw [h2 v i hlt hc]
      have e : (decide (((t.getD i 0).toNat : Int) < 48) || decide (57 < ((t.getD i 0).toNat : Int))) = true := by simpa using hc
      rw [e]
      rfl
    · left
      have hp : (10 : Int) ^ i ≤ 10 ^ 12 := by
        have : (10 : Nat) ^ i ≤ 10 ^ 12 := Nat.pow_le_pow_right (by omega) (by omega)
        exact_mod_cast this
      have e : (decide (((t.getD i 0).toNat : Int) < 48) || decide (57 < ((t.getD i 0).toNat : Int))) = false := by simpa using hc
      refine ⟨_, h3 v i h0 (by have : v < 10 ^ i := hv; omega) hlt hc, ⟨i + 1, rfl, by omega, ?_, ?_⟩, ?_, ?_⟩
      · show 0 ≤ 10 * v + _
        have : 0 ≤ v := h0
        omega
      · show 10 * v + _ < 10 ^ (i + 1)
        have : v < 10 ^ i := hv
        rw [Int.pow_succ]
        omega
      · show t.length - (((i + 1 : Nat) : Int)).toNat < t.length - i
        omega
      · simp only [Int.toNat_natCast, e, cond_false]
  · right
    rw [h1 v i (by omega), Int.toNat_natCast, drop_all (by omega)]
    rfl

theorem wrap_dig {c : UInt8} (h : ¬ ((c.toNat : Int) < 48 ∨ 57 < (c.toNat : Int))) : IntKind.i64.wrap (IntKind.u8.wrap ((c.toNat : Int) - 48)) = (c.toNat : Int) - 48 := by
  rw [w8 (by omega) (by omega), w64 (by omega) (by omega)]

theorem impl_TextNum_loop (t : List UInt8) (ht : t.length ≤ 13) : loopC (impl_TextNum_l1 t) (0, 0) = some (match numVal t 0 with | none => .inr (0, false) | some v => .inl v) := by
  refine textNum_step impl_TextNum_l1 t ht (fun v i hi => ?_) (fun v i hi hc => ?_) (fun v i h0 hv hi hc => ?_)
  · simp only [impl_TextNum_l1, decide_eq_false (show ¬ i < (t.length : Int) by omega), cond_false]
  · simp only [impl_TextNum_l1, decide_eq_true (show (i : Int) < (t.length : Int) by omega), cond_true, inRange_ok (show (0 : Int) ≤ i by omega) (show (i : Int) < t.length by omega), Int.toNat_natCast]
    rcases hc with hc | hc
    · simp only [decide_eq_true hc, cond_true, Option.bind_some]
    · have : ¬ ((t.getD i 0).toNat : Int) < 48 := by omega
      simp only [decide_eq_false this, decide_eq_true hc, cond_true, cond_false, Option.bind_some]
  · have h1 : ¬ ((t.getD i 0).toNat : Int) < 48 := by omega
    have h2 : ¬ 57 < ((t.getD i 0).toNat : Int) := by omega
    simp only [impl_TextNum_l1, decide_eq_true (show (i : Int) < (t.length : Int) by omega), cond_true, cond_false, inRange_ok (show (0 : Int) ≤ i by omega) (show (i : Int) < t.length by omega), Int.toNat_natCast, decide_eq_false h1, decide_eq_false h2, Option.bind_some, wrap_dig hc]
    rw [w64 (n := 10 * v) (by omega) (by omega), w64 (by omega) (by omega), w64 (by omega) (by omega)]
    rfl

theorem spec_TextNum_loop (t : List UInt8) (ht : t.length ≤ 13) : loopC (spec_TextNum_l1 t) (0, 0) = some (match numVal t 0 with | none => .inr (0, false) | some v => .inl v) := by
  refine textNum_step spec_TextNum_l1 t ht (fun v i hi => ?_) (fun v i hi hc => ?_) (fun v i h0 hv hi hc => ?_)
  · simp only [spec_TextNum_l1, decide_eq_false (show ¬ i < (t.length : Int) by omega), cond_false]
  · simp only [spec_TextNum_l1, decide_eq_true (show (i : Int) < (t.length : Int) by omega), cond_true, inRange_ok (show (0 : Int) ≤ i by omega) (show (i : Int) < t.length by omega), Int.toNat_natCast]
    rcases hc with hc | hc
    · simp only [decide_eq_true hc, cond_true, Option.bind_some]
    · have : ¬ ((t.getD i 0).toNat : Int) < 48 := by omega
      simp only [decide_eq_false this, decide_eq_true hc, cond_true, cond_false, Option.bind_some]
  · have h1 : ¬ ((t.getD i 0).toNat : Int) < 48 := by omega
    have h2 : ¬ 57 < ((t.getD i 0).toNat : Int) := by omega
    simp only [spec_TextNum_l1, decide_eq_true (show (i : Int) < (t.length : Int) by omega), cond_true, cond_false, inRange_ok (show (0 : Int) ≤ i by omega) (show (i : Int) < t.length by omega), Int.toNat_natCast, decide_eq_false h1, decide_eq_false h2, Option.bind_some, wrap_dig hc]
    rw [w64 (n := v * 10) (by omega) (by omega), w64 (by omega) (by omega), w64 (by omega) (by omega), Int.mul_comm v 10]
    rfl

theorem impl_TextNum_eq (t : List UInt8) : impl_TextNum t = some (textNum t) := by
  unfold impl_TextNum textNum impl_within
  simp only [Option.bind_some]
  by_cases h : 1 ≤ t.length ∧ t.length ≤ 13
  · rw [decide_eq_true (show (1 : Int) ≤ t.length by omega), decide_eq_true (show (t.length : Int) ≤ 13 by omega), decide_eq_true h.1, decide_eq_true h.2]
    simp only [Bool.and_self, Bool.not_true, cond_false, cond_true]
    rw [impl_TextNum_loop t h.2, Option.bind_some]
    cases numVal t 0 with
    | none => rfl
    | some v =>
      simp only [early, impl_NumText_eq, Option.bind_some]
      cases numText v == t <;> rfl
  · have e1 : (decide ((1 : Int) ≤ t.length) && decide ((t.length : Int) ≤ 13)) = false := by simp; omega
    have e2 : (decide (1 ≤ t.length) && decide (t.length ≤ 13)) = false := by simp; omega
    rw [e1, e2]
    rfl

theorem spec_TextNum_eq (t : List UInt8) : spec_TextNum t = some (textNum t) := by
  unfold spec_TextNum textNum
  by_cases h : 1 ≤ t.length ∧ t.length ≤ 13
  · rw [decide_eq_false (show ¬ (t.length : Int) < 1 by omega), decide_eq_false (show ¬ (13 : Int) < t.length by omega), decide_eq_true h.1, decide_eq_true h.2]
    simp only [Bool.or_self, Bool.and_self, cond_false, cond_true]
    rw [spec_TextNum_loop t h.2, Option.bind_some]
    cases numVal t 0 with
    | none => rfl
    | some v =>
      simp only [early, spec_l01Num_eq, spec_NumText_eq, Option.bind_some]
      cases hn : isNum v with
      | true => cases numText v == t <;> rfl
      | false =>
        have e : (numText v == t) = false := by
          simp only [numText, hn, cond_false]
          cases t with
          | nil => simp at h
          | cons => rfl
        rw [e]
        rfl
  · have e1 : (decide ((t.length : Int) < 1) || decide ((13 : Int) < t.length)) = true := by simp; omega
    have e2 : (decide (1 ≤ t.length) && decide (t.length ≤ 13)) = false := by simp; omega
    rw [e1, e2]
    rfl

end Go.Proofs.YtddfcajdelfikaaDoor.Vm

set_option linter.unusedVariables false
set_option linter.unusedSimpArgs false
namespace Go.Proofs.YtddfcajdelfikaaDoor.Vm
open Go

def hexd (n : Nat) : UInt8 := if n < 10 then UInt8.ofNat (48 + n) else UInt8.ofNat (55 + n)
def plainB (c : UInt8) : Bool := ((decide ((33 : Int) ≤ c.toNat) && decide ((c.toNat : Int) ≤ 126)) && ((c.toNat : Int) != 34)) && ((c.toNat : Int) != 37)
def quoteB (c : UInt8) : List UInt8 := bif plainB c then [c] else [37, hexd (c.toNat / 16), hexd (c.toNat % 16)]
def quote (s : List UInt8) : List UInt8 := bif decide (4096 < s.length) then [] else 34 :: (s.flatMap quoteB ++ [34])

theorem quoteB_len (c : UInt8) : (quoteB c).length ≤ 3 := by
  unfold quoteB
  cases plainB c <;> simp
theorem quote_len (s : List UInt8) : (quote s).length ≤ 12290 := by
  unfold quote
  by_cases h : 4096 < s.length
  · rw [decide_eq_true h]; simp
  · rw [decide_eq_false h]
    have : (s.flatMap quoteB).length ≤ 3 * s.length := by
      clear h
      induction s with
      | nil => simp
      | cons c s ih => have := quoteB_len c; simp at ih ⊢; omega
    simp at this ⊢
    omega

theorem spec_l01Digit_eq {n : Int} (h0 : 0 ≤ n) (h1 : n < 16) : spec_l01Digit n = some (hexd n.toNat) := by
  obtain ⟨k, rfl⟩ := Int.eq_ofNat_of_zero_le h0
  have hk : k < 16 := by omega
  unfold spec_l01Digit hexd
  by_cases h : k < 10
  · rw [decide_eq_true (show ((k : Nat) : Int) < 10 by omega), cond_true, dig_u8 (by omega) (by omega), Int.toNat_natCast, if_pos h]
  · rw [decide_eq_false (show ¬ ((k : Nat) : Int) < 10 by omega), cond_false, Int.toNat_natCast, if_neg h]
    rw [w64 (n := 65 + (k : Int)) (by omega) (by omega), w64 (by omega) (by omega), w8 (by omega) (by omega), show (65 : Int) + k - 10 = ((55 + k : Nat) : Int) by omega, U8_of (by omega)]

theorem tab_hi : ∀ c : UInt8, inRange ((c.toNat : Int).fdiv (2 ^ (min 4 (IntKind.bits .u8)))) ([48, 49, 50, 51, 52, 53, 54, 55, 56, 57, 65, 66, 67, 68, 69, 70] : List UInt8).length = true ∧
    ([48, 49, 50, 51, 52, 53, 54, 55, 56, 57, 65, 66, 67, 68, 69, 70] : List UInt8).getD ((c.toNat : Int).fdiv (2 ^ (min 4 (IntKind.bits .u8)))).toNat 0 = hexd (c.toNat / 16) := by
  have h : ∀ n : Fin 256, inRange (((UInt8.ofNat n.1).toNat : Int).fdiv (2 ^ (min 4 (IntKind.bits .u8)))) ([48, 49, 50, 51, 52, 53, 54, 55, 56, 57, 65, 66, 67, 68, 69, 70] : List UInt8).length = true ∧
    ([48, 49, 50, 51, 52, 53, 54, 55, 56, 57, 65, 66, 67, 68, 69, 70] : List UInt8).getD (((UInt8.ofNat n.1).toNat : Int).fdiv (2 ^ (min 4 (IntKind.bits .u8)))).toNat 0 = hexd ((UInt8.ofNat n.1).toNat / 16) := by decide +kernel
  intro c
  have := h ⟨c.toNat, c.toNat_lt⟩
  simpa only [UInt8.ofNat_toNat] using this
theorem tab_lo : ∀ c : UInt8, inRange (IntKind.u8.wrap (BitVec.ofInt (IntKind.bits .u8) (c.toNat : Int) &&& BitVec.ofInt (IntKind.bits .u8) (15 : Int)).toNat) ([48, 49, 50, 51, 52, 53, 54, 55, 56, 57, 65, 66, 67, 68, 69, 70] : List UInt8).length = true ∧
    ([48, 49, 50, 51, 52, 53, 54, 55, 56, 57, 65, 66, 67, 68, 69, 70] : List UInt8).getD (IntKind.u8.wrap (BitVec.ofInt (IntKind.bits .u8) (c.toNat : Int) &&& BitVec.ofInt (IntKind.bits .u8) (15 : Int)).toNat).toNat 0 = hexd (c.toNat % 16) := by
  have h : ∀ n : Fin 256, inRange (IntKind.u8.wrap (BitVec.ofInt (IntKind.bits .u8) ((UInt8.ofNat n.1).toNat : Int) &&& BitVec.ofInt (IntKind.bits .u8) (15 : Int)).toNat) ([48, 49, 50, 51, 52, 53, 54, 55, 56, 57, 65, 66, 67, 68, 69, 70] : List UInt8).length = true ∧
    ([48, 49, 50, 51, 52, 53, 54, 55, 56, 57, 65, 66, 67, 68, 69, 70] : List UInt8).getD (IntKind.u8.wrap (BitVec.ofInt (IntKind.bits .u8) ((UInt8.ofNat n.1).toNat : Int) &&& BitVec.ofInt (IntKind.bits .u8) (15 : Int)).toNat).toNat 0 = hexd ((UInt8.ofNat n.1).toNat % 16) := by decide +kernel
  intro c
  have := h ⟨c.toNat, c.toNat_lt⟩
  simpa only [UInt8.ofNat_toNat] using this

theorem foldE_app (l acc : List UInt8) (f : UInt8 → List UInt8) : foldE (fun (t : List UInt8) c => (Sum.inl (t ++ f c) : (List UInt8) ⊕ (List UInt8))) id acc l = acc ++ l.flatMap f := by
  induction l generalizing acc with
  | nil => simp [foldE]
  | cons c l ih => simp [foldE, ih]

theorem spec_Quote_eq (s : List UInt8) : spec_Quote s = some (quote s) := by
  unfold spec_Quote quote
  by_cases h : 4096 < s.length
  · rw [decide_eq_true h, decide_eq_true (show (4096 : Int) < s.length by omega)]; rfl
  · rw [decide_eq_false h, decide_eq_false (show ¬ (4096 : Int) < s.length by omega)]
    simp only [cond_false]
    rw [show ((0 : Int), ([34] : List UInt8)) = (fun (i : Nat) t => ((i : Int), t)) 0 [34] from rfl,
      loopC_all (fun (i : Nat) t => ((i : Int), t)) s 0 (fun (t : List UInt8) c => (Sum.inl (t ++ quoteB c) : (List UInt8) ⊕ (List UInt8))) id (fun i t => t.length ≤ 1 + 3 * i) [34] (by simp) (fun i t hI hi => ⟨?_, fun t' ht => ?_⟩) (fun i t hI hi => ?_)]
    · rw [foldE_app, Option.bind_some]
      have hl := quote_len s
      unfold quote at hl
      rw [decide_eq_false h, cond_false] at hl
      rw [room_ok (by simp at hl ⊢; omega) (by simp at hl ⊢; omega)]
      simp
    · simp only [spec_Quote_l1, decide_eq_true (show (i : Int) < (s.length : Int) by omega), cond_true, inRange_ok (show (0 : Int) ≤ i by omega) (show (i : Int) < s.length by omega)]
      generalize hcc : s.getD (i : Int).toNat 0 = c
      rw [show s.getD i 0 = c from hcc]
      have hc : c.toNat < 256 := c.toNat_lt
      show (Option.bind (bif plainB c then _ else _) _) = _
      unfold quoteB
      cases plainB c with
      | true =>
        simp only [cond_true]
        rw [room_ok (by simp; omega) (by simp; omega), cond_true, Option.bind_some, w64 (by omega) (by omega)]
        rfl
      | false =>
        simp only [cond_false]
        rw [w64 (n := (c.toNat : Int)) (by omega) (by omega), Int.tdiv_eq_ediv_of_nonneg (by omega), Int.tmod_eq_emod_of_nonneg (by omega), w64 (by omega) (by omega),
          spec_l01Digit_eq (by omega) (by omega), Option.bind_some, spec_l01Digit_eq (by omega) (by omega), Option.bind_some, room_ok (by simp; omega) (by simp; omega), cond_true, Option.bind_some, w64 (by omega) (by omega),
          show ((c.toNat : Int) / 16).toNat = c.toNat / 16 by omega, show ((c.toNat : Int) % 16).toNat = c.toNat % 16 by omega]
        rfl
    · obtain rfl := Sum.inl.inj ht
      have := quoteB_len (s.getD i 0)
      rw [List.length_append]
      omega
    · simp only [spec_Quote_l1, decide_eq_false (show ¬ (i : Int) < (s.length : Int) by omega), cond_false, id]

theorem impl_Quote_eq (s : List UInt8) : impl_Quote s = some (quote s) := by
  unfold impl_Quote quote
  by_cases h : 4096 < s.length
  · rw [decide_eq_true h, decide_eq_true (show (4096 : Int) < s.length by omega)]; rfl
  · rw [decide_eq_false h, decide_eq_false (show ¬ (4096 : Int) < s.length by omega)]
    simp only [cond_false]
    rw [show ((0 : Int), ([34] : List UInt8)) = (fun (i : Nat) t => ((i : Int), t)) 0 [34] from rfl,
      loopC_all (fun (i : Nat) t => ((i : Int), t)) s 0 (fun (t : List UInt8) c => (Sum.inl (t ++ quoteB c) : (List UInt8) ⊕ (List UInt8))) id (fun i t => t.length ≤ 1 + 3 * i) [34] (by simp) (fun i t hI hi => ⟨?_, fun t' ht => ?_⟩) (fun i t hI hi => ?_)]
    · rw [foldE_app, Option.bind_some]
      have hl := quote_len s
      unfold quote at hl
      rw [decide_eq_false h, cond_false] at hl
      rw [room_ok (by simp at hl ⊢; omega) (by simp at hl ⊢; omega)]
      simp
    · simp only [impl_Quote_l1, decide_eq_true (show (i : Int) < (s.length : Int) by omega), cond_true, inRange_ok (show (0 : Int) ≤ i by omega) (show (i : Int) < s.length by omega)]
      generalize hcc : s.getD (i : Int).toNat 0 = c
      rw [show s.getD i 0 = c from hcc]
      have hc : c.toNat < 256 := c.toNat_lt
      rw [(tab_hi c).1, (tab_hi c).2, (tab_lo c).1, (tab_lo c).2, w64 (n := (c.toNat : Int)) (by omega) (by omega)]
      simp only [impl_within, Option.bind_some]
      show (Option.bind (bif plainB c then _ else _) _) = _
      unfold quoteB
      cases plainB c with
      | true =>
        simp only [cond_true]
        rw [room_ok (by simp; omega) (by simp; omega), cond_true, Option.bind_some, w64 (by omega) (by omega)]
        rfl
      | false =>
        simp only [cond_false, cond_true]
        rw [room_ok (by simp; omega) (by simp; omega), cond_true, Option.bind_some, w64 (by omega) (by omega)]
        rfl
    · obtain rfl := Sum.inl.inj ht
      have := quoteB_len (s.getD i 0)
      rw [List.length_append]
      omega
    · simp only [impl_Quote_l1, decide_eq_false (show ¬ (i : Int) < (s.length : Int) by omega), cond_false, id]

end Go.Proofs.YtddfcajdelfikaaDoor.Vm

set_option linter.unusedVariables false
set_option linter.unusedSimpArgs false
namespace Go.Proofs.YtddfcajdelfikaaDoor.Vm
open Go

def hexTab : List UInt8 := [48, 49, 50, 51, 52, 53, 54, 55, 56, 57, 65, 66, 67, 68, 69, 70]
def figG (c : UInt8) (t : Int) (x : UInt8) : Int ⊕ (Unit ⊕ Int) := bif ((x.toNat : Int) == (c.toNat : Int)) then .inr (.inr t) else .inl (t + 1)
def fig (c : UInt8) : Int := match foldE (figG c) (fun _ => .inl ()) 0 hexTab with | .inl _ => -1 | .inr i => i

theorem fig_ok (c : UInt8) : -1 ≤ fig c ∧ fig c < 16 := by
  have h : ∀ n : Fin 256, -1 ≤ fig (UInt8.ofNat n.1) ∧ fig (UInt8.ofNat n.1) < 16 := by decide +kernel
  have := h ⟨c.toNat, c.toNat_lt⟩
  simpa only [UInt8.ofNat_toNat] using this
theorem fig_hexd {n : Nat} (h : n < 16) : fig (hexd n) = n := by
  have h' : ∀ n : Fin 16, fig (hexd n.1) = (n.1 : Int) := by decide +kernel
  exact h' ⟨n, h⟩

theorem impl_figure_eq (c : UInt8) : impl_figure c = some (fig c) := by
  unfold impl_figure fig
  have := loopC_all (step := impl_figure_l1 c) (fun (i : Nat) (t : Int) => t) hexTab 0 (figG c) (fun _ => .inl ()) (fun i t => t = i) 0 rfl (fun i t hI hi => by
    subst hI
    have hi' : i < 16 := hi
    refine ⟨?_, fun t' ht => ?_⟩
    · simp only [impl_figure_l1, decide_eq_true (show (i : Int) < 16 by omega), cond_true]
      rw [inRange_ok (show (0 : Int) ≤ i by omega) (show (i : Int) < _ by exact Int.ofNat_lt.2 hi), cond_true, w64 (by omega) (by omega)]
      show (bif (((hexTab.getD i 0).toNat : Int) == (c.toNat : Int)) then _ else _) = _
      unfold figG
      cases (((hexTab.getD i 0).toNat : Int) == (c.toNat : Int)) <;> rfl
    · unfold figG at ht
      cases h : (((hexTab.getD i 0).toNat : Int) == (c.toNat : Int)) <;> rw [h] at ht
      · obtain rfl := Sum.inl.inj ht; rfl
      · cases ht) (fun i t hI hi => by
    subst hI hi
    rfl)
  rw [this, Option.bind_some]
  cases foldE (figG c) (fun _ => Sum.inl ()) 0 hexTab <;> rfl

def halfG (c : UInt8) (t : Unit) (x : Nat) : Unit ⊕ Int := bif (((hexd x).toNat : Int) != (c.toNat : Int)) then .inl () else .inr x
def half (c : UInt8) : Int := foldE (halfG c) (fun _ => 16) () (List.range 16)
theorem half_ok (c : UInt8) : 0 ≤ half c ∧ half c ≤ 16 := by
  have h : ∀ n : Fin 256, 0 ≤ half (UInt8.ofNat n.1) ∧ half (UInt8.ofNat n.1) ≤ 16 := by decide +kernel
  have := h ⟨c.toNat, c.toNat_lt⟩
  simpa only [UInt8.ofNat_toNat] using this
theorem half_hexd {n : Nat} (h : n < 16) : half (hexd n) = n := by
  have h' : ∀ n : Fin 16, half (hexd n.1) = (n.1 : Int) := by decide +kernel
  exact h' ⟨n, h⟩
theorem spec_l01Half_eq (c : UInt8) : spec_l01Half c = some (half c) := by
  unfold spec_l01Half half
  have key := (loopC_all (step := spec_l01Half_l1 c) (fun (i : Nat) (t : Unit) => (i : Int)) (List.range 16) 0 (halfG c) (fun _ => 16) (fun i t => True) () trivial (fun i t _ hi => by
    have hi' : i < 16 := by simpa using hi
    have e : (List.range 16).getD i 0 = i := by simp [List.getD_eq_getElem?_getD, hi']
    rw [e]
    refine ⟨?_, fun _ _ => trivial⟩
    simp only [spec_l01Half_l1, decide_eq_true (show (i : Int) < 16 by omega), cond_true]
    rw [spec_l01Digit_eq (by omega) (by omega), Option.bind_some, Option.bind_some, Int.toNat_natCast, w64 (by omega) (by omega)]
    unfold halfG
    cases (((hexd i).toNat : Int) != (c.toNat : Int)) <;> rfl) (fun i t _ hi => by
    obtain rfl : i = 16 := by simpa using hi
    rfl))
  rw [show loopC (spec_l01Half_l1 c) (0 : Int) = _ from key]
  rfl

def dec : List UInt8 → Option (List UInt8)
  | [] => some []
  | c :: r => bif ((c.toNat : Int) != 37) then (dec r).map (c :: ·) else
    match r with
    | a :: b :: r' => bif decide (fig a < 0) || decide (fig b < 0) then none else (dec r').map (UInt8.ofNat (16 * (fig a).toNat + (fig b).toNat) :: ·)
    | _ => none
def dec2 : List UInt8 → List UInt8
  | [] => []
  | [_] => []
  | c :: d :: r => bif ((c.toNat : Int) == 37) && !r.isEmpty then
      match r with
      | b :: r' => UInt8.ofNat ((half d % 16).toNat * 16 + (half b % 16).toNat) :: dec2 r'
      | [] => []
    else c :: dec2 (d :: r)
  termination_by l => l.length

theorem dec_plain {c : UInt8} {r : List UInt8} (h : ((c.toNat : Int) != 37) = true) : dec (c :: r) = (dec r).map (c :: ·) := by
  rw [dec.eq_def]
  simp only [h, cond_true]
theorem dec_hex {c a b : UInt8} {r : List UInt8} (h : ((c.toNat : Int) != 37) = false) : dec (c :: a :: b :: r) = bif decide (fig a < 0) || decide (fig b < 0) then none else (dec r).map (UInt8.ofNat (16 * (fig a).toNat + (fig b).toNat) :: ·) := by
  rw [dec.eq_def]
  simp only [h, cond_false]
theorem dec_bad {c : UInt8} {r : List UInt8} (h : ((c.toNat : Int) != 37) = false) (hr : r.length < 2) : dec (c :: r) = none := by
  rw [dec.eq_def]
  simp only [h, cond_false]
  match r, hr with
  | [], _ => rfl
  | [_], _ => rfl
theorem dec2_plain {c d : UInt8} {r : List UInt8} (h : (((c.toNat : Int) == 37) && !r.isEmpty) = false) : dec2 (c :: d :: r) = c :: dec2 (d :: r) := by
  rw [dec2.eq_def]
  simp only [h, cond_false]
theorem dec2_hex {c d b : UInt8} {r : List UInt8} (h : ((c.toNat : Int) == 37) = true) : dec2 (c :: d :: b :: r) = UInt8.ofNat ((half d % 16).toNat * 16 + (half b % 16).toNat) :: dec2 r := by
  rw [dec2.eq_def]
  simp only [h, List.isEmpty_cons, Bool.not_false, Bool.and_self, cond_true]

theorem quoteB_cases (c : UInt8) : (quoteB c = [c] ∧ ((c.toNat : Int) != 37) = true) ∨ quoteB c = [37, hexd (c.toNat / 16), hexd (c.toNat % 16)] := by
  unfold quoteB
  cases h : plainB c with
  | true => left; simp only [plainB, Bool.and_eq_true] at h; exact ⟨rfl, h.2⟩
  | false => right; rfl
theorem byte_of (c : UInt8) : UInt8.ofNat (16 * (c.toNat / 16) + c.toNat % 16) = c := by
  rw [show 16 * (c.toNat / 16) + c.toNat % 16 = c.toNat by omega, UInt8.ofNat_toNat]

theorem dec_quote (v : List UInt8) : dec (v.flatMap quoteB) = some v := by
  induction v with
  | nil => simp [dec]
  | cons c v ih =>
    have hc : c.toNat < 256 := c.toNat_lt
    rw [List.flatMap_cons]
    rcases quoteB_cases c with ⟨e, h⟩ | e
    · rw [e, List.singleton_append, dec_plain h, ih]; rfl
    · rw [e]
      show dec (37 :: hexd (c.toNat / 16) :: hexd (c.toNat % 16) :: v.flatMap quoteB) = _
      rw [dec_hex rfl, fig_hexd (by omega), fig_hexd (by omega), decide_eq_false (by omega), decide_eq_false (by omega), Bool.or_self, cond_false, ih, Int.toNat_natCast, Int.toNat_natCast, byte_of]
      rfl
theorem dec2_quote (v : List UInt8) (x : UInt8) : dec2 (v.flatMap quoteB ++ [x]) = v := by
  induction v with
  | nil => simp [dec2]
  | cons c v ih =>
    have hc : c.toNat < 256 := c.toNat_lt
    rw [List.flatMap_cons]
    rcases quoteB_cases c with ⟨e, h⟩ | e
    · rw [e, List.append_assoc, List.singleton_append]
      obtain ⟨d, r, hd⟩ : ∃ d r, v.flatMap quoteB ++ [x] = d :: r := by
        cases h : v.flatMap quoteB ++ [x] with
        | nil => simp at h
        | cons d r => exact ⟨d, r, rfl⟩
      rw [hd] at ih ⊢
      have e2 : ((c.toNat : Int) == 37) = false := by simpa using h
      rw [dec2_plain (by rw [e2, Bool.false_and]), ih]
    · rw [e]
      show dec2 (37 :: hexd (c.toNat / 16) :: hexd (c.toNat % 16) :: (v.flatMap quoteB ++ [x])) = _
      rw [dec2_hex rfl, half_hexd (by omega), half_hexd (by omega), ih, show ((((c.toNat / 16 : Nat) : Int)) % 16).toNat * 16 + ((((c.toNat % 16 : Nat) : Int)) % 16).toNat = 16 * (c.toNat / 16) + c.toNat % 16 by omega, byte_of]

theorem quote_small {v : List UInt8} (h : v.length ≤ 4096) : quote v = 34 :: (v.flatMap quoteB ++ [34]) := by
  unfold quote
  rw [decide_eq_false (by omega), cond_false]
theorem quote_big {v : List UInt8} (h : ¬ v.length ≤ 4096) : quote v = [] := by
  unfold quote
  rw [decide_eq_true (by omega), cond_true]

def unq (w : List UInt8) : List UInt8 × Bool :=
  bif (quote (dec2 (w.drop 1)) == w) && !w.isEmpty then (dec2 (w.drop 1), true) else ([], false)

theorem unq_quote {v : List UInt8} (h : v.length ≤ 4096) : unq (quote v) = (v, true) := by
  unfold unq
  rw [quote_small h]
  simp only [List.drop_succ_cons, List.drop_zero, dec2_quote, quote_small h, beq_self_eq_true, List.isEmpty_cons, Bool.not_false, Bool.and_self, cond_true]
theorem unq_not {w : List UInt8} (h : ∀ v, v.length ≤ 4096 → quote v ≠ w) : unq w = ([], false) := by
  unfold unq
  cases e : (quote (dec2 (w.drop 1)) == w) && !w.isEmpty with
  | false => rfl
  | true =>
    simp only [Bool.and_eq_true, beq_iff_eq] at e
    by_cases hl : (dec2 (w.drop 1)).length ≤ 4096
    · exact absurd e.1 (h _ hl)
    · have := e.1
      rw [quote_big hl] at this
      rw [← this] at e
      simp at e
/-- What quotes back is what is told. -/
theorem unq_of (w : List UInt8) (v : List UInt8) (hv : quote v = w) (hw : w ≠ []) : unq w = (v, true) := by
  subst hv
  refine unq_quote ?_
  by_cases hl : v.length ≤ 4096
  · exact hl
  · exact absurd (quote_big hl) hw

end Go.Proofs.YtddfcajdelfikaaDoor.Vm

set_option linter.unusedVariables false
set_option linter.unusedSimpArgs false
namespace Go.Proofs.YtddfcajdelfikaaDoor.Vm
open Go

theorem byte16 {x y : Int} (hx : 0 ≤ x ∧ x < 16) (hy : 0 ≤ y ∧ y < 16) : U8 (IntKind.u8.wrap (x * 16 + y)) = UInt8.ofNat (x.toNat * 16 + y.toNat) := by
  rw [w8 (by omega) (by omega), show x * 16 + y = ((x.toNat * 16 + y.toNat : Nat) : Int) by omega, U8_of (by omega)]

theorem spec_Unquote_loop (w : List UInt8) (hw : w.length ≤ 1099511627776) : loopC (spec_Unquote_l1 w) (1, []) = some (dec2 (w.drop 1)) := by
  refine (loopC_fn (step := spec_Unquote_l1 w) (fun s => ∃ i : Nat, s.1 = i ∧ 1 ≤ i ∧ s.2.length ≤ i ∧ i ≤ 1 + w.length) (fun s => w.length - s.1.toNat) (fun s => s.2 ++ dec2 (w.drop s.1.toNat)) (fun s ⟨i, hi, h1, hl, hle⟩ => ?_) (1, []) ⟨1, rfl, by omega, by simp, by omega⟩).trans rfl
  obtain ⟨i', acc, rfl⟩ : ∃ v i', s = (v, i') := ⟨s.1, s.2, rfl⟩
  obtain rfl : i' = (i : Int) := hi
  have hl : acc.length ≤ i := hl
  rw [show ((i : Int), acc).1.toNat = i from rfl, show ((i : Int), acc).2 = acc from rfl]
  by_cases hlt : (i : Int) < (w.length : Int) - 1
  · left
    have hd : w.drop i = w.getD i 0 :: w.getD (i + 1) 0 :: w.drop (i + 2) := by rw [drop_getD (d := 0) (by omega), drop_getD (d := 0) (i := i + 1) (by omega)]
    simp only [spec_Unquote_l1, w64 (n := (w.length : Int) - 1) (by omega) (by omega), decide_eq_true hlt, cond_true, inRange_ok (show (0 : Int) ≤ i by omega) (show (i : Int) < w.length by omega), w64 (n := (i : Int) + 2) (by omega) (by omega), w64 (n := (i : Int) + 1) (by omega) (by omega)]
    rw [show (i : Int).toNat = i from rfl, show ((i : Int) + 1).toNat = i + 1 from rfl, show ((i : Int) + 2).toNat = i + 2 from rfl, hd]
    cases hc : (((w.getD i 0).toNat : Int) == 37) with
    | true =>
      by_cases h2 : (i : Int) + 2 < w.length
      · have hd2 : w.drop (i + 2) = w.getD (i + 2) 0 :: w.drop (i + 3) := drop_getD (by omega)
        have q1 := half_ok (w.getD (i + 1) 0)
        have q2 := half_ok (w.getD (i + 2) 0)
        simp only [decide_eq_true h2, Bool.and_self, cond_true, inRange_ok (show (0 : Int) ≤ i + 1 by omega) (show (i : Int) + 1 < w.length by omega), inRange_ok (show (0 : Int) ≤ i + 2 by omega) h2, spec_l01Half_eq, Option.bind_some]
        rw [room_ok (by simp; omega) (by simp; omega), cond_true, Option.bind_some]
        rw [Int.tmod_eq_emod_of_nonneg q1.1, Int.tmod_eq_emod_of_nonneg q2.1, w64 (n := half (w.getD (i + 1) 0) % 16 * 16) (by omega) (by omega), w64 (n := half (w.getD (i + 1) 0) % 16 * 16 + _) (by omega) (by omega), byte16 (by omega) (by omega), w64 (by omega) (by omega)]
        refine ⟨_, rfl, ⟨i + 3, by show (i : Int) + 2 + 1 = _; omega, by omega, ?_, by omega⟩, ?_, ?_⟩
        · simp; omega
        · show w.length - ((i : Int) + 2 + 1).toNat < w.length - i; omega
        · rw [hd2, dec2_hex hc]
          show (acc ++ [_]) ++ dec2 (w.drop ((i : Int) + 2 + 1).toNat) = _
          rw [show ((i : Int) + 2 + 1).toNat = i + 3 by omega, List.append_assoc, List.singleton_append]
      · rw [decide_eq_false h2, Bool.and_false, cond_false, room_ok (by simp; omega) (by simp; omega), cond_true, Option.bind_some, w64 (by omega) (by omega)]
        refine ⟨_, rfl, ⟨i + 1, rfl, by omega, by simp; omega, by omega⟩, ?_, ?_⟩
        · show w.length - (i + 1) < w.length - i; omega
        · rw [dec2_plain (by rw [drop_all (by omega)]; simp)]
          show (acc ++ [_]) ++ dec2 (w.drop (i + 1)) = _
          rw [drop_getD (d := 0) (i := i + 1) (by omega), List.append_assoc, List.singleton_append]
    | false =>
      rw [Bool.false_and, cond_false, room_ok (by simp; omega) (by simp; omega), cond_true, Option.bind_some, w64 (by omega) (by omega)]
      refine ⟨_, rfl, ⟨i + 1, rfl, by omega, by simp; omega, by omega⟩, ?_, ?_⟩
      · show w.length - (i + 1) < w.length - i; omega
      · rw [dec2_plain (by rw [hc, Bool.false_and])]
        show (acc ++ [_]) ++ dec2 (w.drop (i + 1)) = _
        rw [drop_getD (d := 0) (i := i + 1) (by omega), List.append_assoc, List.singleton_append]
  · right
    have e : dec2 (w.drop i) = [] := by
      have : (w.drop i).length ≤ 1 := by rw [List.length_drop]; omega
      match h : w.drop i, this with
      | [], _ => simp [dec2]
      | [_], _ => simp [dec2]
    simp only [spec_Unquote_l1, w64 (n := (w.length : Int) - 1) (by omega) (by omega), decide_eq_false hlt, cond_false, e, List.append_nil]

theorem spec_Unquote_eq (w : List UInt8) (hw : w.length ≤ 1099511627776) : spec_Unquote w = some (unq w) := by
  unfold spec_Unquote
  by_cases h : 2 ≤ w.length ∧ w.length ≤ 12290
  · rw [decide_eq_false (show ¬ (w.length : Int) < 2 by omega), decide_eq_false (show ¬ (12290 : Int) < w.length by omega), Bool.or_self, cond_false, spec_Unquote_loop w hw, Option.bind_some, spec_Quote_eq, Option.bind_some]
    unfold unq
    have he : w.isEmpty = false := by cases w with | nil => simp at h | cons => rfl
    rw [he]
    cases quote (dec2 (w.drop 1)) == w <;> rfl
  · have e : (decide ((w.length : Int) < 2) || decide ((12290 : Int) < w.length)) = true := by simp; omega
    rw [e, cond_true, unq_not]
    intro v hv hq
    have h1 := quote_len v
    rw [hq] at h1
    have h2 : 2 ≤ (quote v).length := by rw [quote_small hv]; simp
    rw [hq] at h2
    exact h ⟨h2, h1⟩

theorem impl_Unquote_loop (w : List UInt8) (hw : w.length ≤ 1099511627776) : loopC (impl_Unquote_l1 w) (1, []) = some (match dec (w.dropLast.drop 1) with | none => .inr ([], false) | some v => .inl v) := by
  refine (loopC_fn (step := impl_Unquote_l1 w) (fun s => ∃ i : Nat, s.1 = i ∧ 1 ≤ i ∧ s.2.length ≤ i ∧ i ≤ 1 + w.length) (fun s => w.length - s.1.toNat)
    (fun s => match dec (w.dropLast.drop s.1.toNat) with | none => .inr ([], false) | some v => .inl (s.2 ++ v)) (fun s ⟨i, hi, h1, hl, hle⟩ => ?_) (1, []) ⟨1, rfl, by omega, by simp, by omega⟩).trans (by rfl)
  obtain ⟨i', acc, rfl⟩ : ∃ v i', s = (v, i') := ⟨s.1, s.2, rfl⟩
  obtain rfl : i' = (i : Int) := hi
  have hl : acc.length ≤ i := hl
  have hb : w.dropLast.length = w.length - 1 := List.length_dropLast
  have hget : ∀ j, j < w.length - 1 → w.dropLast.getD j 0 = w.getD j 0 := fun j hj => by
    rw [List.getD_eq_getElem?_getD, List.getD_eq_getElem?_getD, List.getElem?_eq_getElem (by omega), List.getElem?_eq_getElem (by omega), List.getElem_dropLast]
  rw [show ((i : Int), acc).1.toNat = i from rfl, show ((i : Int), acc).2 = acc from rfl]
  by_cases hlt : (i : Int) < (w.length : Int) - 1
  · have hd : w.dropLast.drop i = w.getD i 0 :: w.dropLast.drop (i + 1) := by rw [drop_getD (d := 0) (by omega), hget i (by omega)]
    simp only [impl_Unquote_l1, w64 (n := (w.length : Int) - 1) (by omega) (by omega), decide_eq_true hlt, cond_true, inRange_ok (show (0 : Int) ≤ i by omega) (show (i : Int) < w.length by omega), w64 (n := (i : Int) + 2) (by omega) (by omega), w64 (n := (i : Int) + 1) (by omega) (by omega)]
    rw [show (i : Int).toNat = i from rfl, show ((i : Int) + 1).toNat = i + 1 from rfl, show ((i : Int) + 2).toNat = i + 2 from rfl, hd]
    cases hc : (((w.getD i 0).toNat : Int) != 37) with
    | true =>
      left
      rw [cond_true, room_ok (by simp; omega) (by simp; omega), cond_true, Option.bind_some]
      simp only [early]
      rw [w64 (by omega) (by omega)]
      refine ⟨_, rfl, ⟨i + 1, rfl, by omega, by simp; omega, by omega⟩, ?_, ?_⟩
      · show w.length - (i + 1) < w.length - i; omega
      · rw [dec_plain hc]
        show (match dec (w.dropLast.drop (i + 1)) with | none => _ | some v => Sum.inl ((acc ++ [_]) ++ v)) = _
        cases dec (w.dropLast.drop (i + 1)) <;> simp
    | false =>
      rw [cond_false]
      by_cases h2 : (w.length : Int) - 1 ≤ i + 2
      · right
        rw [decide_eq_true h2, cond_true, dec_bad hc (by rw [List.length_drop, hb]; omega)]
        rfl
      · have hd2 : w.dropLast.drop (i + 1) = w.getD (i + 1) 0 :: w.getD (i + 2) 0 :: w.dropLast.drop (i + 3) := by
          rw [drop_getD (d := 0) (by omega), hget _ (by omega), drop_getD (d := 0) (i := i + 1 + 1) (by omega), hget _ (by omega)]
        have q1 := fig_ok (w.getD (i + 1) 0)
        have q2 := fig_ok (w.getD (i + 2) 0)
        simp only [decide_eq_false h2, cond_false, inRange_ok (show (0 : Int) ≤ i + 1 by omega) (show (i : Int) + 1 < w.length by omega), inRange_ok (show (0 : Int) ≤ i + 2 by omega) (show (i : Int) + 2 < w.length by omega), impl_figure_eq, Option.bind_some, cond_true]
        rw [hd2, dec_hex hc]
        cases hbad : (decide (fig (w.getD (i + 1) 0) < 0) || decide (fig (w.getD (i + 2) 0) < 0)) with
        | true => right; rfl
        | false =>
          left
          simp only [Bool.or_eq_false_iff, decide_eq_false_iff_not] at hbad
          rw [cond_false, cond_false, room_ok (by simp; omega) (by simp; omega), cond_true, Option.bind_some]
          simp only [early]
          rw [w64 (n := 16 * fig (w.getD (i + 1) 0)) (by omega) (by omega), w64 (n := 16 * fig (w.getD (i + 1) 0) + _) (by omega) (by omega), Int.mul_comm 16, byte16 (by omega) (by omega), w64 (by omega) (by omega)]
          refine ⟨_, rfl, ⟨i + 3, by show (i : Int) + 2 + 1 = _; omega, by omega, ?_, by omega⟩, ?_, ?_⟩
          · simp; omega
          · show w.length - ((i : Int) + 2 + 1).toNat < w.length - i; omega
          · show (match dec (w.dropLast.drop ((i : Int) + 2 + 1).toNat) with | none => _ | some v => Sum.inl ((acc ++ [_]) ++ v)) = _
            rw [show ((i : Int) + 2 + 1).toNat = i + 3 by omega, Nat.mul_comm 16]
            cases dec (w.dropLast.drop (i + 3)) <;> simp
  · right
    have e : w.dropLast.drop i = [] := drop_all (by omega)
    simp only [impl_Unquote_l1, w64 (n := (w.length : Int) - 1) (by omega) (by omega), decide_eq_false hlt, cond_false, e, dec, List.append_nil]

theorem impl_Unquote_eq (w : List UInt8) (hw : w.length ≤ 1099511627776) : impl_Unquote w = some (unq w) := by
  unfold impl_Unquote
  rw [impl_Unquote_loop w hw, Option.bind_some]
  have hq : ∀ v, v.length ≤ 4096 → quote v = w → dec (w.dropLast.drop 1) = some v := fun v hv e => by
    have : w.dropLast.drop 1 = v.flatMap quoteB := by
      rw [← e, quote_small hv, show (34 :: (v.flatMap quoteB ++ [34])) = (34 :: v.flatMap quoteB) ++ [34] from rfl, List.dropLast_concat]
      rfl
    rw [this, dec_quote]
  cases hd : dec (w.dropLast.drop 1) with
  | none =>
    rw [unq_not (fun v hv e => by have := hq v hv e; rw [hd] at this; cases this)]
    rfl
  | some v =>
    simp only [early]
    by_cases hw0 : w = []
    · subst hw0
      rw [unq_not (fun v hv e => by rw [quote_small hv] at e; cases e)]
      rfl
    · have e0 : (w == ([] : List UInt8)) = false := by simpa using hw0
      rw [e0, cond_false, impl_Quote_eq, Option.bind_some, Option.bind_some]
      by_cases hv : quote v = w
      · rw [unq_of w v hv hw0, show (quote v == w) = true by simpa using hv]
        rfl
      · rw [unq_not (fun v' hv' e => by have := hq v' hv' e; rw [hd] at this; cases this; exact hv e), show (quote v == w) = false by simpa using hv]
        rfl

theorem impl_quoted_eq (w : List UInt8) (hw : w.length ≤ 1099511627776) : impl_quoted w = some (unq w).1 := by
  unfold impl_quoted
  rw [impl_Unquote_eq w hw]
  rfl

end Go.Proofs.YtddfcajdelfikaaDoor.Vm

set_option linter.unusedVariables false
set_option linter.unusedSimpArgs false
namespace Go.Proofs.YtddfcajdelfikaaDoor.Vm
open Go

def joinHead (p : List UInt8) : List (List UInt8) → List (List UInt8)
  | [] => [p]
  | q :: qs => (p ++ q) :: qs
def splitB (c : UInt8) : List UInt8 → List (List UInt8)
  | [] => [[]]
  | x :: r => bif ((x.toNat : Int) == (c.toNat : Int)) then [] :: splitB c r else joinHead [x] (splitB c r)

theorem joinHead_nil {l : List (List UInt8)} (h : l ≠ []) : joinHead [] l = l := by
  cases l with
  | nil => exact absurd rfl h
  | cons q qs => rfl
theorem joinHead_app (p q : List UInt8) (l : List (List UInt8)) : joinHead p (joinHead q l) = joinHead (p ++ q) l := by
  cases l <;> simp [joinHead]
theorem splitB_ne (c : UInt8) (l : List UInt8) : splitB c l ≠ [] := by
  cases l with
  | nil => simp [splitB]
  | cons x r =>
    unfold splitB
    cases ((x.toNat : Int) == (c.toNat : Int)) with
    | true => simp
    | false => cases h : splitB c r <;> simp [joinHead]
theorem splitB_len (c : UInt8) (l : List UInt8) : (splitB c l).length = l.count c + 1 := by
  induction l with
  | nil => simp [splitB]
  | cons x r ih =>
    unfold splitB
    rw [List.count_cons]
    by_cases h : x = c
    · subst h
      simp [ih]
    · have e : ((x.toNat : Int) == (c.toNat : Int)) = false := by
        simp only [beq_eq_false_iff_ne, ne_eq]
        intro hc
        exact h (UInt8.toNat_inj.1 (by omega))
      rw [e, cond_false]
      have e2 : (x == c) = false := by simpa using h
      rw [e2]
      cases hs : splitB c r with
      | nil => exact absurd hs (splitB_ne c r)
      | cons q qs => rw [hs] at ih; simpa [joinHead] using ih
theorem splitB_none {c : UInt8} {l : List UInt8} (h : l.count c = 0) : splitB c l = [l] := by
  induction l with
  | nil => rfl
  | cons x r ih =>
    rw [List.count_cons] at h
    have hx : x ≠ c := fun e => by subst e; simp at h
    have e : ((x.toNat : Int) == (c.toNat : Int)) = false := by
      simp only [beq_eq_false_iff_ne, ne_eq]
      intro hc
      exact hx (UInt8.toNat_inj.1 (by omega))
    unfold splitB
    rw [e, cond_false, ih (by omega)]
    rfl
theorem byte_eq (x c : UInt8) : ((x.toNat : Int) == (c.toNat : Int)) = (x == c) := by
  by_cases h : x = c
  · subst h; simp
  · have e2 : (x == c) = false := by simpa using h
    rw [e2]
    simp only [beq_eq_false_iff_ne, ne_eq]
    intro hc
    exact h (UInt8.toNat_inj.1 (by omega))

theorem spec_l07Parts_eq (s : List UInt8) (c : UInt8) (hs : s.length ≤ 1099511627776) : spec_l07Parts s c = some (splitB c s) := by
  unfold spec_l07Parts
  have L := loopC_rel (step := spec_l07Parts_l1 s c) (fun t => ∃ f i : Nat, t.1 = f ∧ t.2.1 = i ∧ f ≤ i ∧ i ≤ s.length ∧ t.2.2.length ≤ i) (fun t => s.length - t.2.1.toNat)
    (fun t r => 0 ≤ r.1 ∧ r.1 ≤ s.length ∧ r.2.length ≤ s.length ∧ r.2 ++ [s.drop r.1.toNat] = t.2.2 ++ joinHead ((s.take t.2.1.toNat).drop t.1.toNat) (splitB c (s.drop t.2.1.toNat))) (fun t ⟨f, i, hf, hi, h1, h2, h3⟩ => by
    obtain ⟨f', i', out, rfl⟩ : ∃ f i o, t = (f, i, o) := ⟨t.1, t.2.1, t.2.2, rfl⟩
    obtain rfl : f' = (f : Int) := hf
    obtain rfl : i' = (i : Int) := hi
    have h3 : out.length ≤ i := h3
    simp only [Int.toNat_natCast]
    by_cases hlt : i < s.length
    · left
      simp only [spec_l07Parts_l1, decide_eq_true (show (i : Int) < s.length by omega), cond_true, inRange_ok (show (0 : Int) ≤ i by omega) (show (i : Int) < s.length by omega)]
      rw [show (i : Int).toNat = i from rfl, show (f : Int).toNat = f from rfl, w64 (by omega) (by omega), drop_getD (d := 0) hlt]
      cases hc : (((s.getD i 0).toNat : Int) == (c.toNat : Int)) with
      | true =>
        rw [cond_true, decide_eq_true (show (0 : Int) ≤ f by omega), decide_eq_true (show (f : Int) ≤ i by omega), decide_eq_true (show (i : Int) ≤ s.length by omega)]
        simp only [Bool.and_self, cond_true]
        rw [room_ok (by simp; omega) (by simp; omega), cond_true, Option.bind_some]
        refine ⟨_, rfl, ⟨i + 1, i + 1, rfl, rfl, by omega, by omega, by simp; omega⟩, ?_, fun r ⟨q0, q1, q2, q3⟩ => ⟨q0, q1, q2, ?_⟩⟩
        · show s.length - (i + 1) < s.length - i; omega
        · rw [q3]
          show (out ++ [_]) ++ joinHead ((s.take (i + 1)).drop (i + 1)) (splitB c (s.drop (i + 1))) = _
          rw [show (s.take (i + 1)).drop (i + 1) = [] from drop_all (by rw [List.length_take]; omega), joinHead_nil (splitB_ne _ _), splitB, hc, cond_true]
          simp [joinHead]
      | false =>
        rw [cond_false, Option.bind_some]
        refine ⟨_, rfl, ⟨f, i + 1, rfl, rfl, by omega, by omega, by show out.length ≤ i + 1; omega⟩, ?_, fun r ⟨q0, q1, q2, q3⟩ => ⟨q0, q1, q2, ?_⟩⟩
        · show s.length - (i + 1) < s.length - i; omega
        · rw [q3]
          show out ++ joinHead ((s.take (i + 1)).drop f) (splitB c (s.drop (i + 1))) = _
          rw [splitB, hc, cond_false, joinHead_app]
          congr 2
          rw [← List.take_append_getElem hlt, List.drop_append_of_le_length (by rw [List.length_take]; omega), List.getD_eq_getElem?_getD, List.getElem?_eq_getElem hlt, Option.getD_some]
    · right
      obtain rfl : i = s.length := by omega
      simp only [spec_l07Parts_l1, decide_eq_false (show ¬ (s.length : Int) < s.length by omega), cond_false]
      refine ⟨_, rfl, by show (0 : Int) ≤ f; omega, by show (f : Int) ≤ _; omega, h3, ?_⟩
      show out ++ [s.drop f] = out ++ joinHead ((s.take s.length).drop f) (splitB c (s.drop s.length))
      rw [List.take_length, List.drop_length, splitB]
      simp [joinHead]) (0, 0, []) ⟨0, 0, rfl, rfl, by omega, by omega, by simp⟩
  obtain ⟨r, hr, h0, h1, h2, h3⟩ := L
  rw [hr, Option.bind_some, decide_eq_true h0, decide_eq_true h1, decide_eq_true (Int.le_refl _)]
  simp only [Bool.and_self, cond_true]
  rw [room_ok (by simp; omega) (by simp; omega), cond_true, Int.toNat_natCast, List.take_length, h3]
  simp [joinHead_nil (splitB_ne _ _)]

end Go.Proofs.YtddfcajdelfikaaDoor.Vm

set_option linter.unusedVariables false
set_option linter.unusedSimpArgs false
namespace Go.Proofs.YtddfcajdelfikaaDoor.Vm
open Go

theorem indexByte_neg {l : List UInt8} {c : UInt8} : Lib.indexByte l c < 0 ↔ l.count c = 0 := by
  induction l with
  | nil => simp [Lib.indexByte]
  | cons x r ih =>
    unfold Lib.indexByte
    rw [List.count_cons]
    have hg := Lib.indexByte_ge r c
    cases h : x == c with
    | true => simp
    | false =>
      by_cases h1 : Lib.indexByte r c = -1
      · simp [h1] at ih ⊢; exact ih
      · have : (Lib.indexByte r c == -1) = false := by simpa using h1
        simp [this]
        omega

theorem indexByte_split {l : List UInt8} {c : UInt8} {m : Nat} (h : Lib.indexByte l c = m) : m < l.length ∧ splitB c l = l.take m :: splitB c (l.drop (m + 1)) ∧ l.count c = (l.drop (m + 1)).count c + 1 := by
  induction l generalizing m with
  | nil => simp [Lib.indexByte] at h
  | cons x r ih =>
    unfold Lib.indexByte at h
    rw [List.count_cons]
    have hg := Lib.indexByte_ge r c
    cases hx : x == c with
    | true =>
      rw [hx] at h
      obtain rfl : m = 0 := by simp at h; omega
      refine ⟨by simp, ?_, by simp⟩
      rw [splitB, byte_eq, hx, cond_true]
      rfl
    | false =>
      rw [hx] at h
      by_cases h1 : Lib.indexByte r c = -1
      · simp [h1] at h
      · have e : (Lib.indexByte r c == -1) = false := by simpa using h1
        simp [e] at h
        obtain ⟨k, rfl⟩ : ∃ k, m = k + 1 := ⟨m - 1, by omega⟩
        obtain ⟨q1, q2, q3⟩ := ih (m := k) (by omega)
        refine ⟨by simp; omega, ?_, by simpa using q3⟩
        rw [splitB, byte_eq, hx, cond_false, q2]
        rfl

theorem strings_Index_eq (s : List UInt8) (c : UInt8) : strings_Index s [c] = some (Lib.indexByte s c) := by
  unfold strings_Index stringslite_Index
  simp only [List.length_singleton]
  cases h : ([c] : List UInt8) == s with
  | true =>
    obtain rfl : [c] = s := by simpa using h
    simp [Lib.indexByte]
  | false =>
    simp only [show (((1 : Nat) : Int) == 0) = false from rfl, show (((1 : Nat) : Int) == 1) = true from rfl, Bool.or_self, cond_false, cond_true, show inRange (0 : Int) 1 = true from rfl, stringslite_IndexByte, bytealg_IndexByteString, Option.bind_some]
    rfl

theorem strings_Count_eq (s : List UInt8) (c : UInt8) : strings_Count s [c] = some ((s.count c : Nat) : Int) := by
  unfold strings_Count bytealg_CountString Lib.countByte
  rfl

theorem set_take {α : Type} {l : List α} {i : Nat} {x : α} (h : i < l.length) : (l.set i x).take (i + 1) = l.take i ++ [x] := by
  rw [List.take_succ_eq_append_getElem (by rw [List.length_set]; exact h), List.take_set_of_le (by omega), List.getElem_set_self]

theorem strings_Split_eq (s : List UInt8) (c : UInt8) (hs : s.length ≤ 1099511627776) : strings_Split s [c] = some (splitB c s) := by
  unfold strings_Split strings_genSplit
  have hcl : s.count c ≤ s.length := List.count_le_length
  have e1 : (([c] : List UInt8) == []) = false := rfl
  rw [strings_Count_eq]
  simp only [show ((-1 : Int) == 0) = false from rfl, e1, cond_false, show decide ((-1 : Int) < 0) = true from rfl, cond_true, Option.bind_some]
  rw [w64 (n := (s.length : Int) + 1) (by omega) (by omega), w64 (n := ((s.count c : Nat) : Int) + 1) (by omega) (by omega)]
  have en : (if (s.length : Int) + 1 < ((s.count c : Nat) : Int) + 1 then (s.length : Int) + 1 else ((s.count c : Nat) : Int) + 1) = ((s.count c + 1 : Nat) : Int) := by
    split <;> omega
  have hmk : mkOk 16 ((s.count c + 1 : Nat) : Int) = true := by
    simp only [mkOk, Bool.and_eq_true, decide_eq_true_eq]
    omega
  rw [en]
  have L := loopC_rel (step := strings_genSplit_l1 s ((s.count c : Nat) : Int) [c] 0) (fun t => ∃ i : Nat, t.2.1 = i ∧ t.1.length ≤ s.length ∧ i + t.1.count c = s.count c ∧ t.2.2.length = s.count c + 1) (fun t => t.1.length)
    (fun t r => ∃ j : Nat, r.2.1 = j ∧ j < r.2.2.length ∧ r.2.2.length = s.count c + 1 ∧ r.2.2.take j ++ [r.1] = t.2.2.take t.2.1.toNat ++ splitB c t.1) (fun t ⟨i, hi, h1, h2, h3⟩ => by
      obtain ⟨u, i', a, rfl⟩ : ∃ f i o, t = (f, i, o) := ⟨t.1, t.2.1, t.2.2, rfl⟩
      obtain rfl : i' = (i : Int) := hi
      have h1 : u.length ≤ s.length := h1
      have h2 : i + u.count c = s.count c := h2
      have h3 : a.length = s.count c + 1 := h3
      have hge := Lib.indexByte_ge u c
      simp only [strings_genSplit_l1, w64 (n := (s.length : Int) + 1) (by omega) (by omega), w64 (n := ((s.count c : Nat) : Int) + 1) (by omega) (by omega), en, strings_Index_eq, Option.bind_some]
      rw [w64 (n := ((s.count c + 1 : Nat) : Int) - 1) (by omega) (by omega), show (i : Int).toNat = i from rfl]
      have fin : u.count c = 0 → ∃ j : Nat, (i : Int) = j ∧ j < a.length ∧ a.length = s.count c + 1 ∧ a.take j ++ [u] = a.take i ++ splitB c u := fun h0 => ⟨i, rfl, by omega, h3, by rw [splitB_none h0]⟩
      by_cases hlt : (i : Int) < ((s.count c + 1 : Nat) : Int) - 1
      · rw [decide_eq_true hlt, cond_true]
        have hpos : ¬ Lib.indexByte u c < 0 := fun h => by have := indexByte_neg.1 h; omega
        obtain ⟨m, hm⟩ := Int.eq_ofNat_of_zero_le (show 0 ≤ Lib.indexByte u c by omega)
        obtain ⟨q1, q2, q3⟩ := indexByte_split hm
        left
        rw [hm, decide_eq_false (by omega), cond_false, Int.add_zero, w64 (n := (m : Int)) (by omega) (by omega), decide_eq_true (Int.le_refl 0), decide_eq_true (show (0 : Int) ≤ m by omega), decide_eq_true (show (m : Int) ≤ u.length by omega)]
        simp only [Bool.and_self, cond_true]
        rw [at?_ok (n := i) rfl (by omega), Option.bind_some, List.length_singleton, w64 (n := (m : Int) + ((1 : Nat) : Int)) (by omega) (by omega), decide_eq_true (show (0 : Int) ≤ (m : Int) + ((1 : Nat) : Int) by omega), decide_eq_true (show (m : Int) + ((1 : Nat) : Int) ≤ u.length by omega), decide_eq_true (Int.le_refl _)]
        simp only [Bool.and_self, cond_true]
        rw [w64 (by omega) (by omega)]
        refine ⟨_, rfl, ⟨i + 1, rfl, ?_, ?_, ?_⟩, ?_, ?_⟩
        · show (List.drop (m + 1) (u.take u.length)).length ≤ _
          rw [List.take_length, List.length_drop]; omega
        · show i + 1 + (List.drop (m + 1) (u.take u.length)).count c = _
          rw [List.take_length]; omega
        · show (a.set i _).length = _
          rw [List.length_set]; exact h3
        · show (List.drop (m + 1) (u.take u.length)).length < u.length
          rw [List.take_length, List.length_drop]; omega
        · rintro r ⟨j, p1, p2, p3, p4⟩
          refine ⟨j, p1, p2, p3, p4.trans ?_⟩
          show (a.set i ((u.take m).drop 0)).take (i + 1) ++ splitB c (List.drop (m + 1) (u.take u.length)) = _
          rw [set_take (by omega), List.take_length, List.drop_zero, q2, List.append_assoc]
          rfl
      · right
        rw [decide_eq_false hlt, cond_false]
        exact ⟨_, rfl, fin (by omega)⟩) (s, 0, List.replicate (s.count c + 1) []) ⟨0, rfl, Nat.le_refl _, Nat.zero_add _, by simp⟩
  obtain ⟨⟨u, j', a⟩, hr, j, rfl, q1, q2, q3⟩ := L
  have q1 : j < a.length := q1
  have q2 : a.length = s.count c + 1 := q2
  have q3 : a.take j ++ [u] = splitB c s := by rw [q3]; rfl
  rw [show mkOk 16 ((s.count c + 1 : Nat) : Int) = true from hmk, cond_true, Int.toNat_natCast, hr, Option.bind_some]
  simp only []
  rw [at?_ok (n := j) rfl q1, Option.bind_some, w64 (n := (j : Int) + 1) (by omega) (by omega), List.length_set, decide_eq_true (Int.le_refl 0), decide_eq_true (show (0 : Int) ≤ (j : Int) + 1 by omega), decide_eq_true (show (j : Int) + 1 ≤ a.length by omega)]
  simp only [Bool.and_self, cond_true, Option.bind_some]
  rw [show ((j : Int) + 1).toNat = j + 1 from rfl, show ((j : Int)).toNat = j from rfl, set_take q1, q3]

end Go.Proofs.YtddfcajdelfikaaDoor.Vm

set_option linter.unusedVariables false
set_option linter.unusedSimpArgs false
namespace Go.Proofs.YtddfcajdelfikaaDoor.Vm
open Go

theorem less_not (x y : List UInt8) : (!(Op.bytesLess x y || x == y)) = Op.bytesLess y x := by
  induction x generalizing y with
  | nil => cases y <;> simp [Op.bytesLess]
  | cons a x ih =>
    cases y with
    | nil => simp [Op.bytesLess]
    | cons b y =>
      have h := ih y
      have hc : ((a :: x) == (b :: y)) = (a == b && x == y) := rfl
      rw [hc]
      simp only [Op.bytesLess]
      rw [← h]
      by_cases hab : a = b
      · subst hab
        have : ¬ a < a := UInt8.lt_irrefl a
        simp [this]
      · have h1 : (a == b) = false := by simpa using hab
        have h2 : (b == a) = false := by simpa using Ne.symm hab
        rw [h1, h2]
        by_cases hlt : a < b
        · have : ¬ b < a := fun h => UInt8.lt_asymm hlt h
          simp [hlt, this]
        · have : b < a := by
            rcases UInt8.lt_or_lt_of_ne (Ne.symm hab) with h | h
            · exact h
            · exact absurd h hlt
          simp [hlt, this]

def rangeOk (r : S_impl_Range) : Bool := ((decide ((r.f_Lo.length : Int) ≤ 17)) && (decide ((r.f_Hi.length : Int) ≤ 17))) && ((r.f_Hi == ([] : List UInt8)) || (Op.bytesLess r.f_Lo r.f_Hi))
def reachOk (r : S_impl_Range) : Bool := rangeOk r && decide ((r.f_Lo.length : Int) ≤ 9) && decide ((r.f_Hi.length : Int) ≤ 9)
def userOk (k : List UInt8) : Bool := decide ((1 : Int) ≤ k.length) && decide ((k.length : Int) ≤ 8)
def uvalOk (k : List UInt8) : Bool := decide ((k.length : Int) ≤ 20)
def bareB (a : S_impl_Ask) : Bool := (a.f_Range.f_Lo == ([] : List UInt8)) && (a.f_Range.f_Hi == ([] : List UInt8)) && (a.f_Most == (0 : Int)) && (a.f_Back == false)
def askOk (a : S_impl_Ask) : Bool :=
  if a.f_Kind = 4 then (a.f_Key == ([] : List UInt8)) && (a.f_Val == ([] : List UInt8)) && reachOk a.f_Range && decide ((1 : Int) ≤ a.f_Most) && decide (a.f_Most ≤ 8)
  else if a.f_Kind = 2 then userOk a.f_Key && uvalOk a.f_Val && bareB a
  else if a.f_Kind = 1 ∨ a.f_Kind = 3 then userOk a.f_Key && (a.f_Val == ([] : List UInt8)) && bareB a
  else false
def noAsk (a : S_impl_Ask) : Bool := (a.f_Kind == (0 : Int)) && ((a.f_Key == ([] : List UInt8)) && ((a.f_Val == ([] : List UInt8)) && ((a.f_Range.f_Lo == ([] : List UInt8)) && ((a.f_Range.f_Hi == ([] : List UInt8)) && ((a.f_Most == (0 : Int)) && (a.f_Back == false))))))
def callOk (x : S_impl_Call) : Bool := if x.f_Kind = 2 then askOk x.f_Ask else (decide ((1 : Int) ≤ x.f_Kind)) && (decide (x.f_Kind ≤ (4 : Int))) && noAsk x.f_Ask

theorem spec_RangeOk_eq (r : S_impl_Range) : spec_RangeOk r = some (rangeOk r) := by
  unfold spec_RangeOk rangeOk
  by_cases h1 : (17 : Int) < r.f_Lo.length
  · rw [decide_eq_true h1, decide_eq_false (show ¬ (r.f_Lo.length : Int) ≤ 17 by omega)]; rfl
  · rw [decide_eq_false h1, decide_eq_true (show (r.f_Lo.length : Int) ≤ 17 by omega)]
    by_cases h2 : (17 : Int) < r.f_Hi.length
    · rw [decide_eq_true h2, decide_eq_false (show ¬ (r.f_Hi.length : Int) ≤ 17 by omega)]; rfl
    · rw [decide_eq_false h2, decide_eq_true (show (r.f_Hi.length : Int) ≤ 17 by omega)]; rfl
theorem impl_RangeOk_eq (r : S_impl_Range) : impl_RangeOk r = some (rangeOk r) := by
  unfold impl_RangeOk rangeOk
  rw [less_not]
theorem spec_ReachOk_eq (r : S_impl_Range) : spec_ReachOk r = some (reachOk r) := by
  unfold spec_ReachOk; rw [spec_RangeOk_eq]; rfl
theorem impl_ReachOk_eq (r : S_impl_Range) : impl_ReachOk r = some (reachOk r) := by
  unfold impl_ReachOk; rw [impl_RangeOk_eq]; rfl
theorem spec_UserOk_eq (k : List UInt8) : spec_UserOk k = some (userOk k) := rfl
theorem impl_UserOk_eq (k : List UInt8) : impl_UserOk k = some (userOk k) := rfl
theorem spec_UvalOk_eq (k : List UInt8) : spec_UvalOk k = some (uvalOk k) := rfl
theorem impl_UvalOk_eq (k : List UInt8) : impl_UvalOk k = some (uvalOk k) := rfl

theorem spec_AskOk_eq (a : S_impl_Ask) : spec_AskOk a = some (askOk a) := by
  unfold spec_AskOk askOk bareB
  simp only [spec_ReachOk_eq, spec_UserOk_eq, spec_UvalOk_eq, Option.bind_some]
  by_cases h4 : a.f_Kind = 4
  · simp only [h4, if_true, show ((4 : Int) == 4) = true from rfl, cond_true]
    cases (a.f_Key == ([] : List UInt8)) <;> cases (a.f_Val == ([] : List UInt8)) <;> rfl
  · rw [show (a.f_Kind == (4 : Int)) = false by simpa using h4, if_neg h4]
    by_cases h2 : a.f_Kind = 2
    · simp only [h2, if_true, show ((2 : Int) != 2) = false from rfl, show decide ((1 : Int) ≤ 2) = true from rfl, show decide ((2 : Int) ≤ 3) = true from rfl, Bool.false_and, Bool.and_self, cond_false, cond_true]
      cases userOk a.f_Key <;> cases uvalOk a.f_Val <;> cases (a.f_Range.f_Lo == ([] : List UInt8)) <;> cases (a.f_Range.f_Hi == ([] : List UInt8)) <;> cases (a.f_Most == (0 : Int)) <;> cases a.f_Back <;> rfl
    · rw [if_neg h2, show (a.f_Kind != (2 : Int)) = true by simpa using h2]
      by_cases h13 : a.f_Kind = 1 ∨ a.f_Kind = 3
      · rw [if_pos h13, show (decide ((1 : Int) ≤ a.f_Kind) && decide (a.f_Kind ≤ (3 : Int))) = true by simp; omega]
        have hu : (a.f_Val == ([] : List UInt8)) = true → uvalOk a.f_Val = true := fun h => by
          have : a.f_Val = [] := by simpa using h
          rw [this]; rfl
        cases hv : (a.f_Val == ([] : List UInt8)) with
        | false => simp
        | true =>
          rw [hu hv]
          cases userOk a.f_Key <;> cases (a.f_Range.f_Lo == ([] : List UInt8)) <;> cases (a.f_Range.f_Hi == ([] : List UInt8)) <;> cases (a.f_Most == (0 : Int)) <;> cases a.f_Back <;> rfl
      · rw [if_neg h13, show (decide ((1 : Int) ≤ a.f_Kind) && decide (a.f_Kind ≤ (3 : Int))) = false by simp; omega]
        cases (a.f_Val == ([] : List UInt8)) <;> rfl

theorem impl_AskOk_eq (a : S_impl_Ask) : impl_AskOk a = some (askOk a) := by
  unfold impl_AskOk askOk bareB impl_within
  simp only [impl_ReachOk_eq, impl_UserOk_eq, impl_UvalOk_eq, Option.bind_some, beq_self_eq_true, Bool.true_and]
  by_cases h1 : a.f_Kind = 1
  · simp only [h1, show ((1 : Int) == 1) = true from rfl, cond_true, if_neg (show ¬ (1 : Int) = 4 by decide), if_neg (show ¬ (1 : Int) = 2 by decide), true_or, if_true]
    cases userOk a.f_Key <;> cases (a.f_Val == ([] : List UInt8)) <;> cases (a.f_Range.f_Lo == ([] : List UInt8)) <;> cases (a.f_Range.f_Hi == ([] : List UInt8)) <;> cases (a.f_Most == (0 : Int)) <;> cases a.f_Back <;> rfl
  · rw [show (a.f_Kind == (1 : Int)) = false by simpa using h1, cond_false]
    by_cases h3 : a.f_Kind = 3
    · simp only [h3, show ((3 : Int) == 3) = true from rfl, cond_true, if_neg (show ¬ (3 : Int) = 4 by decide), if_neg (show ¬ (3 : Int) = 2 by decide), or_true, if_true]
      cases userOk a.f_Key <;> cases (a.f_Val == ([] : List UInt8)) <;> cases (a.f_Range.f_Lo == ([] : List UInt8)) <;> cases (a.f_Range.f_Hi == ([] : List UInt8)) <;> cases (a.f_Most == (0 : Int)) <;> cases a.f_Back <;> rfl
    · rw [show (a.f_Kind == (3 : Int)) = false by simpa using h3, cond_false]
      by_cases h2 : a.f_Kind = 2
      · simp only [h2, show ((2 : Int) == 2) = true from rfl, cond_true, if_neg (show ¬ (2 : Int) = 4 by decide), if_true]
        cases userOk a.f_Key <;> cases uvalOk a.f_Val <;> cases (a.f_Range.f_Lo == ([] : List UInt8)) <;> cases (a.f_Range.f_Hi == ([] : List UInt8)) <;> cases (a.f_Most == (0 : Int)) <;> cases a.f_Back <;> rfl
      · rw [show (a.f_Kind == (2 : Int)) = false by simpa using h2, cond_false, if_neg h2, if_neg (show ¬ (a.f_Kind = 1 ∨ a.f_Kind = 3) by omega)]
        by_cases h4 : a.f_Kind = 4
        · simp only [h4, show ((4 : Int) == 4) = true from rfl, cond_true, if_true]
          cases reachOk a.f_Range <;> cases (a.f_Key == ([] : List UInt8)) <;> cases (a.f_Val == ([] : List UInt8)) <;> cases decide ((1 : Int) ≤ a.f_Most) <;> cases decide (a.f_Most ≤ (8 : Int)) <;> rfl
        · rw [show (a.f_Kind == (4 : Int)) = false by simpa using h4, if_neg h4]
          rfl

theorem spec_CallOk_eq (x : S_impl_Call) : spec_CallOk x = some (callOk x) := by
  unfold spec_CallOk callOk noAsk
  rw [spec_AskOk_eq]
  by_cases h2 : x.f_Kind = 2
  · rw [if_pos h2, show (x.f_Kind == (2 : Int)) = true by simpa using h2]; rfl
  · rw [if_neg h2, show (x.f_Kind == (2 : Int)) = false by simpa using h2]; rfl
theorem impl_CallOk_eq (x : S_impl_Call) : impl_CallOk x = some (callOk x) := by
  unfold impl_CallOk callOk noAsk impl_within
  rw [impl_AskOk_eq]
  by_cases h2 : x.f_Kind = 2
  · rw [if_pos h2, show (x.f_Kind == (2 : Int)) = true by simpa using h2]; rfl
  · rw [if_neg h2, show (x.f_Kind == (2 : Int)) = false by simpa using h2]
    simp only [Option.bind_some, cond_false]
    cases (decide ((1 : Int) ≤ x.f_Kind) && decide (x.f_Kind ≤ (4 : Int))) <;> rfl

end Go.Proofs.YtddfcajdelfikaaDoor.Vm

set_option linter.unusedVariables false
set_option linter.unusedSimpArgs false
namespace Go.Proofs.YtddfcajdelfikaaDoor.Vm
open Go

def askWords (a : S_impl_Ask) : List (List UInt8) :=
  if a.f_Kind = 1 then [[103, 101, 116], quote a.f_Key]
  else if a.f_Kind = 2 then [[112, 117, 116], quote a.f_Key, quote a.f_Val]
  else if a.f_Kind = 3 then [[100, 101, 108], quote a.f_Key]
  else [bif a.f_Back then [98, 97, 99, 107] else [115, 99, 97, 110], quote a.f_Range.f_Lo, quote a.f_Range.f_Hi, numText a.f_Most]
def callWords (x : S_impl_Call) : List (List UInt8) :=
  if x.f_Kind = 1 then [[98, 101, 103, 105, 110]]
  else if x.f_Kind = 3 then [[99, 111, 109, 109, 105, 116]]
  else if x.f_Kind = 4 then [[97, 98, 111, 114, 116]]
  else askWords x.f_Ask

theorem impl_askWords_eq (a : S_impl_Ask) : impl_askWords a = some (askWords a) := by
  unfold impl_askWords askWords
  simp only [impl_Quote_eq, impl_NumText_eq, Option.bind_some]
  by_cases h1 : a.f_Kind = 1
  · rw [if_pos h1, show (a.f_Kind == (1 : Int)) = true by simpa using h1]; rfl
  · rw [if_neg h1, show (a.f_Kind == (1 : Int)) = false by simpa using h1, cond_false]
    by_cases h2 : a.f_Kind = 2
    · rw [if_pos h2, show (a.f_Kind == (2 : Int)) = true by simpa using h2]; rfl
    · rw [if_neg h2, show (a.f_Kind == (2 : Int)) = false by simpa using h2, cond_false]
      by_cases h3 : a.f_Kind = 3
      · rw [if_pos h3, show (a.f_Kind == (3 : Int)) = true by simpa using h3]; rfl
      · rw [if_neg h3, show (a.f_Kind == (3 : Int)) = false by simpa using h3, cond_false]
        cases a.f_Back <;> rfl
theorem impl_callWords_eq (x : S_impl_Call) : impl_callWords x = some (callWords x) := by
  unfold impl_callWords callWords
  rw [impl_askWords_eq]
  by_cases h1 : x.f_Kind = 1
  · rw [if_pos h1, show (x.f_Kind == (1 : Int)) = true by simpa using h1]; rfl
  · rw [if_neg h1, show (x.f_Kind == (1 : Int)) = false by simpa using h1, cond_false]
    by_cases h2 : x.f_Kind = 3
    · rw [if_pos h2, show (x.f_Kind == (3 : Int)) = true by simpa using h2]; rfl
    · rw [if_neg h2, show (x.f_Kind == (3 : Int)) = false by simpa using h2, cond_false]
      by_cases h3 : x.f_Kind = 4
      · rw [if_pos h3, show (x.f_Kind == (4 : Int)) = true by simpa using h3]; rfl
      · rw [if_neg h3, show (x.f_Kind == (4 : Int)) = false by simpa using h3, cond_false]
        rfl

theorem join_two (x y : List UInt8) : Lib.join [x, y] [32] = x ++ [32] ++ y := by simp [Lib.join_cons, Lib.joinTail]
theorem join_cons2 (x y : List UInt8) (r : List (List UInt8)) : Lib.join (x :: y :: r) [32] = x ++ [32] ++ Lib.join (y :: r) [32] := by
  rw [Lib.join_cons, Lib.join_cons]
  simp [Lib.joinTail]

/-- What an ask that is right can be. -/
theorem askOk_cases {a : S_impl_Ask} (h : askOk a = true) :
    ((a.f_Kind = 4 ∧ a.f_Key = [] ∧ a.f_Val = [] ∧ a.f_Range.f_Lo.length ≤ 9 ∧ a.f_Range.f_Hi.length ≤ 9 ∧ 1 ≤ a.f_Most ∧ a.f_Most ≤ 8) ∨
     (a.f_Kind = 2 ∧ 1 ≤ a.f_Key.length ∧ a.f_Key.length ≤ 8 ∧ a.f_Val.length ≤ 20 ∧ a.f_Range = ⟨[], []⟩ ∧ a.f_Most = 0 ∧ a.f_Back = false) ∨
     ((a.f_Kind = 1 ∨ a.f_Kind = 3) ∧ 1 ≤ a.f_Key.length ∧ a.f_Key.length ≤ 8 ∧ a.f_Val = [] ∧ a.f_Range = ⟨[], []⟩ ∧ a.f_Most = 0 ∧ a.f_Back = false)) := by
  unfold askOk at h
  have hb : bareB a = true → a.f_Range = ⟨[], []⟩ ∧ a.f_Most = 0 ∧ a.f_Back = false := fun h => by
    simp only [bareB, Bool.and_eq_true, beq_iff_eq] at h
    obtain ⟨⟨⟨h1, h2⟩, h3⟩, h4⟩ := h
    refine ⟨?_, h3, h4⟩
    cases hr : a.f_Range with
    | mk lo hi => rw [hr] at h1 h2; simp only at h1 h2; rw [h1, h2]
  split at h
  · rename_i h4
    simp only [reachOk, Bool.and_eq_true, decide_eq_true_eq, beq_iff_eq] at h
    obtain ⟨⟨⟨⟨h1, h2⟩, ⟨⟨_, h5⟩, h6⟩⟩, h7⟩, h8⟩ := h
    exact .inl ⟨h4, h1, h2, by omega, by omega, h7, h8⟩
  · split at h
    · rename_i h2
      simp only [userOk, uvalOk, Bool.and_eq_true, decide_eq_true_eq] at h
      obtain ⟨⟨⟨h3, h4⟩, h5⟩, h6⟩ := h
      exact .inr (.inl ⟨h2, by omega, by omega, by omega, hb h6⟩)
    · split at h
      · rename_i h13
        simp only [userOk, Bool.and_eq_true, decide_eq_true_eq, beq_iff_eq] at h
        obtain ⟨⟨⟨h3, h4⟩, h5⟩, h6⟩ := h
        exact .inr (.inr ⟨h13, by omega, by omega, h5, hb h6⟩)
      · cases h
theorem noAsk_eq {a : S_impl_Ask} : noAsk a = true ↔ a = ⟨0, [], [], ⟨[], []⟩, 0, false⟩ := by
  obtain ⟨k, y, v, ⟨lo, hi⟩, m, b⟩ := a
  simp [noAsk, and_assoc]
theorem callOk_cases {x : S_impl_Call} (h : callOk x = true) : (x.f_Kind = 2 ∧ askOk x.f_Ask = true) ∨ ((x.f_Kind = 1 ∨ x.f_Kind = 3 ∨ x.f_Kind = 4) ∧ x.f_Ask = ⟨0, [], [], ⟨[], []⟩, 0, false⟩) := by
  unfold callOk at h
  split at h
  · rename_i h2; exact .inl ⟨h2, h⟩
  · rename_i h2
    simp only [Bool.and_eq_true, decide_eq_true_eq] at h
    exact .inr ⟨by omega, noAsk_eq.1 h.2⟩

theorem quote_ne {v : List UInt8} (h : v.length ≤ 4096) : quote v ≠ [] := by rw [quote_small h]; simp
theorem numText_ne {n : Int} (h : isNum n = true) : numText n ≠ [] := by
  unfold numText
  rw [h, cond_true]
  intro e
  have := digs_pos n.toNat
  rw [e] at this
  simp at this

theorem callWords_ne {x : S_impl_Call} (h : callOk x = true) : ∀ w ∈ callWords x, w ≠ [] := by
  unfold callWords
  split
  · simp
  · split
    · simp
    · split
      · simp
      · rcases callOk_cases h with ⟨h2, ha⟩ | ⟨h2, _⟩
        · unfold askWords
          rcases askOk_cases ha with ⟨h1, h3, h4, h5, h6, h7, h8⟩ | ⟨h1, h3, h4, h5, h6⟩ | ⟨h1 | h1, h3, h4, h5, h6⟩ <;> simp only [h1]
          · have q1 := quote_ne (v := x.f_Ask.f_Range.f_Lo) (by omega)
            have q2 := quote_ne (v := x.f_Ask.f_Range.f_Hi) (by omega)
            have q3 := numText_ne (isNum_iff.2 (show 0 ≤ x.f_Ask.f_Most ∧ x.f_Ask.f_Most ≤ 1099511627775 by omega))
            cases x.f_Ask.f_Back <;> simp [q1, q2, q3]
          · have q1 := quote_ne (v := x.f_Ask.f_Key) (by omega)
            have q2 := quote_ne (v := x.f_Ask.f_Val) (by omega)
            simp [q1, q2]
          · have q1 := quote_ne (v := x.f_Ask.f_Key) (by omega)
            simp [q1]
          · have q1 := quote_ne (v := x.f_Ask.f_Key) (by omega)
            simp [q1]
        · omega

theorem callWords_bound (x : S_impl_Call) : (callWords x).length ≤ 4 ∧ (Lib.join (callWords x) [32]).length ≤ 100000 := by
  have q : ∀ v, (quote v).length ≤ 12290 := quote_len
  have n : ∀ v, (numText v).length ≤ 13 := numText_len
  have q1 := q x.f_Ask.f_Key
  have q2 := q x.f_Ask.f_Val
  have q3 := q x.f_Ask.f_Range.f_Lo
  have q4 := q x.f_Ask.f_Range.f_Hi
  have q5 := n x.f_Ask.f_Most
  unfold callWords askWords
  (repeat' split) <;> (try cases x.f_Ask.f_Back) <;> simp [join_cons2, Lib.join_one] <;> omega

theorem spec_l14Call_eq (x : S_impl_Call) : spec_l14Call x = some (bif callOk x then Lib.join (callWords x) [32] else []) := by
  have q : ∀ v, (quote v).length ≤ 12290 := quote_len
  have n : ∀ v, (numText v).length ≤ 13 := numText_len
  have q1 := q x.f_Ask.f_Key
  have q2 := q x.f_Ask.f_Val
  have q3 := q x.f_Ask.f_Range.f_Lo
  have q4 := q x.f_Ask.f_Range.f_Hi
  have q5 := n x.f_Ask.f_Most
  unfold spec_l14Call callWords askWords
  rw [spec_CallOk_eq]
  simp only [spec_Quote_eq, spec_NumText_eq, Option.bind_some]
  cases callOk x with
  | false => rfl
  | true =>
    have dt : ∀ {p : Prop} [Decidable p], p → decide p = true := fun h => decide_eq_true h
    simp only [Bool.not_true, cond_false, cond_true]
    by_cases h1 : x.f_Kind = 1
    · simp [h1, Lib.join_one]
    by_cases h3 : x.f_Kind = 3
    · simp [h3, Lib.join_one]
    by_cases h4 : x.f_Kind = 4
    · simp [h4, Lib.join_one]
    simp only [if_neg h1, if_neg h3, if_neg h4, show (x.f_Kind == (1 : Int)) = false by simpa using h1, show (x.f_Kind == (3 : Int)) = false by simpa using h3, show (x.f_Kind == (4 : Int)) = false by simpa using h4, cond_false]
    by_cases g1 : x.f_Ask.f_Kind = 1
    · rw [if_pos g1, show (x.f_Ask.f_Kind == (1 : Int)) = true by simpa using g1, cond_true, dt (by simp; omega), cond_true, join_two]
      rfl
    rw [if_neg g1, show (x.f_Ask.f_Kind == (1 : Int)) = false by simpa using g1, cond_false]
    by_cases g2 : x.f_Ask.f_Kind = 2
    · rw [if_pos g2, show (x.f_Ask.f_Kind == (2 : Int)) = true by simpa using g2, cond_true, dt (by simp; omega), cond_true, dt (by simp; omega), cond_true, dt (by simp; omega), cond_true, join_cons2, join_two]
      simp
    rw [if_neg g2, show (x.f_Ask.f_Kind == (2 : Int)) = false by simpa using g2, cond_false]
    by_cases g3 : x.f_Ask.f_Kind = 3
    · rw [if_pos g3, show (x.f_Ask.f_Kind == (3 : Int)) = true by simpa using g3, cond_true, dt (by simp; omega), cond_true, join_two]
      rfl
    rw [if_neg g3, show (x.f_Ask.f_Kind == (3 : Int)) = false by simpa using g3, cond_false]
    cases x.f_Ask.f_Back with
    | true =>
      simp only [cond_true]
      rw [dt (by simp; omega), cond_true, dt (by simp; omega), cond_true, dt (by simp; omega), cond_true, dt (by simp; omega), cond_true, dt (by simp; omega), cond_true, join_cons2, join_cons2, join_two]
      simp
    | false =>
      simp only [cond_false]
      rw [dt (by simp; omega), cond_true, dt (by simp; omega), cond_true, dt (by simp; omega), cond_true, dt (by simp; omega), cond_true, dt (by simp; omega), cond_true, join_cons2, join_cons2, join_two]
      simp

end Go.Proofs.YtddfcajdelfikaaDoor.Vm
