/- Regions that draw their order: the rule. -/
import Derived.Test.YtddfcajdelfikaaDoorVm29
set_option linter.unusedVariables false
set_option linter.unusedSimpArgs false
set_option linter.unusedSectionVars false
namespace Go.Proofs.YtddfcajdelfikaaDoor.Vm
open Go

def direct (ops : Array Oper) (i : Nat) : List Nat :=
  match ops[i]? with
  | some o => (o.after.toList.filter (Region.binds .any)).map Edge.on
  | none => []

def getL : List (List Nat) → Nat → List Nat
  | [], _ => []
  | l :: _, 0 => l
  | _ :: r, n + 1 => getL r n

/-- All of it follows from what an operation waits for. -/
def Foll (ops : Array Oper) (i : Nat) (c : List Nat) : Prop :=
  ∀ l : List Nat, (∀ j, j ∈ l → ∀ k, k ∈ direct ops j → k ∈ l) → (∀ k, k ∈ direct ops i → k ∈ l) → ∀ k, k ∈ c → k ∈ l

/-- What has been shown of some operations. -/
def Acc (P : Program) (ops : Array Oper) (st0 : St) (C : List (List Nat)) (A : List OD) : Prop :=
  ∀ x, x ∈ A → ∃ pre, GStep P ops st0 pre x ∧ ∀ y, y ∈ pre → y ∈ A ∧ y.i ∈ getL C x.i

theorem nodup_len : ∀ (n : Nat) (l : List Nat), l.Nodup → (∀ x, x ∈ l → x < n) → l.length ≤ n
  | 0, l, _, h => by
    cases l with
    | nil => simp
    | cons x l => exact absurd (h x List.mem_cons_self) (by omega)
  | n + 1, l, hn, h => by
    by_cases hm : n ∈ l
    · have h1 := nodup_len n (l.erase n) (hn.erase n) (fun x hx => by
        have := (hn.mem_erase_iff).1 hx
        have := h x this.2
        omega)
      rw [List.length_erase_of_mem hm] at h1
      omega
    · have h1 := nodup_len n l hn (fun x hx => by
        have := h x hx
        have : x ≠ n := fun e => hm (by rw [← e]; exact hx)
        omega)
      omega

structure Listed (n : Nat) (J : List Nat) (l : Array Bool) : Prop where
  size : l.size = n
  at_ : ∀ j, j < n → (l.getD j true = true ↔ j ∈ J)

theorem Listed.set {n : Nat} {J : List Nat} {l : Array Bool} (h : Listed n J l) (i : Nat) : Listed n (i :: J) (l.setIfInBounds i true) where
  size := by rw [Array.size_setIfInBounds]; exact h.size
  at_ j hj := by
    simp only [List.mem_cons]
    by_cases e : i = j
    · subst e
      have : i < l.size := by rw [h.size]; exact hj
      simp [this]
    · have := h.at_ j hj
      rw [getD_set_ne true e, this]
      constructor
      · exact .inr
      · rintro (e' | h')
        · exact absurd e'.symm e
        · exact h'

theorem Listed.ext {n : Nat} {X Y : List Nat} {l m : Array Bool} (h : Listed n X l) (h' : Listed n Y m) (he : ∀ j, j ∈ X ↔ j ∈ Y) : l = m := by
  refine Array.ext (by rw [h.size, h'.size]) fun j h1 h2 => ?_
  have hj : j < n := by rw [← h.size]; exact h1
  have a := h.at_ j hj
  have b := h'.at_ j hj
  rw [he j, ← b] at a
  have e1 : l.getD j true = l[j] := by simp [Array.getD, h1]
  have e2 : m.getD j true = m[j] := by simp [Array.getD, h2]
  rw [e1, e2] at a
  cases hl : l[j] <;> cases hm : m[j] <;> simp_all

def setAll : Array Bool → List Nat → Array Bool
  | l, [] => l
  | l, i :: J => setAll (l.setIfInBounds i true) J

theorem Listed.setAll {n : Nat} : ∀ {J K : List Nat} {l : Array Bool}, Listed n K l → Listed n (J.reverse ++ K) (setAll l J)
  | [], K, l, h => h
  | i :: J, K, l, h => by
    have := Listed.setAll (J := J) (h.set i)
    simpa [Vm.setAll] using this

section
variable {P : Program} {ops : Array Oper} {st0 : St} {Q : St → Prop}

structure DrawOk (P : Program) (ops : Array Oper) (st0 : St) (C : List (List Nat)) (P0 : List Nat) (A : List OD) : Prop where
  h0 : noDup (keysE st0.env) = true
  each : ∀ x, x ∈ A → x.ok = true ∧ freshD x.d st0 = true ∧ x.i < ops.size
  nd : (A.map OD.d).Nodup
  ni : (A.map OD.i ++ P0).Nodup
  p0 : ∀ i, i ∈ P0 → i < ops.size ∧ ∀ j, j ∈ direct ops i → j ∈ P0
  off : ∀ x, x ∈ A → ∀ y, y ∈ A → offD x.d y.env = true ∨ x.i = y.i ∨ x.i ∈ getL C y.i
  step : Acc P ops st0 C A
  foll : ∀ j, Foll ops j (getL C j)
  rest : ∀ i, i < ops.size → (i ∈ A.map OD.i ∨ i ∈ P0) ∨ ∀ y, y ∈ A → y.i ∈ getL C i
  back : ∀ i, i < ops.size → ∀ j, j ∈ direct ops i → j < i

theorem eq_of_map {α β : Type} {f : α → β} : ∀ {A : List α}, (A.map f).Nodup → ∀ {x y : α}, x ∈ A → y ∈ A → f x = f y → x = y
  | [], _, _, _, h, _, _ => by cases h
  | a :: A, hn, x, y, hx, hy, he => by
    simp only [List.map_cons, List.nodup_cons] at hn
    rcases List.mem_cons.1 hx with e1 | h1 <;> rcases List.mem_cons.1 hy with e2 | h2
    · rw [e1, e2]
    · subst e1; exact absurd (List.mem_map.2 ⟨y, h2, he.symm⟩) hn.1
    · subst e2; exact absurd (List.mem_map.2 ⟨x, h1, he⟩) hn.1
    · exact eq_of_map hn.2 h1 h2 he

theorem nodup_of_map {α β : Type} (f : α → β) : ∀ {l : List α}, (l.map f).Nodup → l.Nodup
  | [], _ => List.nodup_nil
  | a :: l, h => by
    simp only [List.map_cons, List.nodup_cons] at h
    exact List.nodup_cons.2 ⟨fun hm => h.1 (List.mem_map.2 ⟨a, hm, rfl⟩), nodup_of_map f h.2⟩

theorem xs_roots_eq (st0 : St) : ∀ (X : List OD), (xs st0 X).roots = X.flatMap OD.roots ++ st0.roots
  | [] => rfl
  | x :: X => by simp [xs, xs_roots_eq st0 X]

theorem sub_xs {C : List (List Nat)} {A X : List OD} {P0 : List Nat} (H : DrawOk P ops st0 C P0 A) (hperm : X.Perm A) {Z : Nat → Nat → Prop} {w0 : World} {E0 : List Ext} {pins : List Pin} {gr : List GR} {a : Act} {w : World} (hr : Rel Z w0 E0 pins gr a w (xs st0 X)) {Y : Prop}
    (h : ∀ gr', Rel Z w0 E0 pins gr' a w (xs st0 A) → Y) : Y := by
  have hX : ∀ x, x ∈ X → x ∈ A := fun x hx => hperm.mem_iff.1 hx
  have hall : ∀ x, x ∈ A → x ∈ X := fun x hx => hperm.mem_iff.2 hx
  have hs : SubE (xs st0 X).env (xs st0 A).env := by
    have hn := xs_nodup (st0 := st0) H.h0 (X := X) (fun y hy => ⟨(H.each y (hX y hy)).1, (H.each y (hX y hy)).2.1⟩) ((hperm.map OD.d).nodup_iff.2 H.nd)
    have : ∀ (l : List (Key × TV)), (∀ e, e ∈ l → e ∈ (xs st0 X).env) → SubE (xs st0 X).env l := by
      intro l
      induction l with
      | nil => intro _; trivial
      | cons e l ih => exact fun hh => ⟨lk_of_mem hn (hh e List.mem_cons_self), ih fun e he => hh e (List.mem_cons_of_mem _ he)⟩
    refine this _ fun e he => ?_
    rcases mem_xs_env.1 he with ⟨y, hy, h⟩ | h
    · exact mem_xs_env.2 (.inl ⟨y, hall y hy, h⟩)
    · exact mem_xs_env.2 (.inr h)
  have hp : (xs st0 A).roots.Perm (xs st0 X).roots := by
    rw [xs_roots_eq, xs_roots_eq]
    exact (hperm.symm.flatMap_right OD.roots).append_right _
  obtain ⟨gr', hr'⟩ := into_sub hs hp Z w0 E0 pins gr a w hr
  refine h gr' ?_
  have h1 : (xs st0 X).nt = (xs st0 A).nt := by rw [xs_nt, xs_nt]
  have h2 : (xs st0 X).pk = (xs st0 A).pk := by rw [xs_pk, xs_pk]
  rw [h1, h2] at hr'
  exact hr'

theorem draw_any {A : List OD} {P0 : List Nat} {C : List (List Nat)} (H : DrawOk P ops st0 C P0 A) {lA : Array Bool} (hlA : Listed ops.size (A.map OD.i ++ P0) lA)
    (htail : RunAny P ops (ops.size - (A.length + P0.length)) lA (xs st0 A) Q) : ∀ (m : Nat) (X : List OD) (listed : Array Bool), ops.size - (X.length + P0.length) = m → (∀ x, x ∈ X → x ∈ A) → (X.map OD.i ++ P0).Nodup → Listed ops.size (X.map OD.i ++ P0) listed →
      (∀ x, x ∈ X → ∀ j, j ∈ direct ops x.i → j ∈ X.map OD.i ++ P0) → RunAny P ops m listed (xs st0 X) Q := by
  have hniA : (A.map OD.i).Nodup := (List.nodup_append.1 H.ni).1
  intro m
  induction m with
  | zero =>
    intro X listed hm hX hni hl hcl
    have hniX : (X.map OD.i).Nodup := (List.nodup_append.1 hni).1
    have hlen : X.length + P0.length ≤ ops.size := by
      have := nodup_len ops.size (X.map OD.i ++ P0) hni (fun j hj => by
        rcases List.mem_append.1 hj with hj | hj
        · obtain ⟨x, hx, rfl⟩ := List.mem_map.1 hj
          exact (H.each x (hX x hx)).2.2
        · exact (H.p0 j hj).1)
      simpa using this
    by_cases hall : ∀ x, x ∈ A → x ∈ X
    · have hperm : X.Perm A := (List.perm_ext_iff_of_nodup (nodup_of_map _ hniX) (nodup_of_map _ hniA)).2 fun x => ⟨hX x, hall x⟩
      have hle : listed = lA := hl.ext hlA fun j => by rw [List.mem_append, List.mem_append, (hperm.map OD.i).mem_iff]
      have hlen2 : ops.size - (A.length + P0.length) = 0 := by rw [← hperm.length_eq]; exact hm
      rw [hlen2] at htail
      rw [hle]
      intro Z w0 E0 pins gr a w hr
      exact sub_xs H hperm hr fun gr' hr' => htail Z w0 E0 pins gr' a w hr'
    · exfalso
      simp only [Classical.not_forall] at hall
      obtain ⟨x, hx, hnx⟩ := hall
      have hxn : x.i ∉ X.map OD.i ++ P0 := by
        intro hm
        rcases List.mem_append.1 hm with hm | hm
        · obtain ⟨y, hy, he⟩ := List.mem_map.1 hm
          exact hnx (by rw [← eq_of_map hniA (hX y hy) hx he]; exact hy)
        · exact (List.nodup_append.1 H.ni).2.2 x.i (List.mem_map.2 ⟨x, hx, rfl⟩) x.i hm rfl
      have := nodup_len ops.size (x.i :: (X.map OD.i ++ P0)) (List.nodup_cons.2 ⟨hxn, hni⟩) (fun j hj => by
        rcases List.mem_cons.1 hj with rfl | hj
        · exact (H.each x hx).2.2
        · rcases List.mem_append.1 hj with hj | hj
          · obtain ⟨x, hx, rfl⟩ := List.mem_map.1 hj
            exact (H.each x (hX x hx)).2.2
          · exact (H.p0 j hj).1)
      simp at this
      omega
  | succ m ih =>
    intro X listed hm hX hni hl hcl
    have hniX : (X.map OD.i).Nodup := (List.nodup_append.1 hni).1
    by_cases hall : ∀ x, x ∈ A → x ∈ X
    · have hperm : X.Perm A := (List.perm_ext_iff_of_nodup (nodup_of_map _ hniX) (nodup_of_map _ hniA)).2 fun x => ⟨hX x, hall x⟩
      have hle : listed = lA := hl.ext hlA fun j => by rw [List.mem_append, List.mem_append, (hperm.map OD.i).mem_iff]
      have hlen2 : ops.size - (A.length + P0.length) = m + 1 := by rw [← hperm.length_eq]; exact hm
      rw [hlen2] at htail
      rw [hle]
      intro Z w0 E0 pins gr a w hr
      exact sub_xs H hperm hr fun gr' hr' => htail Z w0 E0 pins gr' a w hr'
    · simp only [Classical.not_forall] at hall
      obtain ⟨x, hx, hnx⟩ := hall
      have hnl : ∀ {y : OD}, y ∈ A → y ∉ X → y.i ∉ X.map OD.i ++ P0 := by
        intro y hy hn hmem
        rcases List.mem_append.1 hmem with hmem | hmem
        · obtain ⟨z, hz, he⟩ := List.mem_map.1 hmem
          exact hn (by rw [← eq_of_map hniA (hX z hz) hy he]; exact hz)
        · exact (List.nodup_append.1 H.ni).2.2 y.i (List.mem_map.2 ⟨y, hy, rfl⟩) y.i hmem rfl
      have hclj : ∀ j, j ∈ X.map OD.i ++ P0 → ∀ k, k ∈ direct ops j → k ∈ X.map OD.i ++ P0 := by
        intro j hj k hk
        rcases List.mem_append.1 hj with hj | hj
        · obtain ⟨z, hz, rfl⟩ := List.mem_map.1 hj
          exact hcl z hz k hk
        · exact List.mem_append.2 (.inr ((H.p0 j hj).2 k hk))
      have hrd : ∀ j, j ∈ Region.ready .any ops listed ↔ j < ops.size ∧ j ∉ X.map OD.i ++ P0 ∧ ∀ k, k ∈ direct ops j → k ∈ X.map OD.i ++ P0 := by
        intro j
        rw [mem_ready]
        constructor
        · rintro ⟨h1, o, ho, h2⟩
          have hj : j < ops.size := (Array.getElem?_eq_some_iff.1 ho).1
          refine ⟨hj, fun hmem => ?_, fun k hk => ?_⟩
          · rw [(hl.at_ j hj).2 hmem] at h1; cases h1
          · simp only [direct, ho, List.mem_map, List.mem_filter] at hk
            obtain ⟨e, ⟨he1, he2⟩, rfl⟩ := hk
            have h3 := h2 e (by simpa using he1) he2
            have hlt : e.on < ops.size := Nat.lt_trans (H.back j hj e.on (by simp only [direct, ho, List.mem_map, List.mem_filter]; exact ⟨e, ⟨he1, he2⟩, rfl⟩)) hj
            refine (hl.at_ e.on hlt).1 ?_
            have hs := hl.size
            simp only [Array.getD, hs, hlt, dite_true] at h3 ⊢
            exact h3
        · rintro ⟨hj, h1, h2⟩
          refine ⟨?_, ops[j], Array.getElem?_eq_getElem hj, fun e he hb => ?_⟩
          · cases hg : listed.getD j true with
            | false => rfl
            | true => exact absurd ((hl.at_ j hj).1 hg) h1
          · have hd : e.on ∈ direct ops j := by
              simp only [direct, Array.getElem?_eq_getElem hj, List.mem_map, List.mem_filter]
              exact ⟨e, ⟨by simpa using he, hb⟩, rfl⟩
            have hlt : e.on < ops.size := Nat.lt_trans (H.back j hj e.on hd) hj
            have h3 := (hl.at_ e.on hlt).2 (h2 _ hd)
            have hs := hl.size
            simp only [Array.getD, hs, hlt, dite_true] at h3 ⊢
            exact h3
      intro Z w0 E0 pins gr a w hr
      refine ⟨fun h0 => ?_, fun i hi => ?_⟩
      · exfalso
        have hex : ∀ (n j : Nat), j < n → j < ops.size → j ∉ X.map OD.i ++ P0 → ∃ k, k ∈ Region.ready .any ops listed := by
          intro n
          induction n with
          | zero => intro j h; omega
          | succ n ihn =>
            intro j hj1 hj hjn
            by_cases hd : ∀ k, k ∈ direct ops j → k ∈ X.map OD.i ++ P0
            · exact ⟨j, (hrd j).2 ⟨hj, hjn, hd⟩⟩
            · simp only [Classical.not_forall] at hd
              obtain ⟨k, hk, hkn⟩ := hd
              have := H.back j hj k hk
              exact ihn k (by omega) (by omega) hkn
        obtain ⟨k, hk⟩ := hex (x.i + 1) x.i (by omega) (H.each x hx).2.2 (hnl hx hnx)
        rw [h0] at hk
        cases hk
      · obtain ⟨h1, h2, h3⟩ := (hrd i).1 hi
        rcases H.rest i h1 with (hA | hA) | hA
        · obtain ⟨y, hy, rfl⟩ := List.mem_map.1 hA
          have hyX : y ∉ X := fun hm => h2 (List.mem_append.2 (.inl (List.mem_map.2 ⟨y, hm, rfl⟩)))
          have hndX : (X.map OD.d).Nodup := by
            have : ∀ {l : List OD}, (l.map OD.i).Nodup → (∀ z, z ∈ l → z ∈ A) → (l.map OD.d).Nodup := by
              intro l
              induction l with
              | nil => intro _ _; exact List.nodup_nil
              | cons z l ihl =>
                intro hn hs
                simp only [List.map_cons, List.nodup_cons] at hn ⊢
                refine ⟨fun hm => ?_, ihl hn.2 fun z hz => hs z (List.mem_cons_of_mem _ hz)⟩
                obtain ⟨z', hz', he⟩ := List.mem_map.1 hm
                have := eq_of_map H.nd (hs z' (List.mem_cons_of_mem _ hz')) (hs z List.mem_cons_self) he
                exact hn.1 (List.mem_map.2 ⟨z', hz', by rw [this]⟩)
            exact this hniX hX
          obtain ⟨pre, hpre1, hpre2⟩ := H.step y hy
          refine hpre1 X ?_ ⟨?_, hndX⟩ Z w0 E0 pins gr a w hr _ _ ?_
          · intro z hz
            obtain ⟨hzA, hzc⟩ := hpre2 z hz
            have := H.foll y.i (X.map OD.i ++ P0) hclj h3 z.i hzc
            rcases List.mem_append.1 this with this | this
            · obtain ⟨z', hz', he⟩ := List.mem_map.1 this
              rw [← eq_of_map hniA (hX z' hz') hzA he]
              exact hz'
            · exact absurd rfl ((List.nodup_append.1 H.ni).2.2 z.i (List.mem_map.2 ⟨z, hzA, rfl⟩) z.i this)
          · intro z hz
            have hzA := hX z hz
            refine ⟨(H.each z hzA).1, (H.each z hzA).2.1, fun he => ?_, ?_⟩
            · exact hyX (by rw [← eq_of_map H.nd hzA hy he]; exact hz)
            · rcases H.off y hy z hzA with h | h | h
              · exact h
              · exact absurd (by rw [eq_of_map hniA hy hzA h]; exact hz) hyX
              · exact absurd (H.foll z.i (X.map OD.i ++ P0) hclj (hcl z hz) y.i h) h2
          · intro gr' a' w' hr'
            refine ih (y :: X) _ ?_ ?_ ?_ (hl.set y.i) ?_ Z w0 E0 pins gr' a' w' hr'
            · simp only [List.length_cons]; omega
            · intro z hz
              rcases List.mem_cons.1 hz with rfl | hz
              · exact hy
              · exact hX z hz
            · simp only [List.map_cons, List.cons_append, List.nodup_cons]; exact ⟨h2, hni⟩
            · intro z hz j hj
              simp only [List.map_cons, List.cons_append, List.mem_cons]
              rcases List.mem_cons.1 hz with rfl | hz
              · exact .inr (h3 j hj)
              · exact .inr (hcl z hz j hj)
        · exact absurd (List.mem_append.2 (.inr hA)) h2
        · have := H.foll i (X.map OD.i ++ P0) hclj h3 x.i (hA x hx)
          exact absurd this (hnl hx hnx)

theorem acc_nil {C : List (List Nat)} : Acc P ops st0 C [] := fun x h => by cases h

def hasI : List Nat → Nat → Bool
  | [], _ => false
  | j :: l, i => Nat.beq j i || hasI l i

def pickI : List Nat → List OD → List OD
  | _, [] => []
  | l, x :: A => bif hasI l x.i then x :: pickI l A else pickI l A

theorem hasI_iff : ∀ {l : List Nat} {i : Nat}, hasI l i = true ↔ i ∈ l
  | [], _ => by simp [hasI]
  | j :: l, i => by
    simp only [hasI, nat_beq, Bool.or_eq_true, beq_iff_eq, hasI_iff (l := l), List.mem_cons]
    constructor
    · rintro (h | h)
      · exact .inl h.symm
      · exact .inr h
    · rintro (h | h)
      · exact .inl h.symm
      · exact .inr h

theorem mem_pickI {l : List Nat} : ∀ {A : List OD} {x : OD}, x ∈ pickI l A → x ∈ A ∧ x.i ∈ l
  | [], _, h => by cases h
  | y :: A, x, h => by
    simp only [pickI] at h
    cases hy : hasI l y.i with
    | true =>
      rw [hy] at h
      rcases List.mem_cons.1 h with rfl | h
      · exact ⟨List.mem_cons_self, hasI_iff.1 hy⟩
      · exact ⟨List.mem_cons_of_mem _ (mem_pickI h).1, (mem_pickI h).2⟩
    | false => rw [hy] at h; exact ⟨List.mem_cons_of_mem _ (mem_pickI h).1, (mem_pickI h).2⟩

def allIn (c : List Nat) : List Nat → Bool
  | [] => true
  | j :: l => hasI c j && allIn c l

theorem allIn_iff {c : List Nat} : ∀ {l : List Nat}, allIn c l = true ↔ ∀ j, j ∈ l → j ∈ c
  | [] => by simp [allIn]
  | j :: l => by simp [allIn, allIn_iff (l := l), hasI_iff]

/-- Closures, one for each operation, from the first on. -/
def addI (l : List Nat) (j : Nat) : List Nat := bif hasI l j then l else j :: l

def addAll : List Nat → List Nat → List Nat
  | acc, [] => acc
  | acc, j :: l => addAll (addI acc j) l

def cloOf (C : List (List Nat)) : List Nat → List Nat → List Nat
  | acc, [] => acc
  | acc, j :: l => cloOf C (addAll (addI acc j) (getL C j)) l

def closL (ops : Array Oper) : List (List Nat) → Nat → Nat → List (List Nat)
  | C, _, 0 => C
  | C, i, n + 1 => closL ops (C ++ [cloOf C [] (direct ops i)]) (i + 1) n

theorem mem_addAll : ∀ {l acc : List Nat} {k : Nat}, k ∈ addAll acc l → k ∈ acc ∨ k ∈ l
  | [], acc, k, h => .inl h
  | j :: l, acc, k, h => by
    rcases mem_addAll (l := l) h with h | h
    · unfold addI at h
      cases hh : hasI acc j with
      | true => rw [hh] at h; exact .inl h
      | false =>
        rw [hh] at h
        rcases List.mem_cons.1 h with rfl | h
        · exact .inr List.mem_cons_self
        · exact .inl h
    · exact .inr (List.mem_cons_of_mem _ h)

theorem cloOf_foll {ops : Array Oper} {C : List (List Nat)} (hC : ∀ j, Foll ops j (getL C j)) {l : List Nat} (hc : ∀ j, j ∈ l → ∀ k, k ∈ direct ops j → k ∈ l) : ∀ {d acc : List Nat}, (∀ k, k ∈ d → k ∈ l) → (∀ k, k ∈ acc → k ∈ l) → ∀ k, k ∈ cloOf C acc d → k ∈ l
  | [], acc, _, ha, k, h => ha k h
  | j :: d, acc, hd, ha, k, h => by
    refine cloOf_foll hC hc (d := d) (fun k hk => hd k (List.mem_cons_of_mem _ hk)) ?_ k h
    intro k hk
    rcases mem_addAll hk with hk | hk
    · rcases mem_addAll (l := [j]) (acc := acc) (k := k) hk with hk | hk
      · exact ha k hk
      · exact hd k (by rw [List.mem_singleton] at hk; rw [hk]; exact List.mem_cons_self)
    · exact hC j l hc (hc j (hd j List.mem_cons_self)) k hk

theorem getL_append : ∀ (C : List (List Nat)) (c : List Nat) (j : Nat), getL (C ++ [c]) j = if j = C.length then c else getL C j
  | [], c, 0 => rfl
  | [], c, j + 1 => by simp [getL]
  | x :: C, c, 0 => by simp [getL]
  | x :: C, c, j + 1 => by simp [getL, getL_append C c j]

theorem closL_foll {ops : Array Oper} : ∀ (n i : Nat) (C : List (List Nat)), C.length = i → (∀ j, Foll ops j (getL C j)) → ∀ j, Foll ops j (getL (closL ops C i n) j)
  | 0, i, C, _, hC, j => hC j
  | n + 1, i, C, hl, hC, j => by
    refine closL_foll n (i + 1) (C ++ [cloOf C [] (direct ops i)]) (by simp [hl]) ?_ j
    intro j
    rw [getL_append]
    by_cases h : j = C.length
    · rw [if_pos h]
      intro l hc hd k hk
      rw [h, hl] at hd
      exact cloOf_foll hC hc hd (fun k h => by cases h) k hk
    · rw [if_neg h]; exact hC j

theorem closAll_foll (ops : Array Oper) (j : Nat) : Foll ops j (getL (closL ops [] 0 ops.size) j) :=
  closL_foll ops.size 0 [] rfl (fun j l _ _ k h => by simp [getL] at h) j

/-! ### the checks, as one calculation -/

def offAll (C : List (List Nat)) (x : OD) : List OD → Bool
  | [] => true
  | y :: A => (offD x.d y.env || Nat.beq x.i y.i || hasI (getL C y.i) x.i) && offAll C x A

def offsAll (C : List (List Nat)) (A : List OD) : List OD → Bool
  | [] => true
  | x :: r => offAll C x A && offsAll C A r

def idsOf : List OD → List Nat
  | [] => []
  | x :: A => x.i :: idsOf A

def dsOf : List OD → List Nat
  | [] => []
  | x :: A => x.d :: dsOf A

def nodupN : List Nat → Bool
  | [] => true
  | j :: l => !hasI l j && nodupN l

def eachOk (n : Nat) (st0 : St) : List OD → Bool
  | [] => true
  | x :: A => x.ok && freshD x.d st0 && Nat.blt x.i n && eachOk n st0 A

def restOk (C : List (List Nat)) (ids P0 : List Nat) : Nat → Bool
  | 0 => true
  | n + 1 => (hasI ids n || hasI P0 n || allIn (getL C n) ids) && restOk C ids P0 n

def allLt (i : Nat) : List Nat → Bool
  | [] => true
  | j :: l => Nat.blt j i && allLt i l

def backOk (ops : Array Oper) : Nat → Bool
  | 0 => true
  | n + 1 => allLt n (direct ops n) && backOk ops n

def preOk (ops : Array Oper) (n : Nat) (P0 : List Nat) : List Nat → Bool
  | [] => true
  | i :: l => Nat.blt i n && allIn P0 (direct ops i) && preOk ops n P0 l

def drawChk (ops : Array Oper) (n : Nat) (C : List (List Nat)) (P0 : List Nat) (st0 : St) (A : List OD) : Bool :=
  noDup (keysE st0.env) && eachOk n st0 A && nodupN (idsOf A ++ P0) && nodupN (dsOf A) && offsAll C A A && restOk C (idsOf A) P0 n && backOk ops n && preOk ops n P0 P0

theorem idsOf_eq : ∀ (A : List OD), idsOf A = A.map OD.i
  | [] => rfl
  | x :: A => by simp [idsOf, idsOf_eq A]
theorem dsOf_eq : ∀ (A : List OD), dsOf A = A.map OD.d
  | [] => rfl
  | x :: A => by simp [dsOf, dsOf_eq A]
theorem nodupN_iff : ∀ {l : List Nat}, nodupN l = true → l.Nodup
  | [], _ => List.nodup_nil
  | j :: l, h => by
    simp only [nodupN, Bool.and_eq_true, Bool.not_eq_true'] at h
    refine List.nodup_cons.2 ⟨fun hm => ?_, nodupN_iff h.2⟩
    rw [hasI_iff.2 hm] at h
    exact absurd h.1 (by simp)
theorem eachOk_iff {n : Nat} {st0 : St} : ∀ {A : List OD}, eachOk n st0 A = true → ∀ x, x ∈ A → x.ok = true ∧ freshD x.d st0 = true ∧ x.i < n
  | [], _, x, h => by cases h
  | y :: A, h, x, hx => by
    simp only [eachOk, Bool.and_eq_true, nat_blt, decide_eq_true_eq] at h
    rcases List.mem_cons.1 hx with rfl | hx
    · exact ⟨h.1.1.1, h.1.1.2, h.1.2⟩
    · exact eachOk_iff h.2 x hx
theorem offAll_iff {C : List (List Nat)} {x : OD} : ∀ {A : List OD}, offAll C x A = true → ∀ y, y ∈ A → offD x.d y.env = true ∨ x.i = y.i ∨ x.i ∈ getL C y.i
  | [], _, y, h => by cases h
  | z :: A, h, y, hy => by
    simp only [offAll, Bool.and_eq_true, Bool.or_eq_true, nat_beq, beq_iff_eq, hasI_iff] at h
    rcases List.mem_cons.1 hy with rfl | hy
    · rcases h.1 with (h | h) | h
      · exact .inl h
      · exact .inr (.inl h)
      · exact .inr (.inr h)
    · exact offAll_iff h.2 y hy
theorem offsAll_iff {C : List (List Nat)} {A : List OD} : ∀ {l : List OD}, offsAll C A l = true → ∀ x, x ∈ l → ∀ y, y ∈ A → offD x.d y.env = true ∨ x.i = y.i ∨ x.i ∈ getL C y.i
  | [], _, x, h => by cases h
  | z :: l, h, x, hx => by
    simp only [offsAll, Bool.and_eq_true] at h
    rcases List.mem_cons.1 hx with rfl | hx
    · exact offAll_iff h.1
    · exact offsAll_iff h.2 x hx
theorem preOk_iff {ops : Array Oper} {n : Nat} {P0 : List Nat} : ∀ {l : List Nat}, preOk ops n P0 l = true → ∀ i, i ∈ l → i < n ∧ ∀ j, j ∈ direct ops i → j ∈ P0
  | [], _, i, h => by cases h
  | k :: l, h, i, hi => by
    simp only [preOk, Bool.and_eq_true, nat_blt, decide_eq_true_eq, allIn_iff] at h
    rcases List.mem_cons.1 hi with rfl | hi
    · exact h.1
    · exact preOk_iff h.2 i hi
theorem restOk_iff {C : List (List Nat)} {ids P0 : List Nat} : ∀ {n : Nat}, restOk C ids P0 n = true → ∀ i, i < n → (i ∈ ids ∨ i ∈ P0) ∨ ∀ j, j ∈ ids → j ∈ getL C i
  | 0, _, i, h => by omega
  | n + 1, h, i, hi => by
    simp only [restOk, Bool.and_eq_true, Bool.or_eq_true, hasI_iff, allIn_iff] at h
    by_cases e : i = n
    · rw [e]; exact h.1
    · exact restOk_iff h.2 i (by omega)
theorem allLt_iff {i : Nat} : ∀ {l : List Nat}, allLt i l = true → ∀ j, j ∈ l → j < i
  | [], _, j, h => by cases h
  | k :: l, h, j, hj => by
    simp only [allLt, Bool.and_eq_true, nat_blt, decide_eq_true_eq] at h
    rcases List.mem_cons.1 hj with rfl | hj
    · exact h.1
    · exact allLt_iff h.2 j hj
theorem backOk_iff {ops : Array Oper} : ∀ {n : Nat}, backOk ops n = true → ∀ i, i < n → ∀ j, j ∈ direct ops i → j < i
  | 0, _, i, h => by omega
  | n + 1, h, i, hi => by
    simp only [backOk, Bool.and_eq_true] at h
    by_cases e : i = n
    · rw [e]; exact allLt_iff h.1
    · exact backOk_iff h.2 i (by omega)

theorem listed_nil (n : Nat) : Listed n [] (Array.replicate n false) where
  size := by simp
  at_ j hj := by simp [Array.getD, hj]

theorem draw_rule {C : List (List Nat)} {A : List OD} (P0 : List Nat) (hC : closL ops [] 0 ops.size = C) (hacc : Acc P ops st0 C A) (hchk : drawChk ops ops.size C P0 st0 A = true) {l0 l1 : Array Bool} {n0 n1 : Nat} (hl0 : setAll (Array.replicate ops.size false) P0 = l0) (hl1 : setAll l0 (idsOf A) = l1)
    (hn0 : ops.size - P0.length = n0) (hn1 : n0 - A.length = n1) (htail : RunAny P ops n1 l1 (xs st0 A) Q) : RunAny P ops n0 l0 st0 Q := by
  simp only [drawChk, Bool.and_eq_true] at hchk
  obtain ⟨⟨⟨⟨⟨⟨⟨h1, h2⟩, h3⟩, h4⟩, h5⟩, h6⟩, h7⟩, h8⟩ := hchk
  rw [idsOf_eq] at h3 h6 hl1
  have hr := restOk_iff h6
  have hi := nodupN_iff h3
  have H : DrawOk P ops st0 C P0 A := {
    h0 := h1
    each := eachOk_iff h2
    nd := by have := nodupN_iff h4; rwa [dsOf_eq] at this
    ni := hi
    p0 := preOk_iff h8
    off := offsAll_iff h5
    step := hacc
    foll := by subst hC; exact closAll_foll ops
    rest := fun i hi => by
      rcases hr i hi with h | h
      · exact .inl h
      · exact .inr fun y hy => h _ (List.mem_map.2 ⟨y, hy, rfl⟩)
    back := backOk_iff h7 }
  have e0 : Listed ops.size P0 l0 := by
    have := (listed_nil ops.size).setAll (J := P0)
    rw [hl0] at this
    exact ⟨this.size, fun j hj => by rw [this.at_ j hj]; simp⟩
  have e1 : Listed ops.size (A.map OD.i ++ P0) l1 := by
    have := e0.setAll (J := A.map OD.i)
    rw [hl1] at this
    exact ⟨this.size, fun j hj => by rw [this.at_ j hj]; simp⟩
  refine draw_any H e1 (by rw [← Nat.sub_sub, Nat.sub_right_comm, hn0, hn1]; exact htail) n0 [] l0 (by simpa using hn0) (fun x h => by cases h) (by simpa using (List.nodup_append.1 hi).2.1) e0 (fun x h => by cases h)
end

section
variable {P : Program} {T : Tab} {ops : Array Oper} {st0 s : St} {C : List (List Nat)} {A : List OD}

theorem acc_add {pre : List OD} {x : OD} (idxs : List Nat) (h : Acc P ops st0 C A) (hpre : pickI idxs A = pre) (hin : allIn (getL C x.i) idxs = true) (hx : GStep P ops st0 pre x) : Acc P ops st0 C (x :: A) := by
  subst hpre
  intro y hy
  rcases List.mem_cons.1 hy with rfl | hy
  · exact ⟨_, hx, fun z hz => ⟨List.mem_cons_of_mem _ (mem_pickI hz).1, allIn_iff.1 hin _ (mem_pickI hz).2⟩⟩
  · obtain ⟨pre, h1, h2⟩ := h y hy
    exact ⟨pre, h1, fun z hz => ⟨List.mem_cons_of_mem _ (h2 z hz).1, (h2 z hz).2⟩⟩
end

end Go.Proofs.YtddfcajdelfikaaDoor.Vm
