/- Contracts of the library's functions, told by hand. -/
import Derived.Test.YtddfcajdelfikaaDoorEnc
import Derived.Test.YtddfcajdelfikaaDoorVm35
import Derived.Shelf.Strings.OnBuilder
import Derived.Shelf.LaysM
set_option maxRecDepth 100000
namespace Go.Proofs
open Go.Shelf
def Tryd.lays156_ren : Go.Shelf.Ren := ⟨fun | 156 => 45 | 165 => 58 | 166 => 59 | 169 => 60 | 240 => 74 | 241 => 75 | 276 => 85 | 277 => 86 | n => n, fun | 31 => 41 | 9 => 9 | 3 => 3 | 4 => 4 | 0 => 0 | 20 => 20 | 72 => 75 | 76 => 79 | 70 => 73 | 37 => 66 | 75 => 78 | 127 => 90 | 164 => 93 | 5 => 5 | 80 => 81 | n => n, fun | n => n⟩
theorem Tryd.lays156 : Go.Proofs.Lays.n156 Tryd.prog Tryd.lays156_ren := {
  mixed := by kernel_rfl
  f156 := Tryd.func45.trans (congrArg some (by kernel_rfl))
  f165 := Tryd.func58.trans (congrArg some (by kernel_rfl))
  f166 := Tryd.func59.trans (congrArg some (by kernel_rfl))
  f169 := Tryd.func60.trans (congrArg some (by kernel_rfl))
  f240 := Tryd.func74.trans (congrArg some (by kernel_rfl))
  f241 := Tryd.func75.trans (congrArg some (by kernel_rfl))
  f276 := Tryd.func85.trans (congrArg some (by kernel_rfl))
  f277 := Tryd.func86.trans (congrArg some (by kernel_rfl))
  t0 := Tryd.underlying0
  a0 := Tryd.isAgg0
  z0 := Tryd.sizeOf0
  v0 := Tryd.zeroValue0
  t3 := Tryd.underlying3
  a3 := Tryd.isAgg3
  z3 := Tryd.sizeOf3
  v3 := Tryd.zeroValue3
  t4 := Tryd.underlying4
  a4 := Tryd.isAgg4
  z4 := Tryd.sizeOf4
  v4 := Tryd.zeroValue4
  t9 := Tryd.underlying9
  a9 := Tryd.isAgg9
  z9 := Tryd.sizeOf9
  v9 := Tryd.zeroValue9
  t20 := Tryd.underlying20
  a20 := Tryd.isAgg20
  z20 := Tryd.sizeOf20
  v20 := Tryd.zeroValue20
  t31 := Tryd.underlying41
  a31 := Tryd.isAgg41
  z31 := Tryd.sizeOf41
  v31 := Tryd.zeroValue41
  t37 := Tryd.underlying66
  a37 := Tryd.isAgg66
  z37 := Tryd.sizeOf66
  v37 := Tryd.zeroValue66
  t70 := Tryd.underlying73
  a70 := Tryd.isAgg73
  z70 := Tryd.sizeOf73
  v70 := Tryd.zeroValue73
  t72 := Tryd.underlying75
  a72 := Tryd.isAgg75
  z72 := Tryd.sizeOf75
  v72 := Tryd.zeroValue75
  t75 := Tryd.underlying78
  a75 := Tryd.isAgg78
  z75 := Tryd.sizeOf78
  v75 := Tryd.zeroValue78
  t76 := Tryd.underlying79
  a76 := Tryd.isAgg79
  z76 := Tryd.sizeOf79
  v76 := Tryd.zeroValue79
  t127 := Tryd.underlying90
  a127 := Tryd.isAgg90
  z127 := Tryd.sizeOf90
  v127 := Tryd.zeroValue90
  t164 := Tryd.underlying93
  a164 := Tryd.isAgg93
  z164 := Tryd.sizeOf93
  v164 := Tryd.zeroValue93 }
theorem Tryd.Builder_Extra_156 : Builder.Extra Tryd.prog Tryd.lays156_ren := {
  sizeBuilder := by kernel_rfl
  liesBuilder := by kernel_rfl
  t5 := Tryd.underlying5
  a5 := Tryd.isAgg5
  z5 := Tryd.sizeOf5
  v5 := Tryd.zeroValue5
  infoByte := by kernel_rfl
  cellsByte := by kernel_rfl
  sizeByte := by kernel_rfl
  neB5 := by decide }
open Go.RowKit in
/-- No element: the empty string; the world is as it was. (Whatever the slice's address and capacity: a nil slice too.) (LAID: no walk: one application.) -/
theorem Tryd.strings_Join_none (a : Option Addr) (c : Nat) (sep : ByteArray) (w : World) :
    Calls Tryd.prog 45 #[.slice a 0 c, .string sep] w fun e w' => e = .returned (.string ⟨#[]⟩) ∧ w' = w := Any.strings_Join_none Tryd.lays156 Tryd.Builder_Extra_156 a c sep w
open Go.RowKit in
/-- strings.Join: "Join concatenates the elements of its first argument to create a single string. The separator string sep is placed between elements in the resulting string.": HOWEVER MANY ELEMENTS. Below the heap's end the world is as it was. (LAID: no walk: one application.) -/
theorem Tryd.strings_Join (bk o c : Nat) (xs : List ByteArray) (sep : ByteArray) (w : World) (hcells : ∀ (j : Nat) x, xs[j]? = some x → w.cell? ⟨bk, o + j, none⟩ = some (.string x)) (hbk : bk < w.heap.size) (hN : xs.length ≤ 140737488355328) (hcap : xs.length ≤ c) (hlen : (Lib.join (xs.map (·.data.toList)) sep.data.toList).length ≤ 140737488355328) :
    Calls Tryd.prog 45 #[.slice (some ⟨bk, o, none⟩) xs.length c, .string sep] w fun e w' => e = .returned (.string ⟨(Lib.join (xs.map (·.data.toList)) sep.data.toList).toArray⟩) ∧ Below w.heap.size w w' := Any.strings_Join Tryd.lays156 Tryd.Builder_Extra_156 bk o c xs sep w hcells hbk hN hcap hlen

namespace YtddfcajdelfikaaDoor.Vm
open Go

noncomputable def bytealg_CountString (s : List UInt8) (c : UInt8) : Option Int := some (Lib.countByte s c : Nat)
theorem bytealg_CountString_good (s : List UInt8) (c : UInt8) {r : Int} (h : bytealg_CountString s c = some r) : GoodD Tryd.prog 67 [.val false (ES.row false s), .val false (EU.row false c)] [(false, (EI .i64).row false r)] [[], []] := by
  obtain rfl := Option.some.inj h
  refine goodD_plain2 rfl ?_
  intro Z w v1 v2 E1 E2 h1 h2
  obtain ⟨_, rfl⟩ := arg_str h1
  obtain ⟨_, rfl⟩ := arg_int h2
  refine ⟨.int .i64 (Lib.countByte s c : Nat), by simp [ScOk], ?_⟩
  unfold CallsW
  rw [run_callFunc_extern Tryd.func67 (by kernel_rfl) (by kernel_rfl) (by kernel_rfl) (e := Extern.BytealgCount.count) (by kernel_rfl), Lib.run_countString]
  have e : (c.toNat : Int).toNat.toUInt8 = c := by simp
  simp only [Result.andThen, e]
  first | exact ⟨rfl, Evo.refl w _⟩ | exact ⟨trivial, Evo.refl w _⟩

noncomputable def bytealg_IndexByteString (s : List UInt8) (c : UInt8) : Option Int := some (Lib.indexByte s c)
theorem bytealg_IndexByteString_good (s : List UInt8) (c : UInt8) {r : Int} (h : bytealg_IndexByteString s c = some r) : GoodD Tryd.prog 88 [.val false (ES.row false s), .val false (EU.row false c)] [(false, (EI .i64).row false r)] [[], []] := by
  obtain rfl := Option.some.inj h
  refine goodD_plain2 rfl ?_
  intro Z w v1 v2 E1 E2 h1 h2
  obtain ⟨_, rfl⟩ := arg_str h1
  obtain ⟨_, rfl⟩ := arg_int h2
  refine ⟨.int .i64 (Lib.indexByte s c), by simp [ScOk], ?_⟩
  unfold CallsW
  rw [run_callFunc_extern Tryd.func88 (by kernel_rfl) (by kernel_rfl) (by kernel_rfl) (e := Extern.BytealgIndexByte.indexByte) (by kernel_rfl), Lib.run_indexByteString]
  have e : (c.toNat : Int).toNat.toUInt8 = c := by simp
  simp only [Result.andThen, e]
  first | exact ⟨rfl, Evo.refl w _⟩ | exact ⟨trivial, Evo.refl w _⟩

noncomputable def strings_Join (xs : List (List UInt8)) (sep : List UInt8) : Option (List UInt8) :=
  bif decide (xs.length ≤ 140737488355328) && decide ((Lib.join xs sep).length ≤ 140737488355328) then some (Lib.join xs sep) else none
theorem strings_Join_good (xs : List (List UInt8)) (sep : List UInt8) {r : List UInt8} (h : strings_Join xs sep = some r) : GoodD Tryd.prog 45 [.val false ((EL ES 1).row false xs), .val false (ES.row false sep)] [(false, ES.row false r)] [[], []] := by
  unfold strings_Join at h
  obtain ⟨hc, h⟩ := of_chk h
  obtain rfl := Option.some.inj h
  simp only [Bool.and_eq_true, decide_eq_true_eq] at hc
  refine goodD_plain2 rfl ?_
  intro Z w v1 v2 E1 E2 h1 h2
  obtain ⟨_, a, cap, rfl, hcap, ha, hcell⟩ := arg_strs h1
  obtain ⟨_, rfl⟩ := arg_str h2
  refine ⟨.string ⟨(Lib.join xs sep).toArray⟩, rfl, ?_⟩
  refine (callsW_iff Tryd.func45 rfl rfl).2 ?_
  have hm : ∀ l : List (List UInt8), ((l.map fun x => (⟨x.toArray⟩ : ByteArray)).map (·.data.toList)) = l := by
    intro l; simp [List.map_map, Function.comp_def]
  cases hx : xs with
  | nil =>
    subst hx
    refine (Tryd.strings_Join_none (a.map addrOf) cap ⟨sep.toArray⟩ w).mono ?_
    rintro e w' ⟨rfl, rfl⟩
    exact ⟨rfl, Evo.refl _ _⟩
  | cons x xs' =>
    rw [← hx]
    have hne : xs.length ≠ 0 := by rw [hx]; simp
    cases a with
    | none => exact absurd (ha rfl) hne
    | some y =>
      obtain ⟨b, o⟩ := y
      have hcl : ∀ (j : Nat) z, (xs.map fun x => (⟨x.toArray⟩ : ByteArray))[j]? = some z → w.cell? ⟨b, o + j, none⟩ = some (.string z) := by
        intro j z hz
        rw [List.getElem?_map] at hz
        cases hj : xs[j]? with
        | none => rw [hj] at hz; cases hz
        | some u =>
          rw [hj] at hz
          simp only [Option.map_some, Option.some.injEq] at hz
          subst hz
          exact hcell b o rfl j u hj
      have hb : b < w.heap.size := at_lt (hcell b o rfl 0 x (by rw [hx]; rfl))
      have := Tryd.strings_Join b o cap (xs.map fun x => (⟨x.toArray⟩ : ByteArray)) ⟨sep.toArray⟩ w hcl hb (by simpa using hc.1) (by simpa using hcap) (by rw [hm]; simpa using hc.2)
      rw [hm, List.length_map] at this
      refine this.mono ?_
      rintro e w' ⟨rfl, hbel⟩
      exact ⟨rfl, evo_below hbel⟩

end YtddfcajdelfikaaDoor.Vm
end Go.Proofs
