import Derived.Test.YtddfcajdelfikaaDoorEnc
import Derived.Test.YtddfcajdelfikaaDoorHand
import Derived.Test.YtddfcajdelfikaaDoorG1
import Derived.Test.YtddfcajdelfikaaDoorVm34
set_option maxRecDepth 100000
set_option maxHeartbeats 4000000
set_option linter.unusedSimpArgs false
set_option linter.unusedVariables false
namespace Go.Proofs.YtddfcajdelfikaaDoor.Vm
open Go

noncomputable def strings_genSplit_l1 (a0 : List UInt8) (v6 : Int) (a1 : List UInt8) (a2 : Int) (s9 : (List UInt8) × Int × (List (List UInt8))) : Option (((List UInt8) × Int × (List (List UInt8))) ⊕ ((List UInt8) × Int × (List (List UInt8)))) :=
  (bif (decide (s9.2.1 < (IntKind.i64.wrap ((if (IntKind.i64.wrap ((a0.length : Int) + (1 : Int))) < (IntKind.i64.wrap (v6 + (1 : Int))) then (IntKind.i64.wrap ((a0.length : Int) + (1 : Int))) else (IntKind.i64.wrap (v6 + (1 : Int)))) - (1 : Int))))) then ((strings_Index s9.1 a1).bind fun v13 => (bif (decide (v13 < (0 : Int))) then (some (Sum.inr (s9.1, s9.2.1, s9.2.2))) else (bif (decide ((0 : Int) ≤ (0 : Int)) && decide ((0 : Int) ≤ (IntKind.i64.wrap (v13 + a2))) && decide ((IntKind.i64.wrap (v13 + a2)) ≤ (s9.1.length : Int))) then ((at? s9.2.2 s9.2.1).bind fun x17 => (bif (decide ((0 : Int) ≤ (IntKind.i64.wrap (v13 + (a1.length : Int)))) && decide ((IntKind.i64.wrap (v13 + (a1.length : Int))) ≤ (s9.1.length : Int)) && decide ((s9.1.length : Int) ≤ (s9.1.length : Int))) then (some (Sum.inl ((List.drop (IntKind.i64.wrap (v13 + (a1.length : Int))).toNat (List.take (s9.1.length : Int).toNat s9.1)), (IntKind.i64.wrap (s9.2.1 + (1 : Int))), (s9.2.2.set s9.2.1.toNat (List.drop (0 : Int).toNat (List.take (IntKind.i64.wrap (v13 + a2)).toNat s9.1)))))) else none)) else none))) else (some (Sum.inr (s9.1, s9.2.1, s9.2.2))))
noncomputable def strings_genSplit_l2 (a0 : List UInt8) (a3 : Int) (a1 : List UInt8) (a2 : Int) (s26 : (List UInt8) × Int × (List (List UInt8))) : Option (((List UInt8) × Int × (List (List UInt8))) ⊕ ((List UInt8) × Int × (List (List UInt8)))) :=
  (bif (decide (s26.2.1 < (IntKind.i64.wrap ((if (IntKind.i64.wrap ((a0.length : Int) + (1 : Int))) < a3 then (IntKind.i64.wrap ((a0.length : Int) + (1 : Int))) else a3) - (1 : Int))))) then ((strings_Index s26.1 a1).bind fun v30 => (bif (decide (v30 < (0 : Int))) then (some (Sum.inr (s26.1, s26.2.1, s26.2.2))) else (bif (decide ((0 : Int) ≤ (0 : Int)) && decide ((0 : Int) ≤ (IntKind.i64.wrap (v30 + a2))) && decide ((IntKind.i64.wrap (v30 + a2)) ≤ (s26.1.length : Int))) then ((at? s26.2.2 s26.2.1).bind fun x34 => (bif (decide ((0 : Int) ≤ (IntKind.i64.wrap (v30 + (a1.length : Int)))) && decide ((IntKind.i64.wrap (v30 + (a1.length : Int))) ≤ (s26.1.length : Int)) && decide ((s26.1.length : Int) ≤ (s26.1.length : Int))) then (some (Sum.inl ((List.drop (IntKind.i64.wrap (v30 + (a1.length : Int))).toNat (List.take (s26.1.length : Int).toNat s26.1)), (IntKind.i64.wrap (s26.2.1 + (1 : Int))), (s26.2.2.set s26.2.1.toNat (List.drop (0 : Int).toNat (List.take (IntKind.i64.wrap (v30 + a2)).toNat s26.1)))))) else none)) else none))) else (some (Sum.inr (s26.1, s26.2.1, s26.2.2))))
noncomputable def strings_genSplit (a0 : List UInt8) (a1 : List UInt8) (a2 : Int) (a3 : Int) : Option ((List (List UInt8))) :=
  (bif (a3 == (0 : Int)) then (some []) else (bif (a1 == ([] : List UInt8)) then ((strings_explode a0 a3).bind fun v3 => (some v3)) else (bif (decide (a3 < (0 : Int))) then ((strings_Count a0 a1).bind fun v6 => (bif mkOk 16 (if (IntKind.i64.wrap ((a0.length : Int) + (1 : Int))) < (IntKind.i64.wrap (v6 + (1 : Int))) then (IntKind.i64.wrap ((a0.length : Int) + (1 : Int))) else (IntKind.i64.wrap (v6 + (1 : Int)))) then (Option.bind (loopC (strings_genSplit_l1 a0 v6 a1 a2) (a0, (0 : Int), (List.replicate (if (IntKind.i64.wrap ((a0.length : Int) + (1 : Int))) < (IntKind.i64.wrap (v6 + (1 : Int))) then (IntKind.i64.wrap ((a0.length : Int) + (1 : Int))) else (IntKind.i64.wrap (v6 + (1 : Int)))).toNat []))) fun v10 => ((at? v10.2.2 v10.2.1).bind fun x22 => (bif (decide ((0 : Int) ≤ (0 : Int)) && decide ((0 : Int) ≤ (IntKind.i64.wrap (v10.2.1 + (1 : Int)))) && decide ((IntKind.i64.wrap (v10.2.1 + (1 : Int))) ≤ ((v10.2.2.set v10.2.1.toNat v10.1).length : Int))) then (some (List.take ((IntKind.i64.wrap (v10.2.1 + (1 : Int))).toNat) (v10.2.2.set v10.2.1.toNat v10.1))) else none))) else none)) else (bif mkOk 16 (if (IntKind.i64.wrap ((a0.length : Int) + (1 : Int))) < a3 then (IntKind.i64.wrap ((a0.length : Int) + (1 : Int))) else a3) then (Option.bind (loopC (strings_genSplit_l2 a0 a3 a1 a2) (a0, (0 : Int), (List.replicate (if (IntKind.i64.wrap ((a0.length : Int) + (1 : Int))) < a3 then (IntKind.i64.wrap ((a0.length : Int) + (1 : Int))) else a3).toNat []))) fun v27 => ((at? v27.2.2 v27.2.1).bind fun x39 => (bif (decide ((0 : Int) ≤ (0 : Int)) && decide ((0 : Int) ≤ (IntKind.i64.wrap (v27.2.1 + (1 : Int)))) && decide ((IntKind.i64.wrap (v27.2.1 + (1 : Int))) ≤ ((v27.2.2.set v27.2.1.toNat v27.1).length : Int))) then (some (List.take ((IntKind.i64.wrap (v27.2.1 + (1 : Int))).toNat) (v27.2.2.set v27.2.1.toNat v27.1))) else none))) else none))))
theorem strings_genSplit_good (a0 : List UInt8) (a1 : List UInt8) (a2 : Int) (a3 : Int) {r : (List (List UInt8))} (h : strings_genSplit a0 a1 a2 a3 = some r) : GoodD Tryd.prog 39 [.val false (ES.row false a0), .val false (ES.row false a1), .val false ((EI .i64).row false a2), .val false ((EI .i64).row false a3)] [(false, (EL ES 1).row true r)] [[], [], [], []] := by
  have F : True := trivial
  unfold strings_genSplit at h
  refine good_body tabOk 66 [.tmp 8] Tryd.func39 rfl rfl rfl rfl ?_
  refine k_seq tabOk ?_
  refine tri_seq ?_
  refine k_seq tabOk ?_
  rcases of_bif h with ⟨e1, h⟩ | ⟨e1, h⟩
  · replace F := fct e1 F
    refine k_then ?_
    refine k_seq tabOk ?_
    obtain rfl := Option.some.inj h
    refine tri_ret ?_
    exact k_retE
  · replace F := fct e1 F
    refine k_else ?_
    refine tri_skip ?_
    refine thn_normal ?_
    refine tri_seq ?_
    refine k_seq tabOk ?_
    rcases of_bif h with ⟨e2, h⟩ | ⟨e2, h⟩
    · replace F := fct e2 F
      refine k_then ?_
      refine k_runs 4 ?_
      refine r_ops tabOk 2 2 ?_
      obtain ⟨v3, e4, h⟩ := of_bind h
      refine r_call tabOk 1 [.val, .val] (strings_explode_good _ _ e4) ?_
      refine r_ops tabOk 1 0 ?_
      refine run_end ?_
      obtain rfl := Option.some.inj h
      refine tri_ret ?_
      exact k_retE
    · replace F := fct e2 F
      refine k_else ?_
      refine tri_skip ?_
      refine thn_normal ?_
      refine tri_seq ?_
      refine k_seq tabOk ?_
      rcases of_bif h with ⟨e5, h⟩ | ⟨e5, h⟩
      · replace F := fct e5 F
        refine k_then ?_
        refine k_run1 5 ?_
        refine r_ops tabOk 2 3 ?_
        obtain ⟨v6, e7, h⟩ := of_bind h
        refine r_call tabOk 2 [.val, .val] (strings_Count_good _ _ e7) ?_
        refine r_ops tabOk 2 0 ?_
        refine run_end ?_
        refine thn_normal ?_
        refine k_seq tabOk ?_
        obtain ⟨e8, h⟩ := of_chk h
        replace F := fct (mkOk_iff e8) F
        refine k_seq tabOk ?_
        refine k_seq tabOk ?_
        refine k_keep [(0, 0), (1, 0), (2, 0), (3, 0), (9, 0)] [(9, 0)] ?_
        refine k_seq tabOk ?_
        refine tri_seq ?_
        refine tri_block ?_
        obtain ⟨v10, e20, h⟩ := of_bind h
        refine k_loopX (fun (s9 : (List UInt8) × Int × (List (List UInt8))) => ⟨[((0, 0), .val false [.str s9.1]), ((1, 0), .val false [.str a1]), ((2, 0), .val false [.int .i64 a2]), ((3, 0), .val false [.int .i64 (IntKind.i64.wrap ((if (IntKind.i64.wrap ((a0.length : Int) + (1 : Int))) < (IntKind.i64.wrap (v6 + (1 : Int))) then (IntKind.i64.wrap ((a0.length : Int) + (1 : Int))) else (IntKind.i64.wrap (v6 + (1 : Int)))) - (1 : Int)))]), ((9, 0), .view false (9, 0) [0] 1), ((10, 0), .val false [.int .i64 s9.2.1])], [⟨(9, 0), true, [.sl true 1 (s9.2.2 : List (List UInt8)).length (ES.L true s9.2.2)]⟩], 66, []⟩) 0 (fun (v10 : (List UInt8) × Int × (List (List UInt8))) => ⟨[((0, 0), .val false [.str v10.1]), ((9, 0), .view false (9, 0) [0] 1), ((10, 0), .val false [.int .i64 v10.2.1])], [⟨(9, 0), true, [.sl true 1 (v10.2.2 : List (List UInt8)).length (ES.L true v10.2.2)]⟩], 66, []⟩) e20 ?_ ?_ ?_
        · exact i_to [(0, 0), (1, 0), (2, 0), (3, 0), (9, 0), (10, 0)] [(9, 0)]
        · clear h e20
          intro s9 o11 h
          unfold strings_genSplit_l1 at h
          refine tri_seq ?_
          refine k_seq tabOk ?_
          rcases of_bif h with ⟨e12, h⟩ | ⟨e12, h⟩
          · replace F := fct e12 F
            refine k_then ?_
            refine tri_skip ?_
            refine thn_normal ?_
            refine tri_block ?_
            refine k_runs 4 ?_
            refine r_ops tabOk 2 2 ?_
            obtain ⟨v13, e14, h⟩ := of_bind h
            refine r_call tabOk 1 [.val, .val] (strings_Index_good _ _ e14) ?_
            refine r_ops tabOk 1 0 ?_
            refine run_end ?_
            refine tri_seq ?_
            refine k_seq tabOk ?_
            rcases of_bif h with ⟨e15, h⟩ | ⟨e15, h⟩
            · replace F := fct e15 F
              refine k_then ?_
              refine tri_exit ?_
              refine thn_exit ?_
              refine inblk_other (by decide) ?_
              obtain rfl := Option.some.inj h
              exact and_rfl (i_to [(0, 0), (9, 0), (10, 0)] [(9, 0)])
            · replace F := fct e15 F
              refine k_else ?_
              refine tri_skip ?_
              refine thn_normal ?_
              obtain ⟨e16, h⟩ := of_chk h
              replace F := fct (e16) F
              obtain ⟨x17, e18, h⟩ := of_bind h
              replace F := fct (at_range e18) F
              replace F := fct (at_setw ES true 1 1 (List.drop (0 : Int).toNat (List.take (IntKind.i64.wrap (v13 + a2)).toNat s9.1)) e18 (new := [.str (List.drop (0 : Int).toNat (List.take (IntKind.i64.wrap (v13 + a2)).toNat s9.1))])) F
              replace F := fct (at_ow ES true 1 1 e18) F
              refine k_seq tabOk ?_
              refine k_keep [(0, 0), (1, 0), (2, 0), (3, 0), (9, 0), (10, 0), (11, 0)] [(9, 0)] ?_
              obtain ⟨e19, h⟩ := of_chk h
              replace F := fct (e19) F
              refine k_seq tabOk ?_
              refine k_one tabOk ?_
              refine inblk_normal ?_
              obtain rfl := Option.some.inj h
              exact and_rfl (i_to [(0, 0), (1, 0), (2, 0), (3, 0), (9, 0), (10, 0)] [(9, 0)])
          · replace F := fct e12 F
            refine k_else ?_
            refine tri_exit ?_
            refine thn_exit ?_
            obtain rfl := Option.some.inj h
            exact and_rfl (i_to [(0, 0), (9, 0), (10, 0)] [(9, 0)])
        · refine inblk_here ?_
          refine thn_normal ?_
          obtain ⟨x22, e23, h⟩ := of_bind h
          replace F := fct (at_range e23) F
          replace F := fct (at_setw ES true 1 1 v10.1 e23 (new := [.str v10.1])) F
          replace F := fct (at_ow ES true 1 1 e23) F
          refine k_seq tabOk ?_
          refine k_runs 5 ?_
          obtain ⟨e24, h⟩ := of_chk h
          replace F := fct (e24) F
          replace F := fct (sub_b ES true 1 (v10.2.2.set v10.2.1.toNat v10.1) e24) F
          refine r_ops tabOk 4 1 ?_
          refine r_trunc 65 ?_
          refine r_ops tabOk 1 0 ?_
          refine run_end ?_
          obtain rfl := Option.some.inj h
          refine tri_ret ?_
          exact k_retE
      · replace F := fct e5 F
        refine k_else ?_
        refine tri_skip ?_
        refine thn_normal ?_
        refine k_seq tabOk ?_
        obtain ⟨e25, h⟩ := of_chk h
        replace F := fct (mkOk_iff e25) F
        refine k_seq tabOk ?_
        refine k_seq tabOk ?_
        refine k_seq tabOk ?_
        refine tri_seq ?_
        refine tri_block ?_
        obtain ⟨v27, e37, h⟩ := of_bind h
        refine k_loopX (fun (s26 : (List UInt8) × Int × (List (List UInt8))) => ⟨[((0, 0), .val false [.str s26.1]), ((1, 0), .val false [.str a1]), ((2, 0), .val false [.int .i64 a2]), ((3, 0), .val false [.int .i64 (IntKind.i64.wrap ((if (IntKind.i64.wrap ((a0.length : Int) + (1 : Int))) < a3 then (IntKind.i64.wrap ((a0.length : Int) + (1 : Int))) else a3) - (1 : Int)))]), ((9, 0), .view false (9, 0) [0] 1), ((10, 0), .val false [.int .i64 s26.2.1])], [⟨(9, 0), true, [.sl true 1 (s26.2.2 : List (List UInt8)).length (ES.L true s26.2.2)]⟩], 66, []⟩) 0 (fun (v27 : (List UInt8) × Int × (List (List UInt8))) => ⟨[((0, 0), .val false [.str v27.1]), ((9, 0), .view false (9, 0) [0] 1), ((10, 0), .val false [.int .i64 v27.2.1])], [⟨(9, 0), true, [.sl true 1 (v27.2.2 : List (List UInt8)).length (ES.L true v27.2.2)]⟩], 66, []⟩) e37 ?_ ?_ ?_
        · exact i_to [(0, 0), (1, 0), (2, 0), (3, 0), (9, 0), (10, 0)] [(9, 0)]
        · clear h e37
          intro s26 o28 h
          unfold strings_genSplit_l2 at h
          refine tri_seq ?_
          refine k_seq tabOk ?_
          rcases of_bif h with ⟨e29, h⟩ | ⟨e29, h⟩
          · replace F := fct e29 F
            refine k_then ?_
            refine tri_skip ?_
            refine thn_normal ?_
            refine tri_block ?_
            refine k_runs 4 ?_
            refine r_ops tabOk 2 2 ?_
            obtain ⟨v30, e31, h⟩ := of_bind h
            refine r_call tabOk 1 [.val, .val] (strings_Index_good _ _ e31) ?_
            refine r_ops tabOk 1 0 ?_
            refine run_end ?_
            refine tri_seq ?_
            refine k_seq tabOk ?_
            rcases of_bif h with ⟨e32, h⟩ | ⟨e32, h⟩
            · replace F := fct e32 F
              refine k_then ?_
              refine tri_exit ?_
              refine thn_exit ?_
              refine inblk_other (by decide) ?_
              obtain rfl := Option.some.inj h
              exact and_rfl (i_to [(0, 0), (9, 0), (10, 0)] [(9, 0)])
            · replace F := fct e32 F
              refine k_else ?_
              refine tri_skip ?_
              refine thn_normal ?_
              obtain ⟨e33, h⟩ := of_chk h
              replace F := fct (e33) F
              obtain ⟨x34, e35, h⟩ := of_bind h
              replace F := fct (at_range e35) F
              replace F := fct (at_setw ES true 1 1 (List.drop (0 : Int).toNat (List.take (IntKind.i64.wrap (v30 + a2)).toNat s26.1)) e35 (new := [.str (List.drop (0 : Int).toNat (List.take (IntKind.i64.wrap (v30 + a2)).toNat s26.1))])) F
              replace F := fct (at_ow ES true 1 1 e35) F
              refine k_seq tabOk ?_
              refine k_keep [(0, 0), (1, 0), (2, 0), (3, 0), (9, 0), (10, 0), (11, 0)] [(9, 0)] ?_
              obtain ⟨e36, h⟩ := of_chk h
              replace F := fct (e36) F
              refine k_seq tabOk ?_
              refine k_one tabOk ?_
              refine inblk_normal ?_
              obtain rfl := Option.some.inj h
              exact and_rfl (i_to [(0, 0), (1, 0), (2, 0), (3, 0), (9, 0), (10, 0)] [(9, 0)])
          · replace F := fct e29 F
            refine k_else ?_
            refine tri_exit ?_
            refine thn_exit ?_
            obtain rfl := Option.some.inj h
            exact and_rfl (i_to [(0, 0), (9, 0), (10, 0)] [(9, 0)])
        · refine inblk_here ?_
          refine thn_normal ?_
          obtain ⟨x39, e40, h⟩ := of_bind h
          replace F := fct (at_range e40) F
          replace F := fct (at_setw ES true 1 1 v27.1 e40 (new := [.str v27.1])) F
          replace F := fct (at_ow ES true 1 1 e40) F
          refine k_seq tabOk ?_
          refine k_runs 5 ?_
          obtain ⟨e41, h⟩ := of_chk h
          replace F := fct (e41) F
          replace F := fct (sub_b ES true 1 (v27.2.2.set v27.2.1.toNat v27.1) e41) F
          refine r_ops tabOk 4 1 ?_
          refine r_trunc 65 ?_
          refine r_ops tabOk 1 0 ?_
          refine run_end ?_
          obtain rfl := Option.some.inj h
          refine tri_ret ?_
          exact k_retE

noncomputable def strings_Split (a0 : List UInt8) (a1 : List UInt8) : Option ((List (List UInt8))) :=
  ((strings_genSplit a0 a1 (0 : Int) (-1 : Int)).bind fun v1 => (some v1))
theorem strings_Split_good (a0 : List UInt8) (a1 : List UInt8) {r : (List (List UInt8))} (h : strings_Split a0 a1 = some r) : GoodD Tryd.prog 20 [.val false (ES.row false a0), .val false (ES.row false a1)] [(false, (EL ES 1).row true r)] [[], []] := by
  have F : True := trivial
  unfold strings_Split at h
  refine good_body tabOk 8 [.tmp 4] Tryd.func20 rfl rfl rfl rfl ?_
  refine k_seq tabOk ?_
  refine k_runs 4 ?_
  refine r_ops tabOk 2 2 ?_
  obtain ⟨v1, e2, h⟩ := of_bind h
  refine r_call tabOk 1 [.val, .val, .val, .val] (strings_genSplit_good _ _ _ _ e2) ?_
  refine r_ops tabOk 1 0 ?_
  refine run_end ?_
  obtain rfl := Option.some.inj h
  refine tri_ret ?_
  exact k_retE

noncomputable def impl_wordOf (a0 : Int) : Option ((List UInt8)) :=
  (bif (a0 == (2 : Int)) then (some [100, 101, 108, 105, 118, 101, 114]) else (bif (a0 == (3 : Int)) then (some [108, 111, 115, 101]) else (bif (a0 == (4 : Int)) then (some [100, 111, 117, 98, 108, 101]) else (bif (a0 == (5 : Int)) then (some [116, 105, 99, 107]) else (bif (a0 == (6 : Int)) then (some [100, 111, 119, 110]) else (bif (a0 == (7 : Int)) then (some [116, 111, 114, 110]) else (bif (a0 == (8 : Int)) then (some [117, 112]) else (bif (a0 == (9 : Int)) then (some [99, 97, 108, 109]) else (some [])))))))))
theorem impl_wordOf_good (a0 : Int) {r : (List UInt8)} (h : impl_wordOf a0 = some r) : GoodD Tryd.prog 21 [.val false ((EI .i64).row false a0)] [(false, ES.row false r)] [[]] := by
  have F : True := trivial
  unfold impl_wordOf at h
  refine good_body tabOk 20 [.tmp 2] Tryd.func21 rfl rfl rfl rfl ?_
  refine k_seq tabOk ?_
  refine tri_seq ?_
  refine k_seq tabOk ?_
  refine tri_block ?_
  refine k_seq tabOk ?_
  rcases of_bif h with ⟨e1, h⟩ | ⟨e1, h⟩
  · replace F := fct e1 F
    refine k_then ?_
    refine k_seq tabOk ?_
    obtain rfl := Option.some.inj h
    refine tri_ret ?_
    exact k_retE
  · replace F := fct e1 F
    refine k_else ?_
    refine k_seq tabOk ?_
    rcases of_bif h with ⟨e2, h⟩ | ⟨e2, h⟩
    · replace F := fct e2 F
      refine k_then ?_
      refine k_seq tabOk ?_
      obtain rfl := Option.some.inj h
      refine tri_ret ?_
      exact k_retE
    · replace F := fct e2 F
      refine k_else ?_
      refine k_seq tabOk ?_
      rcases of_bif h with ⟨e3, h⟩ | ⟨e3, h⟩
      · replace F := fct e3 F
        refine k_then ?_
        refine k_seq tabOk ?_
        obtain rfl := Option.some.inj h
        refine tri_ret ?_
        exact k_retE
      · replace F := fct e3 F
        refine k_else ?_
        refine k_seq tabOk ?_
        rcases of_bif h with ⟨e4, h⟩ | ⟨e4, h⟩
        · replace F := fct e4 F
          refine k_then ?_
          refine k_seq tabOk ?_
          obtain rfl := Option.some.inj h
          refine tri_ret ?_
          exact k_retE
        · replace F := fct e4 F
          refine k_else ?_
          refine k_seq tabOk ?_
          rcases of_bif h with ⟨e5, h⟩ | ⟨e5, h⟩
          · replace F := fct e5 F
            refine k_then ?_
            refine k_seq tabOk ?_
            obtain rfl := Option.some.inj h
            refine tri_ret ?_
            exact k_retE
          · replace F := fct e5 F
            refine k_else ?_
            refine k_seq tabOk ?_
            rcases of_bif h with ⟨e6, h⟩ | ⟨e6, h⟩
            · replace F := fct e6 F
              refine k_then ?_
              refine k_seq tabOk ?_
              obtain rfl := Option.some.inj h
              refine tri_ret ?_
              exact k_retE
            · replace F := fct e6 F
              refine k_else ?_
              refine k_seq tabOk ?_
              rcases of_bif h with ⟨e7, h⟩ | ⟨e7, h⟩
              · replace F := fct e7 F
                refine k_then ?_
                refine k_seq tabOk ?_
                obtain rfl := Option.some.inj h
                refine tri_ret ?_
                exact k_retE
              · replace F := fct e7 F
                refine k_else ?_
                refine k_seq tabOk ?_
                rcases of_bif h with ⟨e8, h⟩ | ⟨e8, h⟩
                · replace F := fct e8 F
                  refine k_then ?_
                  refine k_seq tabOk ?_
                  obtain rfl := Option.some.inj h
                  refine tri_ret ?_
                  exact k_retE
                · replace F := fct e8 F
                  refine k_else ?_
                  refine tri_skip ?_
                  refine inblk_normal ?_
                  refine thn_normal ?_
                  refine k_seq tabOk ?_
                  obtain rfl := Option.some.inj h
                  refine tri_ret ?_
                  exact k_retE

noncomputable def impl_within (a0 : Int) (a1 : Int) (a2 : Int) : Option (Bool) :=
  (some ((decide (a1 ≤ a0)) && (decide (a0 ≤ a2))))
theorem impl_within_good (a0 : Int) (a1 : Int) (a2 : Int) {r : Bool} (h : impl_within a0 a1 a2 = some r) : GoodD Tryd.prog 40 [.val false ((EI .i64).row false a0), .val false ((EI .i64).row false a1), .val false ((EI .i64).row false a2)] [(false, EB.row false r)] [[], [], []] := by
  have F : True := trivial
  unfold impl_within at h
  refine good_body tabOk 15 [.tmp 6] Tryd.func40 rfl rfl rfl rfl ?_
  refine k_seq tabOk ?_
  refine k_seq tabOk ?_
  obtain rfl := Option.some.inj h
  refine tri_ret ?_
  exact k_retE

noncomputable def impl_isNum (a0 : Int) : Option (Bool) :=
  ((impl_within a0 (0 : Int) (1099511627775 : Int)).bind fun v1 => (some v1))
theorem impl_isNum_good (a0 : Int) {r : Bool} (h : impl_isNum a0 = some r) : GoodD Tryd.prog 54 [.val false ((EI .i64).row false a0)] [(false, EB.row false r)] [[]] := by
  have F : True := trivial
  unfold impl_isNum at h
  refine good_body tabOk 5 [.tmp 2] Tryd.func54 rfl rfl rfl rfl ?_
  refine k_seq tabOk ?_
  refine k_runs 3 ?_
  refine r_ops tabOk 1 2 ?_
  obtain ⟨v1, e2, h⟩ := of_bind h
  refine r_call tabOk 1 [.val, .val, .val] (impl_within_good _ _ _ e2) ?_
  refine r_ops tabOk 1 0 ?_
  refine run_end ?_
  obtain rfl := Option.some.inj h
  refine tri_ret ?_
  exact k_retE

noncomputable def impl_NumText_l1  (s4 : Int × (List UInt8)) : Option ((Int × (List UInt8)) ⊕ (Int × (List UInt8))) :=
  (bif (decide ((9 : Int) < s4.1)) then (bif decide (([(U8 (IntKind.u8.wrap (IntKind.i64.wrap ((48 : Int) + (s4.1.tmod (10 : Int))))))] : List UInt8).length + s4.2.length ≤ 9223372036854775807) then (some (Sum.inl ((IntKind.i64.wrap (s4.1.tdiv (10 : Int))), (([(U8 (IntKind.u8.wrap (IntKind.i64.wrap ((48 : Int) + (s4.1.tmod (10 : Int))))))] : List UInt8) ++ s4.2)))) else none) else (some (Sum.inr (s4.1, s4.2))))
noncomputable def impl_NumText (a0 : Int) : Option ((List UInt8)) :=
  ((impl_isNum a0).bind fun v1 => (bif (!v1) then (some []) else (Option.bind (loopC impl_NumText_l1 (a0, [])) fun v5 => (bif decide (([(U8 (IntKind.u8.wrap (IntKind.i64.wrap ((48 : Int) + v5.1))))] : List UInt8).length + v5.2.length ≤ 9223372036854775807) then (some (([(U8 (IntKind.u8.wrap (IntKind.i64.wrap ((48 : Int) + v5.1))))] : List UInt8) ++ v5.2)) else none))))
theorem impl_NumText_good (a0 : Int) {r : (List UInt8)} (h : impl_NumText a0 = some r) : GoodD Tryd.prog 41 [.val false ((EI .i64).row false a0)] [(false, ES.row false r)] [[]] := by
  have F : True := trivial
  unfold impl_NumText at h
  refine good_body tabOk 26 [.tmp 2] Tryd.func41 rfl rfl rfl rfl ?_
  refine k_seq tabOk ?_
  refine tri_seq ?_
  refine k_runs 3 ?_
  refine r_ops tabOk 1 2 ?_
  obtain ⟨v1, e2, h⟩ := of_bind h
  refine r_call tabOk 1 [.val] (impl_isNum_good _ e2) ?_
  refine r_ops tabOk 1 0 ?_
  refine run_end ?_
  rcases of_bif h with ⟨e3, h⟩ | ⟨e3, h⟩
  · replace F := fct e3 F
    refine k_then ?_
    refine k_seq tabOk ?_
    obtain rfl := Option.some.inj h
    refine tri_ret ?_
    exact k_retE
  · replace F := fct e3 F
    refine k_else ?_
    refine tri_skip ?_
    refine thn_normal ?_
    refine k_seq tabOk ?_
    refine tri_seq ?_
    refine tri_block ?_
    obtain ⟨v5, e9, h⟩ := of_bind h
    refine k_loopX (fun (s4 : Int × (List UInt8)) => ⟨[((0, 0), .val false [.int .i64 s4.1]), ((3, 0), .val false [.str s4.2])], [], 26, []⟩) 0 (fun (v5 : Int × (List UInt8)) => ⟨[((0, 0), .val false [.int .i64 v5.1]), ((3, 0), .val false [.str v5.2])], [], 26, []⟩) e9 ?_ ?_ ?_
    · exact i_to [(0, 0), (3, 0)] []
    · clear h e9
      intro s4 o6 h
      unfold impl_NumText_l1 at h
      refine tri_seq ?_
      refine k_seq tabOk ?_
      rcases of_bif h with ⟨e7, h⟩ | ⟨e7, h⟩
      · replace F := fct e7 F
        refine k_then ?_
        refine tri_skip ?_
        refine thn_normal ?_
        refine tri_block ?_
        obtain ⟨e8, h⟩ := of_chk h
        replace F := fct (of_decide_eq_true e8) F
        refine k_seq tabOk ?_
        refine k_one tabOk ?_
        refine inblk_normal ?_
        obtain rfl := Option.some.inj h
        exact and_rfl (i_to [(0, 0), (3, 0)] [])
      · replace F := fct e7 F
        refine k_else ?_
        refine tri_exit ?_
        refine thn_exit ?_
        obtain rfl := Option.some.inj h
        exact and_rfl (i_to [(0, 0), (3, 0)] [])
    · refine inblk_here ?_
      refine thn_normal ?_
      obtain ⟨e11, h⟩ := of_chk h
      replace F := fct (of_decide_eq_true e11) F
      refine k_seq tabOk ?_
      obtain rfl := Option.some.inj h
      refine tri_ret ?_
      exact k_retE

noncomputable def impl_TextNum_l1 (a0 : List UInt8) (s4 : Int × Int) : Option ((Int × Int) ⊕ ((Int) ⊕ (Int × Bool))) :=
  (bif (decide (s4.2 < (a0.length : Int))) then (Option.bind (bif inRange s4.2 a0.length then (bif (decide (((a0.getD s4.2.toNat 0).toNat : Int) < (48 : Int))) then (some true) else (some (decide ((57 : Int) < ((a0.getD s4.2.toNat 0).toNat : Int))))) else none) fun (v8 : Bool) => (bif v8 then (some (Sum.inr (Sum.inr ((0 : Int), false)))) else (bif inRange s4.2 a0.length then (some (Sum.inl ((IntKind.i64.wrap ((IntKind.i64.wrap ((10 : Int) * s4.1)) + (IntKind.i64.wrap (IntKind.u8.wrap (((a0.getD s4.2.toNat 0).toNat : Int) - (48 : Int)))))), (IntKind.i64.wrap (s4.2 + (1 : Int)))))) else none))) else (some (Sum.inr (Sum.inl s4.1))))
noncomputable def impl_TextNum (a0 : List UInt8) : Option (Int × Bool) :=
  ((impl_within (a0.length : Int) (1 : Int) (13 : Int)).bind fun v1 => (bif (!v1) then (some ((0 : Int), false)) else (Option.bind (loopC (impl_TextNum_l1 a0) ((0 : Int), (0 : Int))) (early fun (v5 : Int) => ((impl_NumText v5).bind fun v16 => (bif (!(v16 == a0)) then (some ((0 : Int), false)) else (some (v5, true))))))))
theorem impl_TextNum_good (a0 : List UInt8) {r : Int × Bool} (h : impl_TextNum a0 = some r) : GoodD Tryd.prog 22 [.val false (ES.row false a0)] [(false, (EI .i64).row false r.1), (false, EB.row false r.2)] [[]] := by
  have F : True := trivial
  unfold impl_TextNum at h
  refine good_body tabOk 39 [.tmp 2, .tmp 3] Tryd.func22 rfl rfl rfl rfl ?_
  refine k_seq tabOk ?_
  refine tri_seq ?_
  refine k_runs 4 ?_
  refine r_ops tabOk 2 2 ?_
  obtain ⟨v1, e2, h⟩ := of_bind h
  refine r_call tabOk 1 [.val, .val, .val] (impl_within_good _ _ _ e2) ?_
  refine r_ops tabOk 1 0 ?_
  refine run_end ?_
  rcases of_bif h with ⟨e3, h⟩ | ⟨e3, h⟩
  · replace F := fct e3 F
    refine k_then ?_
    refine k_seq tabOk ?_
    obtain rfl := Option.some.inj h
    refine tri_ret ?_
    exact k_retE
  · replace F := fct e3 F
    refine k_else ?_
    refine tri_skip ?_
    refine thn_normal ?_
    refine k_seq tabOk ?_
    refine tri_seq ?_
    refine k_seq tabOk ?_
    refine tri_block ?_
    obtain ⟨o19, e14, h⟩ := of_bind h
    refine k_loopE (fun (s4 : Int × Int) => ⟨[((0, 0), .val false [.str a0]), ((4, 0), .val false [.int .i64 s4.1]), ((5, 0), .val false [.int .i64 s4.2])], [], 39, []⟩) 0 (fun (v5 : Int) => ⟨[((0, 0), .val false [.str a0]), ((4, 0), .val false [.int .i64 v5])], [], 39, []⟩) r e14 ?_ ?_ (fun _ e15 => early_r h e15) (fun v5 e15 => ?_)
    · exact i_to [(0, 0), (4, 0), (5, 0)] []
    · clear h e14
      intro s4 o6 h
      unfold impl_TextNum_l1 at h
      refine tri_seq ?_
      refine k_seq tabOk ?_
      rcases of_bif h with ⟨e7, h⟩ | ⟨e7, h⟩
      · replace F := fct e7 F
        refine k_then ?_
        refine tri_skip ?_
        refine thn_normal ?_
        refine tri_seq ?_
        refine tri_block ?_
        refine tri_seq ?_
        obtain ⟨v8, e13, h⟩ := of_bind h
        refine r_join (n := 10) (fun (v8 : Bool) => ⟨[((0, 0), .val false [.str a0]), ((4, 0), .val false [.int .i64 s4.1]), ((5, 0), .val false [.int .i64 s4.2]), ((25, 0), .val false [.bool v8])], [], 39, []⟩) v8 ?_ ?_
        · clear h
          have h := e13
          obtain ⟨e9, h⟩ := of_chk h
          replace F := fct (e9) F
          refine r_ops tabOk 7 3 ?_
          rcases of_bif h with ⟨e10, h⟩ | ⟨e10, h⟩
          · replace F := fct e10 F
            refine r_skip 2 1 ?_
            refine r_ops tabOk 1 0 ?_
            refine run_end ?_
            obtain rfl := Option.some.inj h
            exact i_to [(0, 0), (4, 0), (5, 0), (25, 0)] []
          · replace F := fct e10 F
            refine r_ops tabOk 3 0 ?_
            refine run_end ?_
            obtain rfl := Option.some.inj h
            exact i_to [(0, 0), (4, 0), (5, 0), (25, 0)] []
        · rcases of_bif h with ⟨e11, h⟩ | ⟨e11, h⟩
          · replace F := fct e11 F
            refine k_then ?_
            refine k_seq tabOk ?_
            obtain rfl := Option.some.inj h
            refine tri_ret ?_
            refine q_ret (fun e => ?_)
            subst e
            exact k_retE
          · replace F := fct e11 F
            refine k_else ?_
            refine tri_skip ?_
            refine thn_normal ?_
            obtain ⟨e12, h⟩ := of_chk h
            replace F := fct (e12) F
            refine k_one tabOk ?_
            refine inblk_normal ?_
            refine thn_normal ?_
            refine k_one tabOk ?_
            obtain rfl := Option.some.inj h
            exact and_rfl (i_to [(0, 0), (4, 0), (5, 0)] [])
      · replace F := fct e7 F
        refine k_else ?_
        refine tri_exit ?_
        refine thn_exit ?_
        obtain rfl := Option.some.inj h
        exact and_rfl (i_to [(0, 0), (4, 0)] [])
    · replace h := early_l h e15
      refine inblk_here ?_
      refine thn_normal ?_
      refine tri_seq ?_
      refine k_runs 4 ?_
      refine r_ops tabOk 1 3 ?_
      obtain ⟨v16, e17, h⟩ := of_bind h
      refine r_call tabOk 2 [.val] (impl_NumText_good _ e17) ?_
      refine r_ops tabOk 2 0 ?_
      refine run_end ?_
      rcases of_bif h with ⟨e18, h⟩ | ⟨e18, h⟩
      · replace F := fct e18 F
        refine k_then ?_
        refine k_seq tabOk ?_
        obtain rfl := Option.some.inj h
        refine tri_ret ?_
        exact k_retE
      · replace F := fct e18 F
        refine k_else ?_
        refine tri_skip ?_
        refine thn_normal ?_
        refine k_seq tabOk ?_
        obtain rfl := Option.some.inj h
        refine tri_ret ?_
        exact k_retE

noncomputable def impl_figure_l1 (a0 : UInt8) (s1 : Int) : Option ((Int) ⊕ ((Unit) ⊕ (Int))) :=
  (bif (decide (s1 < (16 : Int))) then (bif inRange s1 ([48, 49, 50, 51, 52, 53, 54, 55, 56, 57, 65, 66, 67, 68, 69, 70] : List UInt8).length then (bif (((([48, 49, 50, 51, 52, 53, 54, 55, 56, 57, 65, 66, 67, 68, 69, 70] : List UInt8).getD s1.toNat 0).toNat : Int) == (a0.toNat : Int)) then (some (Sum.inr (Sum.inr s1))) else (some (Sum.inl (IntKind.i64.wrap (s1 + (1 : Int)))))) else none) else (some (Sum.inr (Sum.inl ()))))
noncomputable def impl_figure (a0 : UInt8) : Option (Int) :=
  (Option.bind (loopC (impl_figure_l1 a0) (0 : Int)) (early fun (v2 : Unit) => (some (-1 : Int))))
theorem impl_figure_good (a0 : UInt8) {r : Int} (h : impl_figure a0 = some r) : GoodD Tryd.prog 69 [.val false (EU.row false a0)] [(false, (EI .i64).row false r)] [[]] := by
  have F : True := trivial
  unfold impl_figure at h
  refine good_body tabOk 13 [.tmp 2] Tryd.func69 rfl rfl rfl rfl ?_
  refine k_seq tabOk ?_
  refine tri_seq ?_
  refine k_seq tabOk ?_
  refine tri_block ?_
  obtain ⟨o9, e7, h⟩ := of_bind h
  refine k_loopE (fun (s1 : Int) => ⟨[((0, 0), .val false [.int .u8 a0.toNat]), ((4, 0), .val false [.int .i64 s1])], [], 13, []⟩) 0 (fun (v2 : Unit) => ⟨[], [], 13, []⟩) r e7 ?_ ?_ (fun _ e8 => early_r h e8) (fun v2 e8 => ?_)
  · exact i_to [(0, 0), (4, 0)] []
  · clear h e7
    intro s1 o3 h
    unfold impl_figure_l1 at h
    refine k_seq tabOk ?_
    refine tri_seq ?_
    rcases of_bif h with ⟨e4, h⟩ | ⟨e4, h⟩
    · replace F := fct e4 F
      refine k_then ?_
      refine tri_skip ?_
      refine thn_normal ?_
      refine tri_seq ?_
      refine tri_block ?_
      refine k_seq tabOk ?_
      obtain ⟨e5, h⟩ := of_chk h
      replace F := fct (e5) F
      refine k_seq tabOk ?_
      rcases of_bif h with ⟨e6, h⟩ | ⟨e6, h⟩
      · replace F := fct e6 F
        refine k_then ?_
        refine k_seq tabOk ?_
        obtain rfl := Option.some.inj h
        refine tri_ret ?_
        refine q_ret (fun e => ?_)
        subst e
        exact k_retE
      · replace F := fct e6 F
        refine k_else ?_
        refine tri_skip ?_
        refine inblk_normal ?_
        refine thn_normal ?_
        refine k_one tabOk ?_
        obtain rfl := Option.some.inj h
        exact and_rfl (i_to [(0, 0), (4, 0)] [])
    · replace F := fct e4 F
      refine k_else ?_
      refine tri_exit ?_
      refine thn_exit ?_
      obtain rfl := Option.some.inj h
      exact and_rfl (i_to [] [])
  · replace h := early_l h e8
    refine inblk_here ?_
    refine thn_normal ?_
    refine k_seq tabOk ?_
    obtain rfl := Option.some.inj h
    refine tri_ret ?_
    exact k_retE

noncomputable def impl_Quote_l1 (a0 : List UInt8) (s2 : Int × (List UInt8)) : Option ((Int × (List UInt8)) ⊕ ((List UInt8))) :=
  (bif (decide (s2.1 < (a0.length : Int))) then (Option.bind (bif inRange s2.1 a0.length then ((impl_within (IntKind.i64.wrap ((a0.getD s2.1.toNat 0).toNat : Int)) (33 : Int) (126 : Int)).bind fun v8 => (bif ((v8 && (((a0.getD s2.1.toNat 0).toNat : Int) != (34 : Int))) && (((a0.getD s2.1.toNat 0).toNat : Int) != (37 : Int))) then (bif room 1 s2.2.length (([(a0.getD s2.1.toNat 0)] : List UInt8).length) then (some (s2.2 ++ [(a0.getD s2.1.toNat 0)])) else none) else (bif inRange (((a0.getD s2.1.toNat 0).toNat : Int).fdiv (2 ^ (min 4 (IntKind.bits .u8)))) ([48, 49, 50, 51, 52, 53, 54, 55, 56, 57, 65, 66, 67, 68, 69, 70] : List UInt8).length then (bif inRange (IntKind.u8.wrap (BitVec.ofInt (IntKind.bits .u8) ((a0.getD s2.1.toNat 0).toNat : Int) &&& BitVec.ofInt (IntKind.bits .u8) (15 : Int)).toNat) ([48, 49, 50, 51, 52, 53, 54, 55, 56, 57, 65, 66, 67, 68, 69, 70] : List UInt8).length then (bif room 1 s2.2.length (([(37 : UInt8), (([48, 49, 50, 51, 52, 53, 54, 55, 56, 57, 65, 66, 67, 68, 69, 70] : List UInt8).getD (((a0.getD s2.1.toNat 0).toNat : Int).fdiv (2 ^ (min 4 (IntKind.bits .u8)))).toNat 0), (([48, 49, 50, 51, 52, 53, 54, 55, 56, 57, 65, 66, 67, 68, 69, 70] : List UInt8).getD (IntKind.u8.wrap (BitVec.ofInt (IntKind.bits .u8) ((a0.getD s2.1.toNat 0).toNat : Int) &&& BitVec.ofInt (IntKind.bits .u8) (15 : Int)).toNat).toNat 0)] : List UInt8).length) then (some (s2.2 ++ [(37 : UInt8), (([48, 49, 50, 51, 52, 53, 54, 55, 56, 57, 65, 66, 67, 68, 69, 70] : List UInt8).getD (((a0.getD s2.1.toNat 0).toNat : Int).fdiv (2 ^ (min 4 (IntKind.bits .u8)))).toNat 0), (([48, 49, 50, 51, 52, 53, 54, 55, 56, 57, 65, 66, 67, 68, 69, 70] : List UInt8).getD (IntKind.u8.wrap (BitVec.ofInt (IntKind.bits .u8) ((a0.getD s2.1.toNat 0).toNat : Int) &&& BitVec.ofInt (IntKind.bits .u8) (15 : Int)).toNat).toNat 0)])) else none) else none) else none))) else none) fun (v6 : (List UInt8)) => (some (Sum.inl ((IntKind.i64.wrap (s2.1 + (1 : Int))), v6)))) else (some (Sum.inr s2.2)))
noncomputable def impl_Quote (a0 : List UInt8) : Option ((List UInt8)) :=
  (bif (decide ((4096 : Int) < (a0.length : Int))) then (some []) else (Option.bind (loopC (impl_Quote_l1 a0) ((0 : Int), [(34 : UInt8)])) fun v3 => (bif room 1 v3.length (([(34 : UInt8)] : List UInt8).length) then (some (v3 ++ [(34 : UInt8)])) else none)))
theorem impl_Quote_good (a0 : List UInt8) {r : (List UInt8)} (h : impl_Quote a0 = some r) : GoodD Tryd.prog 70 [.val false (ES.row false a0)] [(false, ES.row false r)] [[]] := by
  have F : True := trivial
  unfold impl_Quote at h
  refine good_body tabOk 47 [.tmp 2] Tryd.func70 rfl rfl rfl rfl ?_
  refine k_seq tabOk ?_
  refine tri_seq ?_
  refine k_seq tabOk ?_
  rcases of_bif h with ⟨e1, h⟩ | ⟨e1, h⟩
  · replace F := fct e1 F
    refine k_then ?_
    refine k_seq tabOk ?_
    obtain rfl := Option.some.inj h
    refine tri_ret ?_
    exact k_retE
  · replace F := fct e1 F
    refine k_else ?_
    refine tri_skip ?_
    refine thn_normal ?_
    refine k_seq tabOk ?_
    refine tri_seq ?_
    refine k_seq tabOk ?_
    refine tri_block ?_
    obtain ⟨v3, e16, h⟩ := of_bind h
    refine k_loopX (fun (s2 : Int × (List UInt8)) => ⟨[((0, 0), .val false [.str a0]), ((3, 0), .view false (3, 0) [0] 1), ((4, 0), .val false [.int .i64 s2.1])], [⟨(3, 0), true, [.sl true 1 (s2.2 : List UInt8).length (EU.L true s2.2)]⟩], 47, []⟩) 0 (fun (v3 : (List UInt8)) => ⟨[((3, 0), .view false (3, 0) [0] 1)], [⟨(3, 0), true, [.sl true 1 (v3 : List UInt8).length (EU.L true v3)]⟩], 47, []⟩) e16 ?_ ?_ ?_
    · exact i_to [(0, 0), (3, 0), (4, 0)] [(3, 0)]
    · clear h e16
      intro s2 o4 h
      unfold impl_Quote_l1 at h
      refine tri_seq ?_
      refine k_seq tabOk ?_
      rcases of_bif h with ⟨e5, h⟩ | ⟨e5, h⟩
      · replace F := fct e5 F
        refine k_then ?_
        refine tri_skip ?_
        refine thn_normal ?_
        obtain ⟨v6, e15, h⟩ := of_bind h
        refine k_jn (fun (v6 : (List UInt8)) => ⟨[((0, 0), .val false [.str a0]), ((3, 0), .view false (3, 0) [0] 1), ((4, 0), .val false [.int .i64 s2.1])], [⟨(3, 0), true, [.sl true 1 (v6 : List UInt8).length (EU.L true v6)]⟩], 47, []⟩) v6 ?_ ?_
        · clear h
          have h := e15
          refine tri_block ?_
          obtain ⟨e7, h⟩ := of_chk h
          replace F := fct (e7) F
          refine k_seq tabOk ?_
          refine k_runs 11 ?_
          refine r_ops tabOk 2 9 ?_
          obtain ⟨v8, e9, h⟩ := of_bind h
          refine r_call tabOk 8 [.val, .val, .val] (impl_within_good _ _ _ e9) ?_
          refine r_ops tabOk 8 0 ?_
          refine run_end ?_
          rcases of_bif h with ⟨e10, h⟩ | ⟨e10, h⟩
          · replace F := fct e10 F
            refine k_then ?_
            obtain ⟨e11, h⟩ := of_chk h
            replace F := fct (room_iff e11) F
            refine k_one tabOk ?_
            refine inblk_normal ?_
            obtain rfl := Option.some.inj h
            exact and_rfl (i_to [(0, 0), (3, 0), (4, 0)] [(3, 0)])
          · replace F := fct e10 F
            refine k_else ?_
            refine k_draw1 mixed 10 ?_
            refine d_begin [[], [], [1], [1, 2], [], [4], [4, 5], [5, 4, 6, 2, 1, 3], [3, 1, 2, 6, 4, 5, 7, 0], [0, 7, 5, 4, 6, 2, 1, 3, 8]] ?_
            intro acc
            replace acc := a_q tabOk 0 [] acc
            replace acc := a_q tabOk 1 [] acc
            replace acc := a_q tabOk 2 [1] acc
            obtain ⟨e12, h⟩ := of_chk h
            replace F := fct (e12) F
            replace acc := a_q tabOk 3 [1, 2] acc
            replace acc := a_q tabOk 4 [] acc
            replace acc := a_q tabOk 5 [4] acc
            obtain ⟨e13, h⟩ := of_chk h
            replace F := fct (e13) F
            replace acc := a_q tabOk 6 [4, 5] acc
            replace acc := a_bslice tabOk 7 [1, 2, 3, 4, 5, 6] acc
            refine d_tail [] acc ?_
            clear acc
            obtain ⟨e14, h⟩ := of_chk h
            replace F := fct (room_iff e14) F
            refine d_one tabOk 8 ?_
            refine d_one tabOk 9 ?_
            refine d_done ?_
            refine inblk_normal ?_
            obtain rfl := Option.some.inj h
            exact and_rfl (i_to [(0, 0), (3, 0), (4, 0)] [(3, 0)])
        · refine k_one tabOk ?_
          obtain rfl := Option.some.inj h
          exact and_rfl (i_to [(0, 0), (3, 0), (4, 0)] [(3, 0)])
      · replace F := fct e5 F
        refine k_else ?_
        refine tri_exit ?_
        refine thn_exit ?_
        obtain rfl := Option.some.inj h
        exact and_rfl (i_to [(3, 0)] [(3, 0)])
    · refine inblk_here ?_
      refine thn_normal ?_
      obtain ⟨e18, h⟩ := of_chk h
      replace F := fct (room_iff e18) F
      refine k_seq tabOk ?_
      obtain rfl := Option.some.inj h
      refine tri_ret ?_
      exact k_retE

noncomputable def impl_Unquote_l1 (a0 : List UInt8) (s1 : Int × (List UInt8)) : Option ((Int × (List UInt8)) ⊕ (((List UInt8)) ⊕ ((List UInt8) × Bool))) :=
  (bif (decide (s1.1 < (IntKind.i64.wrap ((a0.length : Int) - (1 : Int))))) then (Option.bind (bif inRange s1.1 a0.length then (bif (((a0.getD s1.1.toNat 0).toNat : Int) != (37 : Int)) then (bif room 1 s1.2.length (([(a0.getD s1.1.toNat 0)] : List UInt8).length) then (some (Sum.inl (s1.1, (s1.2 ++ [(a0.getD s1.1.toNat 0)])))) else none) else (bif (decide ((IntKind.i64.wrap ((a0.length : Int) - (1 : Int))) ≤ (IntKind.i64.wrap (s1.1 + (2 : Int))))) then (some (Sum.inr (Sum.inr (Sum.inr ([], false))))) else (bif inRange (IntKind.i64.wrap (s1.1 + (1 : Int))) a0.length then ((impl_figure (a0.getD (IntKind.i64.wrap (s1.1 + (1 : Int))).toNat 0)).bind fun v12 => (bif inRange (IntKind.i64.wrap (s1.1 + (2 : Int))) a0.length then ((impl_figure (a0.getD (IntKind.i64.wrap (s1.1 + (2 : Int))).toNat 0)).bind fun v15 => (bif ((decide (v12 < (0 : Int))) || (decide (v15 < (0 : Int)))) then (some (Sum.inr (Sum.inr (Sum.inr ([], false))))) else (bif room 1 s1.2.length (([(U8 (IntKind.u8.wrap (IntKind.i64.wrap ((IntKind.i64.wrap ((16 : Int) * v12)) + v15))))] : List UInt8).length) then (some (Sum.inl ((IntKind.i64.wrap (s1.1 + (2 : Int))), (s1.2 ++ [(U8 (IntKind.u8.wrap (IntKind.i64.wrap ((IntKind.i64.wrap ((16 : Int) * v12)) + v15))))])))) else none))) else none)) else none))) else none) (early fun (v5 : Int × (List UInt8)) => (some (Sum.inl ((IntKind.i64.wrap (v5.1 + (1 : Int))), v5.2))))) else (some (Sum.inr (Sum.inl s1.2))))
noncomputable def impl_Unquote (a0 : List UInt8) : Option ((List UInt8) × Bool) :=
  (Option.bind (loopC (impl_Unquote_l1 a0) ((1 : Int), [])) (early fun (v2 : (List UInt8)) => (Option.bind (bif (a0 == ([] : List UInt8)) then (some true) else ((impl_Quote v2).bind fun v25 => (some (!(v25 == a0))))) fun (v23 : Bool) => (bif v23 then (some ([], false)) else (some (v2, true))))))
theorem impl_Unquote_good (a0 : List UInt8) {r : (List UInt8) × Bool} (h : impl_Unquote a0 = some r) : GoodD Tryd.prog 55 [.val false (ES.row false a0)] [(false, ES.row false r.1), (false, EB.row false r.2)] [[]] := by
  have F : True := trivial
  unfold impl_Unquote at h
  refine good_body tabOk 69 [.tmp 2, .tmp 3] Tryd.func55 rfl rfl rfl rfl ?_
  refine k_seq tabOk ?_
  refine k_seq tabOk ?_
  refine tri_seq ?_
  refine k_seq tabOk ?_
  refine tri_block ?_
  obtain ⟨o29, e21, h⟩ := of_bind h
  refine k_loopE (fun (s1 : Int × (List UInt8)) => ⟨[((0, 0), .val false [.str a0]), ((4, 0), .view false (4, 0) [0] 1), ((5, 0), .val false [.int .i64 s1.1])], [⟨(4, 0), true, [.sl true 1 (s1.2 : List UInt8).length (EU.L true s1.2)]⟩], 69, []⟩) 0 (fun (v2 : (List UInt8)) => ⟨[((0, 0), .val false [.str a0]), ((4, 0), .view false (4, 0) [0] 1)], [⟨(4, 0), true, [.sl true 1 (v2 : List UInt8).length (EU.L true v2)]⟩], 69, []⟩) r e21 ?_ ?_ (fun _ e22 => early_r h e22) (fun v2 e22 => ?_)
  · exact i_to [(0, 0), (4, 0), (5, 0)] [(4, 0)]
  · clear h e21
    intro s1 o3 h
    unfold impl_Unquote_l1 at h
    refine tri_seq ?_
    refine k_seq tabOk ?_
    rcases of_bif h with ⟨e4, h⟩ | ⟨e4, h⟩
    · replace F := fct e4 F
      refine k_then ?_
      refine tri_skip ?_
      refine thn_normal ?_
      obtain ⟨o6, e19, h⟩ := of_bind h
      refine k_jnE (fun (v5 : Int × (List UInt8)) => ⟨[((0, 0), .val false [.str a0]), ((4, 0), .view false (4, 0) [0] 1), ((5, 0), .val false [.int .i64 v5.1])], [⟨(4, 0), true, [.sl true 1 (v5.2 : List UInt8).length (EU.L true v5.2)]⟩], 69, []⟩) o3 o6 ?_ (fun _ e20 => early_r h e20) (fun v5 e20 => ?_)
      · clear h
        have h := e19
        refine tri_block ?_
        refine tri_seq ?_
        obtain ⟨e7, h⟩ := of_chk h
        replace F := fct (e7) F
        refine k_seq tabOk ?_
        rcases of_bif h with ⟨e8, h⟩ | ⟨e8, h⟩
        · replace F := fct e8 F
          refine k_then ?_
          obtain ⟨e9, h⟩ := of_chk h
          replace F := fct (room_iff e9) F
          refine k_seq tabOk ?_
          refine tri_exit ?_
          refine thn_exit ?_
          refine inblk_here ?_
          obtain rfl := Option.some.inj h
          exact and_rfl (i_to [(0, 0), (4, 0), (5, 0)] [(4, 0)])
        · replace F := fct e8 F
          refine k_else ?_
          refine tri_skip ?_
          refine thn_normal ?_
          refine tri_seq ?_
          refine k_seq tabOk ?_
          rcases of_bif h with ⟨e10, h⟩ | ⟨e10, h⟩
          · replace F := fct e10 F
            refine k_then ?_
            refine k_seq tabOk ?_
            obtain rfl := Option.some.inj h
            refine tri_ret ?_
            refine q_ret (fun e => ?_)
            subst e
            refine q_ret (fun e => ?_)
            subst e
            exact k_retE
          · replace F := fct e10 F
            refine k_else ?_
            refine tri_skip ?_
            refine thn_normal ?_
            refine k_draw mixed 12 ?_
            refine d_begin [[], [], [1], [1, 2, 0], [0, 2, 1, 3], [], [], [6], [6, 7, 5], [3, 1, 2, 0, 4, 5, 7, 6, 8], [8, 6, 7, 5, 9, 3, 1, 2, 0, 4], [10, 8, 6, 7, 5, 4, 0, 2, 1, 3, 9]] ?_
            intro acc
            replace acc := a_q tabOk 0 [] acc
            replace acc := a_q tabOk 1 [] acc
            replace acc := a_q tabOk 2 [1] acc
            obtain ⟨e11, h⟩ := of_chk h
            replace F := fct (e11) F
            replace acc := a_q tabOk 3 [0, 1, 2] acc
            obtain ⟨v12, e13, h⟩ := of_bind h
            replace acc := a_call tabOk 4 [0, 1, 2, 3] [.val] acc (impl_figure_good _ e13)
            replace acc := a_q tabOk 5 [] acc
            replace acc := a_q tabOk 6 [] acc
            replace acc := a_q tabOk 7 [6] acc
            obtain ⟨e14, h⟩ := of_chk h
            replace F := fct (e14) F
            replace acc := a_q tabOk 8 [5, 6, 7] acc
            obtain ⟨v15, e16, h⟩ := of_bind h
            replace acc := a_call tabOk 9 [0, 1, 2, 3, 4, 5, 6, 7, 8] [.val] acc (impl_figure_good _ e16)
            replace acc := a_asg tabOk 10 [0, 1, 2, 3, 4, 5, 6, 7, 8, 9] acc
            replace acc := a_asg tabOk 11 [0, 1, 2, 3, 4, 5, 6, 7, 8, 9, 10] acc
            refine d_tail [] acc ?_
            clear acc
            refine d_done ?_
            refine tri_seq ?_
            refine k_keep [(0, 0), (4, 0), (5, 0), (6, 0), (7, 0)] [(4, 0)] ?_
            refine k_seq tabOk ?_
            rcases of_bif h with ⟨e17, h⟩ | ⟨e17, h⟩
            · replace F := fct e17 F
              refine k_then ?_
              refine k_seq tabOk ?_
              obtain rfl := Option.some.inj h
              refine tri_ret ?_
              refine q_ret (fun e => ?_)
              subst e
              refine q_ret (fun e => ?_)
              subst e
              exact k_retE
            · replace F := fct e17 F
              refine k_else ?_
              refine tri_skip ?_
              refine thn_normal ?_
              obtain ⟨e18, h⟩ := of_chk h
              replace F := fct (room_iff e18) F
              refine k_seq tabOk ?_
              refine k_one tabOk ?_
              refine inblk_normal ?_
              obtain rfl := Option.some.inj h
              exact and_rfl (i_to [(0, 0), (4, 0), (5, 0)] [(4, 0)])
      · replace h := early_l h e20
        refine k_one tabOk ?_
        obtain rfl := Option.some.inj h
        exact and_rfl (i_to [(0, 0), (4, 0), (5, 0)] [(4, 0)])
    · replace F := fct e4 F
      refine k_else ?_
      refine tri_exit ?_
      refine thn_exit ?_
      obtain rfl := Option.some.inj h
      exact and_rfl (i_to [(0, 0), (4, 0)] [(4, 0)])
  · replace h := early_l h e22
    refine inblk_here ?_
    refine thn_normal ?_
    refine tri_seq ?_
    obtain ⟨v23, e28, h⟩ := of_bind h
    refine r_join (n := 9) (fun (v23 : Bool) => ⟨[((4, 0), .view false (4, 0) [0] 1), ((66, 0), .val false [.bool v23])], [⟨(4, 0), true, [.sl true 1 (v2 : List UInt8).length (EU.L true v2)]⟩], 69, []⟩) v23 ?_ ?_
    · clear h
      have h := e28
      refine r_ops tabOk 4 5 ?_
      rcases of_bif h with ⟨e24, h⟩ | ⟨e24, h⟩
      · replace F := fct e24 F
        refine r_skip 4 1 ?_
        refine r_ops tabOk 1 0 ?_
        refine run_end ?_
        obtain rfl := Option.some.inj h
        exact i_to [(4, 0), (66, 0)] [(4, 0)]
      · replace F := fct e24 F
        refine r_strip [61] ?_
        refine r_ops tabOk 1 4 ?_
        obtain ⟨v25, e26, h⟩ := of_bind h
        refine r_call tabOk 3 [.val] (impl_Quote_good _ e26) ?_
        refine r_ops tabOk 3 0 ?_
        refine run_end ?_
        obtain rfl := Option.some.inj h
        exact i_to [(4, 0), (66, 0)] [(4, 0)]
    · rcases of_bif h with ⟨e27, h⟩ | ⟨e27, h⟩
      · replace F := fct e27 F
        refine k_then ?_
        refine k_seq tabOk ?_
        obtain rfl := Option.some.inj h
        refine tri_ret ?_
        exact k_retE
      · replace F := fct e27 F
        refine k_else ?_
        refine tri_skip ?_
        refine thn_normal ?_
        refine k_seq tabOk ?_
        obtain rfl := Option.some.inj h
        refine tri_ret ?_
        exact k_retE

noncomputable def impl_quoted (a0 : List UInt8) : Option ((List UInt8)) :=
  ((impl_Unquote a0).bind fun v1 => (some v1.1))
theorem impl_quoted_good (a0 : List UInt8) {r : (List UInt8)} (h : impl_quoted a0 = some r) : GoodD Tryd.prog 42 [.val false (ES.row false a0)] [(false, ES.row false r)] [[]] := by
  have F : True := trivial
  unfold impl_quoted at h
  refine good_body tabOk 11 [.tmp 2] Tryd.func42 rfl rfl rfl rfl ?_
  refine k_seq tabOk ?_
  refine k_runs 7 ?_
  refine r_ops tabOk 1 6 ?_
  obtain ⟨v1, e2, h⟩ := of_bind h
  refine r_call tabOk 5 [.val] (impl_Unquote_good _ e2) ?_
  refine r_mov ?_
  refine r_ops tabOk 4 0 ?_
  refine run_end ?_
  refine k_seq tabOk ?_
  obtain rfl := Option.some.inj h
  refine tri_ret ?_
  exact k_retE

noncomputable def impl_textCall (a0 : List (List UInt8)) : Option (S_impl_Call) :=
  (Option.bind (bif ((a0.length : Int) == (1 : Int)) then ((at? a0 (0 : Int)).bind fun x3 => (some (x3 == ([98, 101, 103, 105, 110] : List UInt8)))) else (some false)) fun (v1 : Bool) => (bif v1 then (some (S_impl_Call.mk (1 : Int) (S_impl_Ask.mk (0 : Int) [] [] (S_impl_Range.mk [] []) (0 : Int) false))) else (Option.bind (bif ((a0.length : Int) == (1 : Int)) then ((at? a0 (0 : Int)).bind fun x8 => (some (x8 == ([99, 111, 109, 109, 105, 116] : List UInt8)))) else (some false)) fun (v6 : Bool) => (bif v6 then (some (S_impl_Call.mk (3 : Int) (S_impl_Ask.mk (0 : Int) [] [] (S_impl_Range.mk [] []) (0 : Int) false))) else (Option.bind (bif ((a0.length : Int) == (1 : Int)) then ((at? a0 (0 : Int)).bind fun x13 => (some (x13 == ([97, 98, 111, 114, 116] : List UInt8)))) else (some false)) fun (v11 : Bool) => (bif v11 then (some (S_impl_Call.mk (4 : Int) (S_impl_Ask.mk (0 : Int) [] [] (S_impl_Range.mk [] []) (0 : Int) false))) else (Option.bind (bif ((a0.length : Int) == (2 : Int)) then ((at? a0 (0 : Int)).bind fun x18 => (some (x18 == ([103, 101, 116] : List UInt8)))) else (some false)) fun (v16 : Bool) => (bif v16 then ((at? a0 (1 : Int)).bind fun x21 => ((impl_quoted x21).bind fun v23 => (some (S_impl_Call.mk (2 : Int) (S_impl_Ask.mk (1 : Int) v23 [] (S_impl_Range.mk [] []) (0 : Int) false))))) else (Option.bind (bif ((a0.length : Int) == (2 : Int)) then ((at? a0 (0 : Int)).bind fun x27 => (some (x27 == ([100, 101, 108] : List UInt8)))) else (some false)) fun (v25 : Bool) => (bif v25 then ((at? a0 (1 : Int)).bind fun x30 => ((impl_quoted x30).bind fun v32 => (some (S_impl_Call.mk (2 : Int) (S_impl_Ask.mk (3 : Int) v32 [] (S_impl_Range.mk [] []) (0 : Int) false))))) else (Option.bind (bif ((a0.length : Int) == (3 : Int)) then ((at? a0 (0 : Int)).bind fun x36 => (some (x36 == ([112, 117, 116] : List UInt8)))) else (some false)) fun (v34 : Bool) => (bif v34 then ((at? a0 (1 : Int)).bind fun x39 => ((impl_quoted x39).bind fun v41 => ((at? a0 (2 : Int)).bind fun x43 => ((impl_quoted x43).bind fun v45 => (some (S_impl_Call.mk (2 : Int) (S_impl_Ask.mk (2 : Int) v41 v45 (S_impl_Range.mk [] []) (0 : Int) false))))))) else (Option.bind (bif ((a0.length : Int) == (4 : Int)) then ((at? a0 (0 : Int)).bind fun x49 => (bif (x49 == ([115, 99, 97, 110] : List UInt8)) then (some true) else (some (x49 == ([98, 97, 99, 107] : List UInt8))))) else (some false)) fun (v47 : Bool) => (bif v47 then ((at? a0 (1 : Int)).bind fun x53 => ((impl_quoted x53).bind fun v55 => ((at? a0 (2 : Int)).bind fun x57 => ((impl_quoted x57).bind fun v59 => ((at? a0 (0 : Int)).bind fun x61 => ((at? a0 (3 : Int)).bind fun x63 => ((impl_TextNum x63).bind fun v65 => (some (S_impl_Call.mk (2 : Int) (S_impl_Ask.mk (4 : Int) [] [] (S_impl_Range.mk v55 v59) v65.1 (x61 == ([98, 97, 99, 107] : List UInt8)))))))))))) else (some (S_impl_Call.mk (0 : Int) (S_impl_Ask.mk (0 : Int) [] [] (S_impl_Range.mk [] []) (0 : Int) false)))))))))))))))))
theorem impl_textCall_good (a0 : List (List UInt8)) {r : S_impl_Call} (h : impl_textCall a0 = some r) : GoodD Tryd.prog 23 [.val false ((EL ES 1).row false a0)] [(true, E_impl_Call.row false r)] [[]] := by
  have F : True := trivial
  unfold impl_textCall at h
  refine good_body tabOk 130 [.cell 2 28] Tryd.func23 rfl rfl rfl rfl ?_
  refine k_seq tabOk ?_
  refine tri_seq ?_
  refine tri_block ?_
  obtain ⟨v1, e73, h⟩ := of_bind h
  refine r_join (n := 10) (fun (v1 : Bool) => ⟨[((0, 0), .val false [.sl false 1 (a0 : List (List UInt8)).length (ES.L false a0)]), ((2, 0), .adr (2, 0) [0]), ((4, 0), .val false [.bool v1])], [⟨(2, 0), false, [.int .i64 (0 : Int), .int .i64 (0 : Int), .str [], .str [], .str [], .str [], .int .i64 (0 : Int), .bool false]⟩], 130, []⟩) v1 ?_ ?_
  · clear h
    have h := e73
    refine r_ops tabOk 5 5 ?_
    rcases of_bif h with ⟨e2, h⟩ | ⟨e2, h⟩
    · replace F := fct e2 F
      obtain ⟨x3, e4, h⟩ := of_bind h
      replace F := fct (at_range e4) F
      replace F := fct (at_fs ES false 1 [] 1 e4) F
      refine r_ops tabOk 5 0 ?_
      refine run_end ?_
      obtain rfl := Option.some.inj h
      exact i_to [(0, 0), (2, 0), (4, 0)] [(2, 0)]
    · replace F := fct e2 F
      refine r_skip 3 2 ?_
      refine r_ops tabOk 2 0 ?_
      refine run_end ?_
      obtain rfl := Option.some.inj h
      exact i_to [(0, 0), (2, 0), (4, 0)] [(2, 0)]
  · rcases of_bif h with ⟨e5, h⟩ | ⟨e5, h⟩
    · replace F := fct e5 F
      refine k_then ?_
      refine k_seq tabOk ?_
      obtain rfl := Option.some.inj h
      refine tri_ret ?_
      exact k_retE
    · replace F := fct e5 F
      refine k_else ?_
      obtain ⟨v6, e72, h⟩ := of_bind h
      refine r_join (n := 10) (fun (v6 : Bool) => ⟨[((0, 0), .val false [.sl false 1 (a0 : List (List UInt8)).length (ES.L false a0)]), ((2, 0), .adr (2, 0) [0]), ((15, 0), .val false [.bool v6])], [⟨(2, 0), false, [.int .i64 (0 : Int), .int .i64 (0 : Int), .str [], .str [], .str [], .str [], .int .i64 (0 : Int), .bool false]⟩], 130, []⟩) v6 ?_ ?_
      · clear h
        have h := e72
        refine r_ops tabOk 5 5 ?_
        rcases of_bif h with ⟨e7, h⟩ | ⟨e7, h⟩
        · replace F := fct e7 F
          obtain ⟨x8, e9, h⟩ := of_bind h
          replace F := fct (at_range e9) F
          replace F := fct (at_fs ES false 1 [] 1 e9) F
          refine r_ops tabOk 5 0 ?_
          refine run_end ?_
          obtain rfl := Option.some.inj h
          exact i_to [(0, 0), (2, 0), (15, 0)] [(2, 0)]
        · replace F := fct e7 F
          refine r_skip 3 2 ?_
          refine r_ops tabOk 2 0 ?_
          refine run_end ?_
          obtain rfl := Option.some.inj h
          exact i_to [(0, 0), (2, 0), (15, 0)] [(2, 0)]
      · rcases of_bif h with ⟨e10, h⟩ | ⟨e10, h⟩
        · replace F := fct e10 F
          refine k_then ?_
          refine k_seq tabOk ?_
          obtain rfl := Option.some.inj h
          refine tri_ret ?_
          exact k_retE
        · replace F := fct e10 F
          refine k_else ?_
          obtain ⟨v11, e71, h⟩ := of_bind h
          refine r_join (n := 10) (fun (v11 : Bool) => ⟨[((0, 0), .val false [.sl false 1 (a0 : List (List UInt8)).length (ES.L false a0)]), ((2, 0), .adr (2, 0) [0]), ((26, 0), .val false [.bool v11])], [⟨(2, 0), false, [.int .i64 (0 : Int), .int .i64 (0 : Int), .str [], .str [], .str [], .str [], .int .i64 (0 : Int), .bool false]⟩], 130, []⟩) v11 ?_ ?_
          · clear h
            have h := e71
            refine r_ops tabOk 5 5 ?_
            rcases of_bif h with ⟨e12, h⟩ | ⟨e12, h⟩
            · replace F := fct e12 F
              obtain ⟨x13, e14, h⟩ := of_bind h
              replace F := fct (at_range e14) F
              replace F := fct (at_fs ES false 1 [] 1 e14) F
              refine r_ops tabOk 5 0 ?_
              refine run_end ?_
              obtain rfl := Option.some.inj h
              exact i_to [(0, 0), (2, 0), (26, 0)] [(2, 0)]
            · replace F := fct e12 F
              refine r_skip 3 2 ?_
              refine r_ops tabOk 2 0 ?_
              refine run_end ?_
              obtain rfl := Option.some.inj h
              exact i_to [(0, 0), (2, 0), (26, 0)] [(2, 0)]
          · rcases of_bif h with ⟨e15, h⟩ | ⟨e15, h⟩
            · replace F := fct e15 F
              refine k_then ?_
              refine k_seq tabOk ?_
              obtain rfl := Option.some.inj h
              refine tri_ret ?_
              exact k_retE
            · replace F := fct e15 F
              refine k_else ?_
              obtain ⟨v16, e70, h⟩ := of_bind h
              refine r_join (n := 10) (fun (v16 : Bool) => ⟨[((0, 0), .val false [.sl false 1 (a0 : List (List UInt8)).length (ES.L false a0)]), ((2, 0), .adr (2, 0) [0]), ((37, 0), .val false [.bool v16])], [⟨(2, 0), false, [.int .i64 (0 : Int), .int .i64 (0 : Int), .str [], .str [], .str [], .str [], .int .i64 (0 : Int), .bool false]⟩], 130, []⟩) v16 ?_ ?_
              · clear h
                have h := e70
                refine r_ops tabOk 5 5 ?_
                rcases of_bif h with ⟨e17, h⟩ | ⟨e17, h⟩
                · replace F := fct e17 F
                  obtain ⟨x18, e19, h⟩ := of_bind h
                  replace F := fct (at_range e19) F
                  replace F := fct (at_fs ES false 1 [] 1 e19) F
                  refine r_ops tabOk 5 0 ?_
                  refine run_end ?_
                  obtain rfl := Option.some.inj h
                  exact i_to [(0, 0), (2, 0), (37, 0)] [(2, 0)]
                · replace F := fct e17 F
                  refine r_skip 3 2 ?_
                  refine r_ops tabOk 2 0 ?_
                  refine run_end ?_
                  obtain rfl := Option.some.inj h
                  exact i_to [(0, 0), (2, 0), (37, 0)] [(2, 0)]
              · rcases of_bif h with ⟨e20, h⟩ | ⟨e20, h⟩
                · replace F := fct e20 F
                  refine k_then ?_
                  refine k_runs 7 ?_
                  obtain ⟨x21, e22, h⟩ := of_bind h
                  replace F := fct (at_range e22) F
                  replace F := fct (at_fs ES false 1 [] 1 e22) F
                  refine r_ops tabOk 3 4 ?_
                  obtain ⟨v23, e24, h⟩ := of_bind h
                  refine r_call tabOk 3 [.val] (impl_quoted_good _ e24) ?_
                  refine r_ops tabOk 3 0 ?_
                  refine run_end ?_
                  obtain rfl := Option.some.inj h
                  refine tri_ret ?_
                  exact k_retE
                · replace F := fct e20 F
                  refine k_else ?_
                  obtain ⟨v25, e69, h⟩ := of_bind h
                  refine r_join (n := 10) (fun (v25 : Bool) => ⟨[((0, 0), .val false [.sl false 1 (a0 : List (List UInt8)).length (ES.L false a0)]), ((2, 0), .adr (2, 0) [0]), ((53, 0), .val false [.bool v25])], [⟨(2, 0), false, [.int .i64 (0 : Int), .int .i64 (0 : Int), .str [], .str [], .str [], .str [], .int .i64 (0 : Int), .bool false]⟩], 130, []⟩) v25 ?_ ?_
                  · clear h
                    have h := e69
                    refine r_ops tabOk 5 5 ?_
                    rcases of_bif h with ⟨e26, h⟩ | ⟨e26, h⟩
                    · replace F := fct e26 F
                      obtain ⟨x27, e28, h⟩ := of_bind h
                      replace F := fct (at_range e28) F
                      replace F := fct (at_fs ES false 1 [] 1 e28) F
                      refine r_ops tabOk 5 0 ?_
                      refine run_end ?_
                      obtain rfl := Option.some.inj h
                      exact i_to [(0, 0), (2, 0), (53, 0)] [(2, 0)]
                    · replace F := fct e26 F
                      refine r_skip 3 2 ?_
                      refine r_ops tabOk 2 0 ?_
                      refine run_end ?_
                      obtain rfl := Option.some.inj h
                      exact i_to [(0, 0), (2, 0), (53, 0)] [(2, 0)]
                  · rcases of_bif h with ⟨e29, h⟩ | ⟨e29, h⟩
                    · replace F := fct e29 F
                      refine k_then ?_
                      refine k_runs 7 ?_
                      obtain ⟨x30, e31, h⟩ := of_bind h
                      replace F := fct (at_range e31) F
                      replace F := fct (at_fs ES false 1 [] 1 e31) F
                      refine r_ops tabOk 3 4 ?_
                      obtain ⟨v32, e33, h⟩ := of_bind h
                      refine r_call tabOk 3 [.val] (impl_quoted_good _ e33) ?_
                      refine r_ops tabOk 3 0 ?_
                      refine run_end ?_
                      obtain rfl := Option.some.inj h
                      refine tri_ret ?_
                      exact k_retE
                    · replace F := fct e29 F
                      refine k_else ?_
                      obtain ⟨v34, e68, h⟩ := of_bind h
                      refine r_join (n := 10) (fun (v34 : Bool) => ⟨[((0, 0), .val false [.sl false 1 (a0 : List (List UInt8)).length (ES.L false a0)]), ((2, 0), .adr (2, 0) [0]), ((69, 0), .val false [.bool v34])], [⟨(2, 0), false, [.int .i64 (0 : Int), .int .i64 (0 : Int), .str [], .str [], .str [], .str [], .int .i64 (0 : Int), .bool false]⟩], 130, []⟩) v34 ?_ ?_
                      · clear h
                        have h := e68
                        refine r_ops tabOk 5 5 ?_
                        rcases of_bif h with ⟨e35, h⟩ | ⟨e35, h⟩
                        · replace F := fct e35 F
                          obtain ⟨x36, e37, h⟩ := of_bind h
                          replace F := fct (at_range e37) F
                          replace F := fct (at_fs ES false 1 [] 1 e37) F
                          refine r_ops tabOk 5 0 ?_
                          refine run_end ?_
                          obtain rfl := Option.some.inj h
                          exact i_to [(0, 0), (2, 0), (69, 0)] [(2, 0)]
                        · replace F := fct e35 F
                          refine r_skip 3 2 ?_
                          refine r_ops tabOk 2 0 ?_
                          refine run_end ?_
                          obtain rfl := Option.some.inj h
                          exact i_to [(0, 0), (2, 0), (69, 0)] [(2, 0)]
                      · rcases of_bif h with ⟨e38, h⟩ | ⟨e38, h⟩
                        · replace F := fct e38 F
                          refine k_then ?_
                          refine k_draw mixed 11 ?_
                          refine d_begin [[], [0], [0, 1], [1, 0, 2], [], [4], [4, 5], [2, 0, 1, 3, 5, 4, 6], [6, 4, 5, 7, 2, 0, 1, 3], [3, 1, 0, 2, 7, 5, 4, 6, 8], [8, 6, 4, 5, 7, 2, 0, 1, 3, 9]] ?_
                          intro acc
                          replace acc := a_q tabOk 0 [] acc
                          obtain ⟨x39, e40, h⟩ := of_bind h
                          replace F := fct (at_range e40) F
                          replace acc := a_q tabOk 1 [0] acc
                          replace F := fct (at_fs ES false 1 [] 1 e40) F
                          replace acc := a_q tabOk 2 [0, 1] acc
                          obtain ⟨v41, e42, h⟩ := of_bind h
                          replace acc := a_call tabOk 3 [0, 1, 2] [.val] acc (impl_quoted_good _ e42)
                          replace acc := a_q tabOk 4 [] acc
                          obtain ⟨x43, e44, h⟩ := of_bind h
                          replace F := fct (at_range e44) F
                          replace acc := a_q tabOk 5 [4] acc
                          replace F := fct (at_fs ES false 1 [] 1 e44) F
                          replace acc := a_q tabOk 6 [4, 5] acc
                          obtain ⟨v45, e46, h⟩ := of_bind h
                          replace acc := a_call tabOk 7 [0, 1, 2, 3, 4, 5, 6] [.val] acc (impl_quoted_good _ e46)
                          replace acc := a_build tabOk 8 [0, 1, 2, 3, 4, 5, 6, 7] acc
                          replace acc := a_build tabOk 9 [0, 1, 2, 3, 4, 5, 6, 7, 8] acc
                          refine d_tail [] acc ?_
                          clear acc
                          refine d_one tabOk 10 ?_
                          refine d_done ?_
                          obtain rfl := Option.some.inj h
                          refine tri_ret ?_
                          exact k_retE
                        · replace F := fct e38 F
                          refine k_else ?_
                          obtain ⟨v47, e67, h⟩ := of_bind h
                          refine r_join (n := 16) (fun (v47 : Bool) => ⟨[((0, 0), .val false [.sl false 1 (a0 : List (List UInt8)).length (ES.L false a0)]), ((2, 0), .adr (2, 0) [0]), ((89, 0), .val false [.bool v47])], [⟨(2, 0), false, [.int .i64 (0 : Int), .int .i64 (0 : Int), .str [], .str [], .str [], .str [], .int .i64 (0 : Int), .bool false]⟩], 130, []⟩) v47 ?_ ?_
                          · clear h
                            have h := e67
                            refine r_ops tabOk 5 11 ?_
                            rcases of_bif h with ⟨e48, h⟩ | ⟨e48, h⟩
                            · replace F := fct e48 F
                              obtain ⟨x49, e50, h⟩ := of_bind h
                              replace F := fct (at_range e50) F
                              replace F := fct (at_fs ES false 1 [] 1 e50) F
                              refine r_ops tabOk 5 6 ?_
                              rcases of_bif h with ⟨e51, h⟩ | ⟨e51, h⟩
                              · replace F := fct e51 F
                                refine r_skip 3 3 ?_
                                refine r_ops tabOk 3 0 ?_
                                refine run_end ?_
                                obtain rfl := Option.some.inj h
                                exact i_to [(0, 0), (2, 0), (89, 0)] [(2, 0)]
                              · replace F := fct e51 F
                                refine r_ops tabOk 6 0 ?_
                                refine run_end ?_
                                obtain rfl := Option.some.inj h
                                exact i_to [(0, 0), (2, 0), (89, 0)] [(2, 0)]
                            · replace F := fct e48 F
                              refine r_skip 9 2 ?_
                              refine r_ops tabOk 2 0 ?_
                              refine run_end ?_
                              obtain rfl := Option.some.inj h
                              exact i_to [(0, 0), (2, 0), (89, 0)] [(2, 0)]
                          · rcases of_bif h with ⟨e52, h⟩ | ⟨e52, h⟩
                            · replace F := fct e52 F
                              refine k_then ?_
                              refine k_draw mixed 16 ?_
                              refine d_begin [[], [0], [0, 1], [1, 0, 2], [], [4], [4, 5], [2, 0, 1, 3, 5, 4, 6], [6, 4, 5, 7, 2, 0, 1, 3], [], [9], [9, 10], [10, 9, 11], [11, 9, 10, 12, 3, 1, 0, 2, 7, 5, 4, 6, 8], [], [8, 6, 4, 5, 7, 2, 0, 1, 3, 12, 10, 9, 11, 13, 14]] ?_
                              intro acc
                              replace acc := a_q tabOk 0 [] acc
                              obtain ⟨x53, e54, h⟩ := of_bind h
                              replace F := fct (at_range e54) F
                              replace acc := a_q tabOk 1 [0] acc
                              replace F := fct (at_fs ES false 1 [] 1 e54) F
                              replace acc := a_q tabOk 2 [0, 1] acc
                              obtain ⟨v55, e56, h⟩ := of_bind h
                              replace acc := a_call tabOk 3 [0, 1, 2] [.val] acc (impl_quoted_good _ e56)
                              replace acc := a_q tabOk 4 [] acc
                              obtain ⟨x57, e58, h⟩ := of_bind h
                              replace F := fct (at_range e58) F
                              replace acc := a_q tabOk 5 [4] acc
                              replace F := fct (at_fs ES false 1 [] 1 e58) F
                              replace acc := a_q tabOk 6 [4, 5] acc
                              obtain ⟨v59, e60, h⟩ := of_bind h
                              replace acc := a_call tabOk 7 [0, 1, 2, 3, 4, 5, 6] [.val] acc (impl_quoted_good _ e60)
                              replace acc := a_build tabOk 8 [0, 1, 2, 3, 4, 5, 6, 7] acc
                              replace acc := a_q tabOk 9 [] acc
                              obtain ⟨x61, e62, h⟩ := of_bind h
                              replace F := fct (at_range e62) F
                              replace acc := a_q tabOk 10 [9] acc
                              replace F := fct (at_fs ES false 1 [] 1 e62) F
                              replace acc := a_q tabOk 11 [9, 10] acc
                              replace acc := a_q tabOk 12 [9, 10, 11] acc
                              replace acc := a_build tabOk 13 [0, 1, 2, 3, 4, 5, 6, 7, 8, 9, 10, 11, 12] acc
                              replace acc := a_alloc tabOk 14 [] acc
                              refine d_tail [] acc ?_
                              clear acc
                              refine d_one tabOk 15 ?_
                              refine d_done ?_
                              refine k_runs 9 ?_
                              obtain ⟨x63, e64, h⟩ := of_bind h
                              replace F := fct (at_range e64) F
                              replace F := fct (at_fs ES false 1 [] 1 e64) F
                              refine r_ops tabOk 3 6 ?_
                              obtain ⟨v65, e66, h⟩ := of_bind h
                              refine r_call tabOk 5 [.val] (impl_TextNum_good _ e66) ?_
                              refine r_mov ?_
                              refine r_ops tabOk 4 0 ?_
                              refine run_end ?_
                              refine k_keep [(2, 0), (3, 0)] [(2, 0), (3, 0)] ?_
                              refine k_seq tabOk ?_
                              obtain rfl := Option.some.inj h
                              refine tri_ret ?_
                              exact k_retE
                            · replace F := fct e52 F
                              refine k_else ?_
                              refine tri_skip ?_
                              refine inblk_normal ?_
                              refine thn_normal ?_
                              refine k_seq tabOk ?_
                              obtain rfl := Option.some.inj h
                              refine tri_ret ?_
                              exact k_retE

noncomputable def impl_UserOk (a0 : List UInt8) : Option (Bool) :=
  ((impl_within (a0.length : Int) (1 : Int) (8 : Int)).bind fun v1 => (some v1))
theorem impl_UserOk_good (a0 : List UInt8) {r : Bool} (h : impl_UserOk a0 = some r) : GoodD Tryd.prog 71 [.val false (ES.row false a0)] [(false, EB.row false r)] [[]] := by
  have F : True := trivial
  unfold impl_UserOk at h
  refine good_body tabOk 6 [.tmp 2] Tryd.func71 rfl rfl rfl rfl ?_
  refine k_seq tabOk ?_
  refine k_runs 4 ?_
  refine r_ops tabOk 2 2 ?_
  obtain ⟨v1, e2, h⟩ := of_bind h
  refine r_call tabOk 1 [.val, .val, .val] (impl_within_good _ _ _ e2) ?_
  refine r_ops tabOk 1 0 ?_
  refine run_end ?_
  obtain rfl := Option.some.inj h
  refine tri_ret ?_
  exact k_retE

noncomputable def impl_UvalOk (a0 : List UInt8) : Option (Bool) :=
  (some (decide ((a0.length : Int) ≤ (20 : Int))))
theorem impl_UvalOk_good (a0 : List UInt8) {r : Bool} (h : impl_UvalOk a0 = some r) : GoodD Tryd.prog 72 [.val false (ES.row false a0)] [(false, EB.row false r)] [[]] := by
  have F : True := trivial
  unfold impl_UvalOk at h
  refine good_body tabOk 6 [.tmp 2] Tryd.func72 rfl rfl rfl rfl ?_
  refine k_seq tabOk ?_
  refine k_seq tabOk ?_
  obtain rfl := Option.some.inj h
  refine tri_ret ?_
  exact k_retE

noncomputable def impl_RangeOk (a0 : S_impl_Range) : Option (Bool) :=
  (some (((decide ((a0.f_Lo.length : Int) ≤ (17 : Int))) && (decide ((a0.f_Hi.length : Int) ≤ (17 : Int)))) && ((a0.f_Hi == ([] : List UInt8)) || (!(Op.bytesLess a0.f_Hi a0.f_Lo || a0.f_Hi == a0.f_Lo)))))
theorem impl_RangeOk_good (a0 : S_impl_Range) {r : Bool} (h : impl_RangeOk a0 = some r) : GoodD Tryd.prog 84 [.val true (E_impl_Range.row false a0)] [(false, EB.row false r)] [[]] := by
  have F : True := trivial
  unfold impl_RangeOk at h
  refine good_body tabOk 25 [.tmp 2] Tryd.func84 rfl rfl rfl rfl ?_
  refine k_seq tabOk ?_
  refine k_seq tabOk ?_
  obtain rfl := Option.some.inj h
  refine tri_ret ?_
  exact k_retE

noncomputable def impl_ReachOk (a0 : S_impl_Range) : Option (Bool) :=
  ((impl_RangeOk a0).bind fun v1 => (some ((v1 && (decide ((a0.f_Lo.length : Int) ≤ (9 : Int)))) && (decide ((a0.f_Hi.length : Int) ≤ (9 : Int))))))
theorem impl_ReachOk_good (a0 : S_impl_Range) {r : Bool} (h : impl_ReachOk a0 = some r) : GoodD Tryd.prog 73 [.val true (E_impl_Range.row false a0)] [(false, EB.row false r)] [[]] := by
  have F : True := trivial
  unfold impl_ReachOk at h
  refine good_body tabOk 17 [.tmp 2] Tryd.func73 rfl rfl rfl rfl ?_
  refine k_seq tabOk ?_
  refine k_runs 15 ?_
  refine r_ops tabOk 1 14 ?_
  obtain ⟨v1, e2, h⟩ := of_bind h
  refine r_call tabOk 13 [.val] (impl_RangeOk_good _ e2) ?_
  refine r_ops tabOk 13 0 ?_
  refine run_end ?_
  obtain rfl := Option.some.inj h
  refine tri_ret ?_
  exact k_retE

noncomputable def impl_AskOk (a0 : S_impl_Ask) : Option (Bool) :=
  (bif (a0.f_Kind == (1 : Int)) then (Option.bind ((impl_UserOk a0.f_Key).bind fun v3 => (bif v3 then (some ((a0.f_Kind == a0.f_Kind) && ((a0.f_Key == a0.f_Key) && ((a0.f_Val == ([] : List UInt8)) && ((a0.f_Range.f_Lo == ([] : List UInt8)) && ((a0.f_Range.f_Hi == ([] : List UInt8)) && ((a0.f_Most == (0 : Int)) && (a0.f_Back == false)))))))) else (some false))) fun (v2 : Bool) => (some v2)) else (bif (a0.f_Kind == (3 : Int)) then (Option.bind ((impl_UserOk a0.f_Key).bind fun v9 => (bif v9 then (some ((a0.f_Kind == a0.f_Kind) && ((a0.f_Key == a0.f_Key) && ((a0.f_Val == ([] : List UInt8)) && ((a0.f_Range.f_Lo == ([] : List UInt8)) && ((a0.f_Range.f_Hi == ([] : List UInt8)) && ((a0.f_Most == (0 : Int)) && (a0.f_Back == false)))))))) else (some false))) fun (v8 : Bool) => (some v8)) else (bif (a0.f_Kind == (2 : Int)) then (Option.bind ((impl_UserOk a0.f_Key).bind fun v15 => (bif v15 then ((impl_UvalOk a0.f_Val).bind fun v18 => (bif v18 then (some ((a0.f_Kind == a0.f_Kind) && ((a0.f_Key == a0.f_Key) && ((a0.f_Val == a0.f_Val) && ((a0.f_Range.f_Lo == ([] : List UInt8)) && ((a0.f_Range.f_Hi == ([] : List UInt8)) && ((a0.f_Most == (0 : Int)) && (a0.f_Back == false)))))))) else (some false))) else (some false))) fun (v14 : Bool) => (some v14)) else (bif (a0.f_Kind == (4 : Int)) then (Option.bind ((impl_ReachOk a0.f_Range).bind fun v24 => (bif v24 then ((impl_within a0.f_Most (1 : Int) (8 : Int)).bind fun v27 => (some ((v27 && (a0.f_Key == ([] : List UInt8))) && (a0.f_Val == ([] : List UInt8))))) else (some false))) fun (v23 : Bool) => (some v23)) else (some false)))))
theorem impl_AskOk_good (a0 : S_impl_Ask) {r : Bool} (h : impl_AskOk a0 = some r) : GoodD Tryd.prog 56 [.val true (E_impl_Ask.row false a0)] [(false, EB.row false r)] [[]] := by
  have F : True := trivial
  unfold impl_AskOk at h
  refine good_body tabOk 61 [.tmp 2] Tryd.func56 rfl rfl rfl rfl ?_
  refine k_seq tabOk ?_
  refine tri_seq ?_
  refine k_seq tabOk ?_
  refine tri_block ?_
  refine tri_seq ?_
  refine k_seq tabOk ?_
  rcases of_bif h with ⟨e1, h⟩ | ⟨e1, h⟩
  · replace F := fct e1 F
    refine k_then ?_
    refine tri_skip ?_
    refine thn_normal ?_
    refine k_then ?_
    obtain ⟨v2, e6, h⟩ := of_bind h
    refine r_join (n := 13) (fun (v2 : Bool) => ⟨[((2, 0), .val false [.bool v2])], [], 61, []⟩) v2 ?_ ?_
    · clear h
      have h := e6
      refine r_ops tabOk 2 11 ?_
      obtain ⟨v3, e4, h⟩ := of_bind h
      refine r_call tabOk 10 [.val] (impl_UserOk_good _ e4) ?_
      refine r_ops tabOk 6 4 ?_
      rcases of_bif h with ⟨e5, h⟩ | ⟨e5, h⟩
      · replace F := fct e5 F
        refine r_strip [14] ?_
        refine r_strip [16] ?_
        refine r_ops tabOk 4 0 ?_
        refine run_end ?_
        obtain rfl := Option.some.inj h
        exact i_to [(2, 0)] []
      · replace F := fct e5 F
        refine r_skip 2 2 ?_
        refine r_ops tabOk 2 0 ?_
        refine run_end ?_
        obtain rfl := Option.some.inj h
        exact i_to [(2, 0)] []
    · obtain rfl := Option.some.inj h
      refine tri_ret ?_
      exact k_retE
  · replace F := fct e1 F
    refine k_else ?_
    refine k_one tabOk ?_
    refine thn_normal ?_
    rcases of_bif h with ⟨e7, h⟩ | ⟨e7, h⟩
    · replace F := fct e7 F
      refine k_then ?_
      obtain ⟨v8, e12, h⟩ := of_bind h
      refine r_join (n := 13) (fun (v8 : Bool) => ⟨[((2, 0), .val false [.bool v8])], [], 61, []⟩) v8 ?_ ?_
      · clear h
        have h := e12
        refine r_ops tabOk 2 11 ?_
        obtain ⟨v9, e10, h⟩ := of_bind h
        refine r_call tabOk 10 [.val] (impl_UserOk_good _ e10) ?_
        refine r_ops tabOk 6 4 ?_
        rcases of_bif h with ⟨e11, h⟩ | ⟨e11, h⟩
        · replace F := fct e11 F
          refine r_strip [14] ?_
          refine r_strip [16] ?_
          refine r_ops tabOk 4 0 ?_
          refine run_end ?_
          obtain rfl := Option.some.inj h
          exact i_to [(2, 0)] []
        · replace F := fct e11 F
          refine r_skip 2 2 ?_
          refine r_ops tabOk 2 0 ?_
          refine run_end ?_
          obtain rfl := Option.some.inj h
          exact i_to [(2, 0)] []
      · obtain rfl := Option.some.inj h
        refine tri_ret ?_
        exact k_retE
    · replace F := fct e7 F
      refine k_else ?_
      refine k_seq tabOk ?_
      rcases of_bif h with ⟨e13, h⟩ | ⟨e13, h⟩
      · replace F := fct e13 F
        refine k_then ?_
        obtain ⟨v14, e21, h⟩ := of_bind h
        refine r_join (n := 20) (fun (v14 : Bool) => ⟨[((2, 0), .val false [.bool v14])], [], 61, []⟩) v14 ?_ ?_
        · clear h
          have h := e21
          refine r_ops tabOk 2 18 ?_
          obtain ⟨v15, e16, h⟩ := of_bind h
          refine r_call tabOk 17 [.val] (impl_UserOk_good _ e16) ?_
          refine r_ops tabOk 3 14 ?_
          rcases of_bif h with ⟨e17, h⟩ | ⟨e17, h⟩
          · replace F := fct e17 F
            obtain ⟨v18, e19, h⟩ := of_bind h
            refine r_call tabOk 13 [.val] (impl_UvalOk_good _ e19) ?_
            refine r_ops tabOk 9 4 ?_
            rcases of_bif h with ⟨e20, h⟩ | ⟨e20, h⟩
            · replace F := fct e20 F
              refine r_strip [33] ?_
              refine r_strip [35] ?_
              refine r_strip [37] ?_
              refine r_ops tabOk 4 0 ?_
              refine run_end ?_
              obtain rfl := Option.some.inj h
              exact i_to [(2, 0)] []
            · replace F := fct e20 F
              refine r_skip 2 2 ?_
              refine r_ops tabOk 2 0 ?_
              refine run_end ?_
              obtain rfl := Option.some.inj h
              exact i_to [(2, 0)] []
          · replace F := fct e17 F
            refine r_skip 1 13 ?_
            refine r_ops tabOk 2 11 ?_
            refine r_skip 9 2 ?_
            refine r_ops tabOk 2 0 ?_
            refine run_end ?_
            obtain rfl := Option.some.inj h
            exact i_to [(2, 0)] []
        · obtain rfl := Option.some.inj h
          refine tri_ret ?_
          exact k_retE
      · replace F := fct e13 F
        refine k_else ?_
        refine k_seq tabOk ?_
        rcases of_bif h with ⟨e22, h⟩ | ⟨e22, h⟩
        · replace F := fct e22 F
          refine k_then ?_
          obtain ⟨v23, e29, h⟩ := of_bind h
          refine r_join (n := 19) (fun (v23 : Bool) => ⟨[((2, 0), .val false [.bool v23])], [], 61, []⟩) v23 ?_ ?_
          · clear h
            have h := e29
            refine r_ops tabOk 2 17 ?_
            obtain ⟨v24, e25, h⟩ := of_bind h
            refine r_call tabOk 16 [.val] (impl_ReachOk_good _ e25) ?_
            refine r_ops tabOk 3 13 ?_
            rcases of_bif h with ⟨e26, h⟩ | ⟨e26, h⟩
            · replace F := fct e26 F
              obtain ⟨v27, e28, h⟩ := of_bind h
              refine r_call tabOk 12 [.val, .val, .val] (impl_within_good _ _ _ e28) ?_
              refine r_ops tabOk 12 0 ?_
              refine run_end ?_
              obtain rfl := Option.some.inj h
              exact i_to [(2, 0)] []
            · replace F := fct e26 F
              refine r_skip 1 12 ?_
              refine r_ops tabOk 2 10 ?_
              refine r_skip 3 7 ?_
              refine r_ops tabOk 2 5 ?_
              refine r_skip 3 2 ?_
              refine r_ops tabOk 2 0 ?_
              refine run_end ?_
              obtain rfl := Option.some.inj h
              exact i_to [(2, 0)] []
          · obtain rfl := Option.some.inj h
            refine tri_ret ?_
            exact k_retE
        · replace F := fct e22 F
          refine k_else ?_
          refine tri_skip ?_
          refine inblk_normal ?_
          refine thn_normal ?_
          refine k_seq tabOk ?_
          obtain rfl := Option.some.inj h
          refine tri_ret ?_
          exact k_retE

noncomputable def impl_CallOk (a0 : S_impl_Call) : Option (Bool) :=
  (bif (a0.f_Kind == (2 : Int)) then ((impl_AskOk a0.f_Ask).bind fun v2 => (some v2)) else (Option.bind ((impl_within a0.f_Kind (1 : Int) (4 : Int)).bind fun v5 => (bif v5 then (some ((a0.f_Ask.f_Kind == (0 : Int)) && ((a0.f_Ask.f_Key == ([] : List UInt8)) && ((a0.f_Ask.f_Val == ([] : List UInt8)) && ((a0.f_Ask.f_Range.f_Lo == ([] : List UInt8)) && ((a0.f_Ask.f_Range.f_Hi == ([] : List UInt8)) && ((a0.f_Ask.f_Most == (0 : Int)) && (a0.f_Ask.f_Back == false)))))))) else (some false))) fun (v4 : Bool) => (some v4)))
theorem impl_CallOk_good (a0 : S_impl_Call) {r : Bool} (h : impl_CallOk a0 = some r) : GoodD Tryd.prog 43 [.val true (E_impl_Call.row false a0)] [(false, EB.row false r)] [[]] := by
  have F : True := trivial
  unfold impl_CallOk at h
  refine good_body tabOk 18 [.tmp 2] Tryd.func43 rfl rfl rfl rfl ?_
  refine k_seq tabOk ?_
  refine tri_seq ?_
  refine k_seq tabOk ?_
  rcases of_bif h with ⟨e1, h⟩ | ⟨e1, h⟩
  · replace F := fct e1 F
    refine k_then ?_
    refine k_runs 4 ?_
    refine r_ops tabOk 2 2 ?_
    obtain ⟨v2, e3, h⟩ := of_bind h
    refine r_call tabOk 1 [.val] (impl_AskOk_good _ e3) ?_
    refine r_ops tabOk 1 0 ?_
    refine run_end ?_
    obtain rfl := Option.some.inj h
    refine tri_ret ?_
    exact k_retE
  · replace F := fct e1 F
    refine k_else ?_
    refine tri_skip ?_
    refine thn_normal ?_
    obtain ⟨v4, e8, h⟩ := of_bind h
    refine r_join (n := 10) (fun (v4 : Bool) => ⟨[((2, 0), .val false [.bool v4])], [], 18, []⟩) v4 ?_ ?_
    · clear h
      have h := e8
      refine r_ops tabOk 2 8 ?_
      obtain ⟨v5, e6, h⟩ := of_bind h
      refine r_call tabOk 7 [.val, .val, .val] (impl_within_good _ _ _ e6) ?_
      refine r_ops tabOk 3 4 ?_
      rcases of_bif h with ⟨e7, h⟩ | ⟨e7, h⟩
      · replace F := fct e7 F
        refine r_ops tabOk 4 0 ?_
        refine run_end ?_
        obtain rfl := Option.some.inj h
        exact i_to [(2, 0)] []
      · replace F := fct e7 F
        refine r_skip 2 2 ?_
        refine r_ops tabOk 2 0 ?_
        refine run_end ?_
        obtain rfl := Option.some.inj h
        exact i_to [(2, 0)] []
    · obtain rfl := Option.some.inj h
      refine tri_ret ?_
      exact k_retE

noncomputable def impl_askWords (a0 : S_impl_Ask) : Option ((List (List UInt8))) :=
  (bif (a0.f_Kind == (1 : Int)) then ((impl_Quote a0.f_Key).bind fun v2 => (some [[103, 101, 116], v2])) else (bif (a0.f_Kind == (2 : Int)) then ((impl_Quote a0.f_Key).bind fun v5 => ((impl_Quote a0.f_Val).bind fun v7 => (some [[112, 117, 116], v5, v7]))) else (bif (a0.f_Kind == (3 : Int)) then ((impl_Quote a0.f_Key).bind fun v10 => (some [[100, 101, 108], v10])) else (bif a0.f_Back then ((impl_Quote a0.f_Range.f_Lo).bind fun v13 => ((impl_Quote a0.f_Range.f_Hi).bind fun v15 => ((impl_NumText a0.f_Most).bind fun v17 => (some [[98, 97, 99, 107], v13, v15, v17])))) else ((impl_Quote a0.f_Range.f_Lo).bind fun v19 => ((impl_Quote a0.f_Range.f_Hi).bind fun v21 => ((impl_NumText a0.f_Most).bind fun v23 => (some [[115, 99, 97, 110], v19, v21, v23]))))))))
theorem impl_askWords_good (a0 : S_impl_Ask) {r : (List (List UInt8))} (h : impl_askWords a0 = some r) : GoodD Tryd.prog 57 [.val true (E_impl_Ask.row false a0)] [(false, (EL ES 1).row true r)] [[]] := by
  have F : True := trivial
  unfold impl_askWords at h
  refine good_body tabOk 42 [.tmp 2] Tryd.func57 rfl rfl rfl rfl ?_
  refine k_seq tabOk ?_
  refine tri_seq ?_
  refine k_seq tabOk ?_
  refine tri_block ?_
  refine k_seq tabOk ?_
  rcases of_bif h with ⟨e1, h⟩ | ⟨e1, h⟩
  · replace F := fct e1 F
    refine k_then ?_
    refine k_runs 5 ?_
    refine r_ops tabOk 2 3 ?_
    obtain ⟨v2, e3, h⟩ := of_bind h
    refine r_call tabOk 2 [.val] (impl_Quote_good _ e3) ?_
    refine r_ops tabOk 2 0 ?_
    refine run_end ?_
    obtain rfl := Option.some.inj h
    refine tri_ret ?_
    exact k_retE
  · replace F := fct e1 F
    refine k_else ?_
    refine k_seq tabOk ?_
    rcases of_bif h with ⟨e4, h⟩ | ⟨e4, h⟩
    · replace F := fct e4 F
      refine k_then ?_
      refine k_draw mixed 8 ?_
      refine d_begin [[], [0], [0, 1], [], [3], [1, 0, 2, 3, 4], [4, 3, 5, 1, 0, 2], [2, 0, 1, 5, 3, 4, 6]] ?_
      intro acc
      replace acc := a_q tabOk 0 [] acc
      replace acc := a_q tabOk 1 [0] acc
      obtain ⟨v5, e6, h⟩ := of_bind h
      replace acc := a_call tabOk 2 [0, 1] [.val] acc (impl_Quote_good _ e6)
      replace acc := a_q tabOk 3 [] acc
      replace acc := a_q tabOk 4 [3] acc
      obtain ⟨v7, e8, h⟩ := of_bind h
      replace acc := a_call tabOk 5 [0, 1, 2, 3, 4] [.val] acc (impl_Quote_good _ e8)
      replace acc := a_bslice tabOk 6 [0, 1, 2, 3, 4, 5] acc
      refine d_tail [] acc ?_
      clear acc
      refine d_one tabOk 7 ?_
      refine d_done ?_
      obtain rfl := Option.some.inj h
      refine tri_ret ?_
      exact k_retE
    · replace F := fct e4 F
      refine k_else ?_
      refine k_seq tabOk ?_
      rcases of_bif h with ⟨e9, h⟩ | ⟨e9, h⟩
      · replace F := fct e9 F
        refine k_then ?_
        refine k_runs 5 ?_
        refine r_ops tabOk 2 3 ?_
        obtain ⟨v10, e11, h⟩ := of_bind h
        refine r_call tabOk 2 [.val] (impl_Quote_good _ e11) ?_
        refine r_ops tabOk 2 0 ?_
        refine run_end ?_
        obtain rfl := Option.some.inj h
        refine tri_ret ?_
        exact k_retE
      · replace F := fct e9 F
        refine k_else ?_
        refine tri_skip ?_
        refine inblk_normal ?_
        refine thn_normal ?_
        refine k_seq tabOk ?_
        refine tri_seq ?_
        refine k_seq tabOk ?_
        rcases of_bif h with ⟨e12, h⟩ | ⟨e12, h⟩
        · replace F := fct e12 F
          refine k_then ?_
          refine k_one tabOk ?_
          refine thn_normal ?_
          refine k_draw mixed 14 ?_
          refine d_begin [[], [], [1], [1, 2], [2, 1, 3], [], [5], [5, 6], [3, 1, 2, 4, 6, 5, 7], [], [9], [7, 5, 6, 4, 2, 1, 3, 8, 9, 10], [10, 9, 11, 7, 5, 6, 8, 3, 1, 2, 4, 0], [0, 4, 2, 1, 3, 8, 6, 5, 7, 11, 9, 10, 12]] ?_
          intro acc
          replace acc := a_q tabOk 0 [] acc
          replace acc := a_q tabOk 1 [] acc
          replace acc := a_q tabOk 2 [1] acc
          replace acc := a_q tabOk 3 [1, 2] acc
          obtain ⟨v13, e14, h⟩ := of_bind h
          replace acc := a_call tabOk 4 [1, 2, 3] [.val] acc (impl_Quote_good _ e14)
          replace acc := a_q tabOk 5 [] acc
          replace acc := a_q tabOk 6 [5] acc
          replace acc := a_q tabOk 7 [5, 6] acc
          obtain ⟨v15, e16, h⟩ := of_bind h
          replace acc := a_call tabOk 8 [1, 2, 3, 4, 5, 6, 7] [.val] acc (impl_Quote_good _ e16)
          replace acc := a_q tabOk 9 [] acc
          replace acc := a_q tabOk 10 [9] acc
          obtain ⟨v17, e18, h⟩ := of_bind h
          replace acc := a_call tabOk 11 [1, 2, 3, 4, 5, 6, 7, 8, 9, 10] [.val] acc (impl_NumText_good _ e18)
          replace acc := a_bslice tabOk 12 [0, 1, 2, 3, 4, 5, 6, 7, 8, 9, 10, 11] acc
          refine d_tail [] acc ?_
          clear acc
          refine d_one tabOk 13 ?_
          refine d_done ?_
          obtain rfl := Option.some.inj h
          refine tri_ret ?_
          exact k_retE
        · replace F := fct e12 F
          refine k_else ?_
          refine tri_skip ?_
          refine thn_normal ?_
          refine k_draw mixed 14 ?_
          refine d_begin [[], [], [1], [1, 2], [2, 1, 3], [], [5], [5, 6], [3, 1, 2, 4, 6, 5, 7], [], [9], [7, 5, 6, 4, 2, 1, 3, 8, 9, 10], [10, 9, 11, 7, 5, 6, 8, 3, 1, 2, 4, 0], [0, 4, 2, 1, 3, 8, 6, 5, 7, 11, 9, 10, 12]] ?_
          intro acc
          replace acc := a_q tabOk 0 [] acc
          replace acc := a_q tabOk 1 [] acc
          replace acc := a_q tabOk 2 [1] acc
          replace acc := a_q tabOk 3 [1, 2] acc
          obtain ⟨v19, e20, h⟩ := of_bind h
          replace acc := a_call tabOk 4 [1, 2, 3] [.val] acc (impl_Quote_good _ e20)
          replace acc := a_q tabOk 5 [] acc
          replace acc := a_q tabOk 6 [5] acc
          replace acc := a_q tabOk 7 [5, 6] acc
          obtain ⟨v21, e22, h⟩ := of_bind h
          replace acc := a_call tabOk 8 [1, 2, 3, 4, 5, 6, 7] [.val] acc (impl_Quote_good _ e22)
          replace acc := a_q tabOk 9 [] acc
          replace acc := a_q tabOk 10 [9] acc
          obtain ⟨v23, e24, h⟩ := of_bind h
          replace acc := a_call tabOk 11 [1, 2, 3, 4, 5, 6, 7, 8, 9, 10] [.val] acc (impl_NumText_good _ e24)
          replace acc := a_bslice tabOk 12 [0, 1, 2, 3, 4, 5, 6, 7, 8, 9, 10, 11] acc
          refine d_tail [] acc ?_
          clear acc
          refine d_one tabOk 13 ?_
          refine d_done ?_
          obtain rfl := Option.some.inj h
          refine tri_ret ?_
          exact k_retE

noncomputable def impl_callWords (a0 : S_impl_Call) : Option ((List (List UInt8))) :=
  (bif (a0.f_Kind == (1 : Int)) then (some [[98, 101, 103, 105, 110]]) else (bif (a0.f_Kind == (3 : Int)) then (some [[99, 111, 109, 109, 105, 116]]) else (bif (a0.f_Kind == (4 : Int)) then (some [[97, 98, 111, 114, 116]]) else ((impl_askWords a0.f_Ask).bind fun v4 => (some v4)))))
theorem impl_callWords_good (a0 : S_impl_Call) {r : (List (List UInt8))} (h : impl_callWords a0 = some r) : GoodD Tryd.prog 44 [.val true (E_impl_Call.row false a0)] [(false, (EL ES 1).row true r)] [[]] := by
  have F : True := trivial
  unfold impl_callWords at h
  refine good_body tabOk 17 [.tmp 2] Tryd.func44 rfl rfl rfl rfl ?_
  refine k_seq tabOk ?_
  refine tri_seq ?_
  refine k_seq tabOk ?_
  refine tri_block ?_
  refine k_seq tabOk ?_
  rcases of_bif h with ⟨e1, h⟩ | ⟨e1, h⟩
  · replace F := fct e1 F
    refine k_then ?_
    refine k_seq tabOk ?_
    obtain rfl := Option.some.inj h
    refine tri_ret ?_
    exact k_retE
  · replace F := fct e1 F
    refine k_else ?_
    refine k_seq tabOk ?_
    rcases of_bif h with ⟨e2, h⟩ | ⟨e2, h⟩
    · replace F := fct e2 F
      refine k_then ?_
      refine k_seq tabOk ?_
      obtain rfl := Option.some.inj h
      refine tri_ret ?_
      exact k_retE
    · replace F := fct e2 F
      refine k_else ?_
      refine k_seq tabOk ?_
      rcases of_bif h with ⟨e3, h⟩ | ⟨e3, h⟩
      · replace F := fct e3 F
        refine k_then ?_
        refine k_seq tabOk ?_
        obtain rfl := Option.some.inj h
        refine tri_ret ?_
        exact k_retE
      · replace F := fct e3 F
        refine k_else ?_
        refine tri_skip ?_
        refine inblk_normal ?_
        refine thn_normal ?_
        refine k_runs 4 ?_
        refine r_ops tabOk 2 2 ?_
        obtain ⟨v4, e5, h⟩ := of_bind h
        refine r_call tabOk 1 [.val] (impl_askWords_good _ e5) ?_
        refine r_ops tabOk 1 0 ?_
        refine run_end ?_
        obtain rfl := Option.some.inj h
        refine tri_ret ?_
        exact k_retE

noncomputable def impl_StepText_l1 (v13 : (List UInt8)) (v15 : (List (List UInt8))) (s18 : Int) : Option ((Int) ⊕ ((Unit) ⊕ ((List UInt8)))) :=
  (bif (decide (s18 < ((app ([[99, 97, 108, 108], v13] : List (List UInt8)) v15).length : Int))) then ((at? (app ([[99, 97, 108, 108], v13] : List (List UInt8)) v15) s18).bind fun x22 => (bif (x22 == ([] : List UInt8)) then (some (Sum.inr (Sum.inr []))) else (some (Sum.inl (IntKind.i64.wrap (s18 + (1 : Int))))))) else (some (Sum.inr (Sum.inl ()))))
noncomputable def impl_StepText_l2 (v1 : (List UInt8)) (s32 : Int) : Option ((Int) ⊕ ((Unit) ⊕ ((List UInt8)))) :=
  (bif (decide (s32 < (1 : Int))) then ((at? [v1] s32).bind fun x36 => (bif (x36 == ([] : List UInt8)) then (some (Sum.inr (Sum.inr []))) else (some (Sum.inl (IntKind.i64.wrap (s32 + (1 : Int))))))) else (some (Sum.inr (Sum.inl ()))))
noncomputable def impl_StepText_l3 (a0 : S_impl_Step) (s48 : Int × (List (List UInt8))) : Option ((Int × (List (List UInt8))) ⊕ ((List (List UInt8)))) :=
  (bif (decide (s48.1 < (a0.f_Keep.length : Int))) then ((at? a0.f_Keep s48.1).bind fun x52 => ((impl_NumText x52).bind fun v54 => (bif room 16 s48.2.length (([v54] : List (List UInt8)).length) then (some (Sum.inl ((IntKind.i64.wrap (s48.1 + (1 : Int))), (s48.2 ++ [v54])))) else none))) else (some (Sum.inr s48.2)))
noncomputable def impl_StepText_l4 (v49 : (List (List UInt8))) (s59 : Int) : Option ((Int) ⊕ ((Unit) ⊕ ((List UInt8)))) :=
  (bif (decide (s59 < (v49.length : Int))) then ((at? v49 s59).bind fun x63 => (bif (x63 == ([] : List UInt8)) then (some (Sum.inr (Sum.inr []))) else (some (Sum.inl (IntKind.i64.wrap (s59 + (1 : Int))))))) else (some (Sum.inr (Sum.inl ()))))
noncomputable def impl_StepText_l5 (v1 : (List UInt8)) (v10 : (List UInt8)) (s71 : Int) : Option ((Int) ⊕ ((Unit) ⊕ ((List UInt8)))) :=
  (bif (decide (s71 < (2 : Int))) then ((at? [v1, v10] s71).bind fun x75 => (bif (x75 == ([] : List UInt8)) then (some (Sum.inr (Sum.inr []))) else (some (Sum.inl (IntKind.i64.wrap (s71 + (1 : Int))))))) else (some (Sum.inr (Sum.inl ()))))
noncomputable def impl_StepText (a0 : S_impl_Step) : Option ((List UInt8)) :=
  ((impl_wordOf a0.f_Kind).bind fun v1 => (Option.bind (bif (!(!((a0.f_Kind == (1 : Int)) == (!((a0.f_Call.f_Kind == (0 : Int)) && ((a0.f_Call.f_Ask.f_Kind == (0 : Int)) && ((a0.f_Call.f_Ask.f_Key == ([] : List UInt8)) && ((a0.f_Call.f_Ask.f_Val == ([] : List UInt8)) && ((a0.f_Call.f_Ask.f_Range.f_Lo == ([] : List UInt8)) && ((a0.f_Call.f_Ask.f_Range.f_Hi == ([] : List UInt8)) && ((a0.f_Call.f_Ask.f_Most == (0 : Int)) && (a0.f_Call.f_Ask.f_Back == false)))))))))))) then (bif (a0.f_Kind == (1 : Int)) then ((impl_CallOk a0.f_Call).bind fun v6 => (some (!v6))) else (some (v1 == ([] : List UInt8)))) else (some true)) fun (v3 : Bool) => (bif v3 then (some []) else (bif (((a0.f_Kind != (7 : Int)) && ((a0.f_B != (0 : Int)) || (decide ((0 : Int) < (a0.f_Keep.length : Int))))) || ((a0.f_Kind == (5 : Int)) && (a0.f_A != (0 : Int)))) then (some []) else ((impl_NumText a0.f_A).bind fun v10 => (bif (a0.f_Kind == (1 : Int)) then ((impl_NumText a0.f_A).bind fun v13 => ((impl_callWords a0.f_Call).bind fun v15 => (bif room 16 ([[99, 97, 108, 108], v13] : List (List UInt8)).length v15.length then (Option.bind (loopC (impl_StepText_l1 v13 v15) (0 : Int)) (early fun (v19 : Unit) => ((strings_Join (app ([[99, 97, 108, 108], v13] : List (List UInt8)) v15) ([32] : List UInt8)).bind fun v27 => (some v27)))) else none))) else (bif (a0.f_Kind == (5 : Int)) then (bif (decide ((0 : Int) ≤ (0 : Int)) && decide ((0 : Int) ≤ (1 : Int)) && decide ((1 : Int) ≤ (([v1, v10] : List (List UInt8)).length : Int))) then (Option.bind (loopC (impl_StepText_l2 v1) (0 : Int)) (early fun (v33 : Unit) => ((strings_Join ([v1] : List (List UInt8)) ([32] : List UInt8)).bind fun v41 => (some v41)))) else none) else (bif (a0.f_Kind == (7 : Int)) then ((impl_NumText a0.f_B).bind fun v45 => (bif room 16 ([v1, v10] : List (List UInt8)).length (([v45] : List (List UInt8)).length) then (Option.bind (loopC (impl_StepText_l3 a0) ((0 : Int), (app ([v1, v10] : List (List UInt8)) [v45]))) fun v49 => (Option.bind (loopC (impl_StepText_l4 v49) (0 : Int)) (early fun (v60 : Unit) => ((strings_Join v49 ([32] : List UInt8)).bind fun v68 => (some v68))))) else none)) else (Option.bind (loopC (impl_StepText_l5 v1 v10) (0 : Int)) (early fun (v72 : Unit) => ((strings_Join ([v1, v10] : List (List UInt8)) ([32] : List UInt8)).bind fun v80 => (some v80))))))))))))
theorem impl_StepText_good (a0 : S_impl_Step) {r : (List UInt8)} (h : impl_StepText a0 = some r) : GoodD Tryd.prog 24 [.val true (E_impl_Step.row false a0)] [(false, ES.row false r)] [[]] := by
  have F : True := trivial
  unfold impl_StepText at h
  refine good_body tabOk 116 [.tmp 2] Tryd.func24 rfl rfl rfl rfl ?_
  refine k_seq tabOk ?_
  refine k_seq tabOk ?_
  refine k_runs 4 ?_
  refine r_ops tabOk 2 2 ?_
  obtain ⟨v1, e2, h⟩ := of_bind h
  refine r_call tabOk 1 [.val] (impl_wordOf_good _ e2) ?_
  refine r_ops tabOk 1 0 ?_
  refine run_end ?_
  refine tri_seq ?_
  obtain ⟨v3, e83, h⟩ := of_bind h
  refine r_join (n := 23) (fun (v3 : Bool) => ⟨[((1, 0), .adr (1, 0) [0]), ((4, 0), .val false [.str v1]), ((38, 0), .val false [.bool v3])], [⟨(1, 0), false, [.int .i64 a0.f_Kind, .int .i64 a0.f_A, .int .i64 a0.f_B, .sl false 1 (a0.f_Keep : List Int).length ((EI .i64).L false a0.f_Keep), .int .i64 a0.f_Call.f_Kind, .int .i64 a0.f_Call.f_Ask.f_Kind, .str a0.f_Call.f_Ask.f_Key, .str a0.f_Call.f_Ask.f_Val, .str a0.f_Call.f_Ask.f_Range.f_Lo, .str a0.f_Call.f_Ask.f_Range.f_Hi, .int .i64 a0.f_Call.f_Ask.f_Most, .bool a0.f_Call.f_Ask.f_Back]⟩], 116, []⟩) v3 ?_ ?_
  · clear h
    have h := e83
    refine r_ops tabOk 11 12 ?_
    rcases of_bif h with ⟨e4, h⟩ | ⟨e4, h⟩
    · replace F := fct e4 F
      rcases of_bif h with ⟨e5, h⟩ | ⟨e5, h⟩
      · replace F := fct e5 F
        replace F := fctF e4 F
        obtain ⟨v6, e7, h⟩ := of_bind h
        refine r_call tabOk 11 [.val] (impl_CallOk_good _ e7) ?_
        refine r_ops tabOk 7 4 ?_
        refine r_skip 2 2 ?_
        refine r_ops tabOk 2 0 ?_
        refine run_end ?_
        obtain rfl := Option.some.inj h
        exact i_to [(1, 0), (4, 0), (38, 0)] [(1, 0)]
      · replace F := fct e5 F
        replace F := fctF e4 F
        refine r_skip 2 10 ?_
        refine r_ops tabOk 10 0 ?_
        refine run_end ?_
        obtain rfl := Option.some.inj h
        exact i_to [(1, 0), (4, 0), (38, 0)] [(1, 0)]
    · replace F := fct e4 F
      refine r_skip 3 9 ?_
      refine r_ops tabOk 2 7 ?_
      refine r_skip 6 1 ?_
      refine r_ops tabOk 1 0 ?_
      refine run_end ?_
      obtain rfl := Option.some.inj h
      exact i_to [(1, 0), (4, 0), (38, 0)] [(1, 0)]
  · rcases of_bif h with ⟨e8, h⟩ | ⟨e8, h⟩
    · replace F := fct e8 F
      refine k_then ?_
      refine k_seq tabOk ?_
      obtain rfl := Option.some.inj h
      refine tri_ret ?_
      exact k_retE
    · replace F := fct e8 F
      refine k_else ?_
      refine tri_skip ?_
      refine thn_normal ?_
      refine tri_seq ?_
      refine k_seq tabOk ?_
      rcases of_bif h with ⟨e9, h⟩ | ⟨e9, h⟩
      · replace F := fct e9 F
        refine k_then ?_
        refine k_keep [] [] ?_
        refine k_seq tabOk ?_
        obtain rfl := Option.some.inj h
        refine tri_ret ?_
        exact k_retE
      · replace F := fct e9 F
        refine k_else ?_
        refine tri_skip ?_
        refine thn_normal ?_
        refine k_keep [(1, 0), (4, 0)] [(1, 0)] ?_
        refine k_runs 6 ?_
        refine r_ops tabOk 3 3 ?_
        obtain ⟨v10, e11, h⟩ := of_bind h
        refine r_call tabOk 2 [.val] (impl_NumText_good _ e11) ?_
        refine r_ops tabOk 2 0 ?_
        refine run_end ?_
        refine tri_seq ?_
        refine k_seq tabOk ?_
        refine tri_block ?_
        refine k_seq tabOk ?_
        rcases of_bif h with ⟨e12, h⟩ | ⟨e12, h⟩
        · replace F := fct e12 F
          refine k_then ?_
          refine k_draw1 mixed 9 ?_
          refine d_begin [[], [0], [0, 1], [1, 0, 2], [], [4], [1, 0, 2, 4, 5], [5, 4, 6, 2, 0, 1, 3], [3, 1, 0, 2, 6, 4, 5, 7]] ?_
          intro acc
          replace acc := a_q tabOk 0 [] acc
          replace acc := a_q tabOk 1 [0] acc
          obtain ⟨v13, e14, h⟩ := of_bind h
          replace acc := a_call tabOk 2 [0, 1] [.val] acc (impl_NumText_good _ e14)
          replace acc := a_bslice tabOk 3 [0, 1, 2] acc
          replace acc := a_q tabOk 4 [] acc
          replace acc := a_q tabOk 5 [4] acc
          obtain ⟨v15, e16, h⟩ := of_bind h
          replace acc := a_call tabOk 6 [0, 1, 2, 4, 5] [.val] acc (impl_callWords_good _ e16)
          refine d_tail [] acc ?_
          clear acc
          obtain ⟨e17, h⟩ := of_chk h
          replace F := fct (room_iff e17) F
          refine d_one tabOk 7 ?_
          refine d_one tabOk 8 ?_
          refine d_done ?_
          refine inblk_normal ?_
          refine thn_normal ?_
          refine tri_seq ?_
          refine k_seq tabOk ?_
          refine tri_block ?_
          obtain ⟨o29, e25, h⟩ := of_bind h
          refine k_loopE (fun (s18 : Int) => ⟨[((5, 0), .view false (5, 0) [0] 1), ((105, 0), .view false (5, 0) [0] 1), ((106, 0), .val false [.int .i64 ((app ([[99, 97, 108, 108], v13] : List (List UInt8)) v15).length : Int)]), ((107, 0), .val false [.int .i64 s18])], [⟨(5, 0), true, [.sl true 1 ((app ([[99, 97, 108, 108], v13] : List (List UInt8)) v15) : List (List UInt8)).length (ES.L true (app ([[99, 97, 108, 108], v13] : List (List UInt8)) v15))]⟩], 116, []⟩) 3 (fun (v19 : Unit) => ⟨[((5, 0), .view false (5, 0) [0] 1)], [⟨(5, 0), true, [.sl true 1 ((app ([[99, 97, 108, 108], v13] : List (List UInt8)) v15) : List (List UInt8)).length (ES.L true (app ([[99, 97, 108, 108], v13] : List (List UInt8)) v15))]⟩], 116, []⟩) r e25 ?_ ?_ (fun _ e26 => early_r h e26) (fun v19 e26 => ?_)
          · exact i_to [(5, 0), (105, 0), (106, 0), (107, 0)] [(5, 0)]
          · clear h e25
            intro s18 o20 h
            unfold impl_StepText_l1 at h
            refine k_seq tabOk ?_
            refine tri_seq ?_
            rcases of_bif h with ⟨e21, h⟩ | ⟨e21, h⟩
            · replace F := fct e21 F
              refine k_then ?_
              refine tri_skip ?_
              refine thn_normal ?_
              refine tri_seq ?_
              refine tri_block ?_
              obtain ⟨x22, e23, h⟩ := of_bind h
              replace F := fct (at_range e23) F
              replace F := fct (at_ow ES true 1 1 e23) F
              refine k_seq tabOk ?_
              refine k_seq tabOk ?_
              rcases of_bif h with ⟨e24, h⟩ | ⟨e24, h⟩
              · replace F := fct e24 F
                refine k_then ?_
                refine k_seq tabOk ?_
                obtain rfl := Option.some.inj h
                refine tri_ret ?_
                refine q_ret (fun e => ?_)
                subst e
                exact k_retE
              · replace F := fct e24 F
                refine k_else ?_
                refine tri_skip ?_
                refine inblk_normal ?_
                refine thn_normal ?_
                refine k_one tabOk ?_
                obtain rfl := Option.some.inj h
                exact and_rfl (i_to [(5, 0), (105, 0), (106, 0), (107, 0)] [(5, 0)])
            · replace F := fct e21 F
              refine k_else ?_
              refine tri_exit ?_
              refine thn_exit ?_
              obtain rfl := Option.some.inj h
              exact and_rfl (i_to [(5, 0)] [(5, 0)])
          · replace h := early_l h e26
            refine inblk_here ?_
            refine thn_normal ?_
            refine k_runs 3 ?_
            refine r_ops tabOk 1 2 ?_
            obtain ⟨v27, e28, h⟩ := of_bind h
            refine r_call tabOk 1 [.val, .val] (strings_Join_good _ _ e28) ?_
            refine r_ops tabOk 1 0 ?_
            refine run_end ?_
            obtain rfl := Option.some.inj h
            refine tri_ret ?_
            exact k_retE
        · replace F := fct e12 F
          refine k_else ?_
          refine k_seq tabOk ?_
          rcases of_bif h with ⟨e30, h⟩ | ⟨e30, h⟩
          · replace F := fct e30 F
            replace F := fctF e9 F
            refine k_then ?_
            refine k_run1 3 ?_
            obtain ⟨e31, h⟩ := of_chk h
            replace F := fct (e31) F
            replace F := fct (sub_b ES true 1 [v1, v10] e31) F
            refine r_ops tabOk 2 1 ?_
            refine r_trunc 83 ?_
            refine r_ops tabOk 1 0 ?_
            refine run_end ?_
            refine inblk_normal ?_
            refine thn_normal ?_
            refine tri_seq ?_
            refine k_seq tabOk ?_
            refine tri_block ?_
            obtain ⟨o43, e39, h⟩ := of_bind h
            refine k_loopE (fun (s32 : Int) => ⟨[((5, 0), .view false (5, 0) [0] 1), ((105, 0), .view false (5, 0) [0] 1), ((106, 0), .val false [.int .i64 (1 : Int)]), ((107, 0), .val false [.int .i64 s32])], [⟨(5, 0), true, [.sl true 1 ([v1] : List (List UInt8)).length (ES.L true [v1])]⟩], 116, []⟩) 3 (fun (v33 : Unit) => ⟨[((5, 0), .view false (5, 0) [0] 1)], [⟨(5, 0), true, [.sl true 1 ([v1] : List (List UInt8)).length (ES.L true [v1])]⟩], 116, []⟩) r e39 ?_ ?_ (fun _ e40 => early_r h e40) (fun v33 e40 => ?_)
            · exact i_to [(5, 0), (105, 0), (106, 0), (107, 0)] [(5, 0)]
            · clear h e39
              intro s32 o34 h
              unfold impl_StepText_l2 at h
              refine k_seq tabOk ?_
              refine tri_seq ?_
              rcases of_bif h with ⟨e35, h⟩ | ⟨e35, h⟩
              · replace F := fct e35 F
                refine k_then ?_
                refine tri_skip ?_
                refine thn_normal ?_
                refine tri_seq ?_
                refine tri_block ?_
                obtain ⟨x36, e37, h⟩ := of_bind h
                replace F := fct (at_range e37) F
                replace F := fct (at_ow ES true 1 1 e37) F
                refine k_seq tabOk ?_
                refine k_seq tabOk ?_
                rcases of_bif h with ⟨e38, h⟩ | ⟨e38, h⟩
                · replace F := fct e38 F
                  refine k_then ?_
                  refine k_seq tabOk ?_
                  obtain rfl := Option.some.inj h
                  refine tri_ret ?_
                  refine q_ret (fun e => ?_)
                  subst e
                  exact k_retE
                · replace F := fct e38 F
                  refine k_else ?_
                  refine tri_skip ?_
                  refine inblk_normal ?_
                  refine thn_normal ?_
                  refine k_one tabOk ?_
                  obtain rfl := Option.some.inj h
                  exact and_rfl (i_to [(5, 0), (105, 0), (106, 0), (107, 0)] [(5, 0)])
              · replace F := fct e35 F
                refine k_else ?_
                refine tri_exit ?_
                refine thn_exit ?_
                obtain rfl := Option.some.inj h
                exact and_rfl (i_to [(5, 0)] [(5, 0)])
            · replace h := early_l h e40
              refine inblk_here ?_
              refine thn_normal ?_
              refine k_runs 3 ?_
              refine r_ops tabOk 1 2 ?_
              obtain ⟨v41, e42, h⟩ := of_bind h
              refine r_call tabOk 1 [.val, .val] (strings_Join_good _ _ e42) ?_
              refine r_ops tabOk 1 0 ?_
              refine run_end ?_
              obtain rfl := Option.some.inj h
              refine tri_ret ?_
              exact k_retE
          · replace F := fct e30 F
            replace F := fctF e9 F
            refine k_else ?_
            refine k_seq tabOk ?_
            rcases of_bif h with ⟨e44, h⟩ | ⟨e44, h⟩
            · replace F := fct e44 F
              refine k_then ?_
              refine k_runs 7 ?_
              refine r_ops tabOk 3 4 ?_
              obtain ⟨v45, e46, h⟩ := of_bind h
              refine r_call tabOk 3 [.val] (impl_NumText_good _ e46) ?_
              obtain ⟨e47, h⟩ := of_chk h
              replace F := fct (room_iff e47) F
              refine r_ops tabOk 3 0 ?_
              refine run_end ?_
              refine k_seq tabOk ?_
              refine tri_block ?_
              obtain ⟨v49, e57, h⟩ := of_bind h
              refine k_loopX (fun (s48 : Int × (List (List UInt8))) => ⟨[((5, 0), .view false (5, 0) [0] 1), ((93, 0), .val false [.sl false 1 (a0.f_Keep : List Int).length ((EI .i64).L false a0.f_Keep)]), ((94, 0), .val false [.int .i64 (a0.f_Keep.length : Int)]), ((95, 0), .val false [.int .i64 s48.1])], [⟨(5, 0), true, [.sl true 1 (s48.2 : List (List UInt8)).length (ES.L true s48.2)]⟩], 116, []⟩) 1 (fun (v49 : (List (List UInt8))) => ⟨[((5, 0), .view false (5, 0) [0] 1)], [⟨(5, 0), true, [.sl true 1 (v49 : List (List UInt8)).length (ES.L true v49)]⟩], 116, []⟩) e57 ?_ ?_ ?_
              · exact i_to [(5, 0), (93, 0), (94, 0), (95, 0)] [(5, 0)]
              · clear h e57
                intro s48 o50 h
                unfold impl_StepText_l3 at h
                refine k_seq tabOk ?_
                refine tri_seq ?_
                rcases of_bif h with ⟨e51, h⟩ | ⟨e51, h⟩
                · replace F := fct e51 F
                  refine k_then ?_
                  refine tri_skip ?_
                  refine thn_normal ?_
                  refine tri_seq ?_
                  refine tri_block ?_
                  obtain ⟨x52, e53, h⟩ := of_bind h
                  replace F := fct (at_range e53) F
                  replace F := fct (at_fs (EI .i64) false 1 [] 1 e53) F
                  refine k_seq tabOk ?_
                  refine k_run1 6 ?_
                  refine r_ops tabOk 2 4 ?_
                  obtain ⟨v54, e55, h⟩ := of_bind h
                  refine r_call tabOk 3 [.val] (impl_NumText_good _ e55) ?_
                  obtain ⟨e56, h⟩ := of_chk h
                  replace F := fct (room_iff e56) F
                  refine r_ops tabOk 3 0 ?_
                  refine run_end ?_
                  refine inblk_normal ?_
                  refine thn_normal ?_
                  refine k_one tabOk ?_
                  obtain rfl := Option.some.inj h
                  exact and_rfl (i_to [(5, 0), (93, 0), (94, 0), (95, 0)] [(5, 0)])
                · replace F := fct e51 F
                  refine k_else ?_
                  refine tri_exit ?_
                  refine thn_exit ?_
                  obtain rfl := Option.some.inj h
                  exact and_rfl (i_to [(5, 0)] [(5, 0)])
              · refine inblk_here ?_
                refine inblk_normal ?_
                refine thn_normal ?_
                refine tri_seq ?_
                refine k_seq tabOk ?_
                refine tri_block ?_
                obtain ⟨o70, e66, h⟩ := of_bind h
                refine k_loopE (fun (s59 : Int) => ⟨[((5, 0), .view false (5, 0) [0] 1), ((105, 0), .view false (5, 0) [0] 1), ((106, 0), .val false [.int .i64 (v49.length : Int)]), ((107, 0), .val false [.int .i64 s59])], [⟨(5, 0), true, [.sl true 1 (v49 : List (List UInt8)).length (ES.L true v49)]⟩], 116, []⟩) 3 (fun (v60 : Unit) => ⟨[((5, 0), .view false (5, 0) [0] 1)], [⟨(5, 0), true, [.sl true 1 (v49 : List (List UInt8)).length (ES.L true v49)]⟩], 116, []⟩) r e66 ?_ ?_ (fun _ e67 => early_r h e67) (fun v60 e67 => ?_)
                · exact i_to [(5, 0), (105, 0), (106, 0), (107, 0)] [(5, 0)]
                · clear h e66
                  intro s59 o61 h
                  unfold impl_StepText_l4 at h
                  refine k_seq tabOk ?_
                  refine tri_seq ?_
                  rcases of_bif h with ⟨e62, h⟩ | ⟨e62, h⟩
                  · replace F := fct e62 F
                    refine k_then ?_
                    refine tri_skip ?_
                    refine thn_normal ?_
                    refine tri_seq ?_
                    refine tri_block ?_
                    obtain ⟨x63, e64, h⟩ := of_bind h
                    replace F := fct (at_range e64) F
                    replace F := fct (at_ow ES true 1 1 e64) F
                    refine k_seq tabOk ?_
                    refine k_seq tabOk ?_
                    rcases of_bif h with ⟨e65, h⟩ | ⟨e65, h⟩
                    · replace F := fct e65 F
                      refine k_then ?_
                      refine k_seq tabOk ?_
                      obtain rfl := Option.some.inj h
                      refine tri_ret ?_
                      refine q_ret (fun e => ?_)
                      subst e
                      exact k_retE
                    · replace F := fct e65 F
                      refine k_else ?_
                      refine tri_skip ?_
                      refine inblk_normal ?_
                      refine thn_normal ?_
                      refine k_one tabOk ?_
                      obtain rfl := Option.some.inj h
                      exact and_rfl (i_to [(5, 0), (105, 0), (106, 0), (107, 0)] [(5, 0)])
                  · replace F := fct e62 F
                    refine k_else ?_
                    refine tri_exit ?_
                    refine thn_exit ?_
                    obtain rfl := Option.some.inj h
                    exact and_rfl (i_to [(5, 0)] [(5, 0)])
                · replace h := early_l h e67
                  refine inblk_here ?_
                  refine thn_normal ?_
                  refine k_runs 3 ?_
                  refine r_ops tabOk 1 2 ?_
                  obtain ⟨v68, e69, h⟩ := of_bind h
                  refine r_call tabOk 1 [.val, .val] (strings_Join_good _ _ e69) ?_
                  refine r_ops tabOk 1 0 ?_
                  refine run_end ?_
                  obtain rfl := Option.some.inj h
                  refine tri_ret ?_
                  exact k_retE
            · replace F := fct e44 F
              refine k_else ?_
              refine tri_skip ?_
              refine inblk_normal ?_
              refine thn_normal ?_
              refine tri_seq ?_
              refine k_seq tabOk ?_
              refine tri_block ?_
              obtain ⟨o82, e78, h⟩ := of_bind h
              refine k_loopE (fun (s71 : Int) => ⟨[((5, 0), .view false (5, 0) [0] 1), ((105, 0), .view false (5, 0) [0] 1), ((106, 0), .val false [.int .i64 (2 : Int)]), ((107, 0), .val false [.int .i64 s71])], [⟨(5, 0), true, [.sl true 1 ([v1, v10] : List (List UInt8)).length (ES.L true [v1, v10])]⟩], 116, []⟩) 3 (fun (v72 : Unit) => ⟨[((5, 0), .view false (5, 0) [0] 1)], [⟨(5, 0), true, [.sl true 1 ([v1, v10] : List (List UInt8)).length (ES.L true [v1, v10])]⟩], 116, []⟩) r e78 ?_ ?_ (fun _ e79 => early_r h e79) (fun v72 e79 => ?_)
              · exact i_to [(5, 0), (105, 0), (106, 0), (107, 0)] [(5, 0)]
              · clear h e78
                intro s71 o73 h
                unfold impl_StepText_l5 at h
                refine k_seq tabOk ?_
                refine tri_seq ?_
                rcases of_bif h with ⟨e74, h⟩ | ⟨e74, h⟩
                · replace F := fct e74 F
                  refine k_then ?_
                  refine tri_skip ?_
                  refine thn_normal ?_
                  refine tri_seq ?_
                  refine tri_block ?_
                  obtain ⟨x75, e76, h⟩ := of_bind h
                  replace F := fct (at_range e76) F
                  replace F := fct (at_ow ES true 1 1 e76) F
                  refine k_seq tabOk ?_
                  refine k_seq tabOk ?_
                  rcases of_bif h with ⟨e77, h⟩ | ⟨e77, h⟩
                  · replace F := fct e77 F
                    refine k_then ?_
                    refine k_seq tabOk ?_
                    obtain rfl := Option.some.inj h
                    refine tri_ret ?_
                    refine q_ret (fun e => ?_)
                    subst e
                    exact k_retE
                  · replace F := fct e77 F
                    refine k_else ?_
                    refine tri_skip ?_
                    refine inblk_normal ?_
                    refine thn_normal ?_
                    refine k_one tabOk ?_
                    obtain rfl := Option.some.inj h
                    exact and_rfl (i_to [(5, 0), (105, 0), (106, 0), (107, 0)] [(5, 0)])
                · replace F := fct e74 F
                  refine k_else ?_
                  refine tri_exit ?_
                  refine thn_exit ?_
                  obtain rfl := Option.some.inj h
                  exact and_rfl (i_to [(5, 0)] [(5, 0)])
              · replace h := early_l h e79
                refine inblk_here ?_
                refine thn_normal ?_
                refine k_runs 3 ?_
                refine r_ops tabOk 1 2 ?_
                obtain ⟨v80, e81, h⟩ := of_bind h
                refine r_call tabOk 1 [.val, .val] (strings_Join_good _ _ e81) ?_
                refine r_ops tabOk 1 0 ?_
                refine run_end ?_
                obtain rfl := Option.some.inj h
                refine tri_ret ?_
                exact k_retE

end Go.Proofs.YtddfcajdelfikaaDoor.Vm
