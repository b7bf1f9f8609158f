import Derived.Test.YtddfcajdelfikaaDoorEnc
import Derived.Test.YtddfcajdelfikaaDoorHand
import Derived.Test.YtddfcajdelfikaaDoorG2
import Derived.Test.YtddfcajdelfikaaDoorVm34
set_option maxRecDepth 100000
set_option maxHeartbeats 4000000
set_option linter.unusedSimpArgs false
set_option linter.unusedVariables false
namespace Go.Proofs.YtddfcajdelfikaaDoor.Vm
open Go

noncomputable def impl_TextStep_l1 (v1 : (List (List UInt8))) (s3 : Int × Int) : Option ((Int × Int) ⊕ (Int)) :=
  (bif (decide (s3.1 ≤ (9 : Int))) then (Option.bind ((impl_wordOf s3.1).bind fun v8 => ((at? v1 (0 : Int)).bind fun x10 => (bif (v8 == x10) then (some s3.1) else (some s3.2)))) fun (v7 : Int) => (some (Sum.inl ((IntKind.i64.wrap (s3.1 + (1 : Int))), v7)))) else (some (Sum.inr s3.2)))
noncomputable def impl_TextStep_l2 (v1 : (List (List UInt8))) (s33 : Int × (List Int)) : Option ((Int × (List Int)) ⊕ ((List Int))) :=
  (bif (decide (s33.1 < ((((v1.length : Int).toNat - (3 : Int).toNat) : Nat) : Int))) then ((at? (List.take ((v1.length : Int).toNat - (3 : Int).toNat) (List.drop ((3 : Int).toNat) v1)) s33.1).bind fun x37 => ((impl_TextNum x37).bind fun v39 => (bif room 8 s33.2.length (([v39.1] : List Int).length) then (some (Sum.inl ((IntKind.i64.wrap (s33.1 + (1 : Int))), (s33.2 ++ [v39.1])))) else none))) else (some (Sum.inr s33.2)))
noncomputable def impl_TextStep_l3 (v1 : (List (List UInt8))) (s62 : Int × (List Int)) : Option ((Int × (List Int)) ⊕ ((List Int))) :=
  (bif (decide (s62.1 < ((((v1.length : Int).toNat - (3 : Int).toNat) : Nat) : Int))) then ((at? (List.take ((v1.length : Int).toNat - (3 : Int).toNat) (List.drop ((3 : Int).toNat) v1)) s62.1).bind fun x66 => ((impl_TextNum x66).bind fun v68 => (bif room 8 s62.2.length (([v68.1] : List Int).length) then (some (Sum.inl ((IntKind.i64.wrap (s62.1 + (1 : Int))), (s62.2 ++ [v68.1])))) else none))) else (some (Sum.inr s62.2)))
noncomputable def impl_TextStep_l4 (v1 : (List (List UInt8))) (s97 : Int × (List Int)) : Option ((Int × (List Int)) ⊕ ((List Int))) :=
  (bif (decide (s97.1 < ((((v1.length : Int).toNat - (3 : Int).toNat) : Nat) : Int))) then ((at? (List.take ((v1.length : Int).toNat - (3 : Int).toNat) (List.drop ((3 : Int).toNat) v1)) s97.1).bind fun x101 => ((impl_TextNum x101).bind fun v103 => (bif room 8 s97.2.length (([v103.1] : List Int).length) then (some (Sum.inl ((IntKind.i64.wrap (s97.1 + (1 : Int))), (s97.2 ++ [v103.1])))) else none))) else (some (Sum.inr s97.2)))
noncomputable def impl_TextStep_l5 (v1 : (List (List UInt8))) (s126 : Int × (List Int)) : Option ((Int × (List Int)) ⊕ ((List Int))) :=
  (bif (decide (s126.1 < ((((v1.length : Int).toNat - (3 : Int).toNat) : Nat) : Int))) then ((at? (List.take ((v1.length : Int).toNat - (3 : Int).toNat) (List.drop ((3 : Int).toNat) v1)) s126.1).bind fun x130 => ((impl_TextNum x130).bind fun v132 => (bif room 8 s126.2.length (([v132.1] : List Int).length) then (some (Sum.inl ((IntKind.i64.wrap (s126.1 + (1 : Int))), (s126.2 ++ [v132.1])))) else none))) else (some (Sum.inr s126.2)))
noncomputable def impl_TextStep (a0 : List UInt8) : Option (S_impl_Step × Bool) :=
  ((strings_Split a0 ([32] : List UInt8)).bind fun v1 => (Option.bind (loopC (impl_TextStep_l1 v1) ((2 : Int), (0 : Int))) fun v4 => (bif (decide ((1 : Int) < (v1.length : Int))) then ((at? v1 (1 : Int)).bind fun x17 => ((impl_TextNum x17).bind fun v19 => ((at? v1 (0 : Int)).bind fun x21 => (bif ((x21 == ([99, 97, 108, 108] : List UInt8)) && (decide ((2 : Int) < (v1.length : Int)))) then (bif (decide ((0 : Int) ≤ (2 : Int)) && decide ((2 : Int) ≤ (v1.length : Int)) && decide ((v1.length : Int) ≤ (v1.length : Int))) then ((impl_textCall (List.take ((v1.length : Int).toNat - (2 : Int).toNat) (List.drop ((2 : Int).toNat) v1))).bind fun v25 => (bif (((1 : Int) == (7 : Int)) && (decide ((2 : Int) < (v1.length : Int)))) then ((at? v1 (2 : Int)).bind fun x28 => ((impl_TextNum x28).bind fun v30 => (bif (decide ((0 : Int) ≤ (3 : Int)) && decide ((3 : Int) ≤ (v1.length : Int)) && decide ((v1.length : Int) ≤ (v1.length : Int))) then (Option.bind (loopC (impl_TextStep_l2 v1) ((0 : Int), [])) fun v34 => (Option.bind (bif (a0 == ([] : List UInt8)) then (some true) else ((impl_StepText (S_impl_Step.mk (1 : Int) v19.1 v30.1 v34 v25)).bind fun v46 => (some (!(v46 == a0))))) fun (v44 : Bool) => (bif v44 then (some ((S_impl_Step.mk (0 : Int) (0 : Int) (0 : Int) [] (S_impl_Call.mk (0 : Int) (S_impl_Ask.mk (0 : Int) [] [] (S_impl_Range.mk [] []) (0 : Int) false))), false)) else (some ((S_impl_Step.mk (1 : Int) v19.1 v30.1 v34 v25), true))))) else none))) else (Option.bind (bif (a0 == ([] : List UInt8)) then (some true) else ((impl_StepText (S_impl_Step.mk (1 : Int) v19.1 (0 : Int) [] v25)).bind fun v52 => (some (!(v52 == a0))))) fun (v50 : Bool) => (bif v50 then (some ((S_impl_Step.mk (0 : Int) (0 : Int) (0 : Int) [] (S_impl_Call.mk (0 : Int) (S_impl_Ask.mk (0 : Int) [] [] (S_impl_Range.mk [] []) (0 : Int) false))), false)) else (some ((S_impl_Step.mk (1 : Int) v19.1 (0 : Int) [] v25), true)))))) else none) else (bif ((v4 == (7 : Int)) && (decide ((2 : Int) < (v1.length : Int)))) then ((at? v1 (2 : Int)).bind fun x57 => ((impl_TextNum x57).bind fun v59 => (bif (decide ((0 : Int) ≤ (3 : Int)) && decide ((3 : Int) ≤ (v1.length : Int)) && decide ((v1.length : Int) ≤ (v1.length : Int))) then (Option.bind (loopC (impl_TextStep_l3 v1) ((0 : Int), [])) fun v63 => (Option.bind (bif (a0 == ([] : List UInt8)) then (some true) else ((impl_StepText (S_impl_Step.mk v4 v19.1 v59.1 v63 (S_impl_Call.mk (0 : Int) (S_impl_Ask.mk (0 : Int) [] [] (S_impl_Range.mk [] []) (0 : Int) false)))).bind fun v75 => (some (!(v75 == a0))))) fun (v73 : Bool) => (bif v73 then (some ((S_impl_Step.mk (0 : Int) (0 : Int) (0 : Int) [] (S_impl_Call.mk (0 : Int) (S_impl_Ask.mk (0 : Int) [] [] (S_impl_Range.mk [] []) (0 : Int) false))), false)) else (some ((S_impl_Step.mk v4 v19.1 v59.1 v63 (S_impl_Call.mk (0 : Int) (S_impl_Ask.mk (0 : Int) [] [] (S_impl_Range.mk [] []) (0 : Int) false))), true))))) else none))) else (Option.bind (bif (a0 == ([] : List UInt8)) then (some true) else ((impl_StepText (S_impl_Step.mk v4 v19.1 (0 : Int) [] (S_impl_Call.mk (0 : Int) (S_impl_Ask.mk (0 : Int) [] [] (S_impl_Range.mk [] []) (0 : Int) false)))).bind fun v81 => (some (!(v81 == a0))))) fun (v79 : Bool) => (bif v79 then (some ((S_impl_Step.mk (0 : Int) (0 : Int) (0 : Int) [] (S_impl_Call.mk (0 : Int) (S_impl_Ask.mk (0 : Int) [] [] (S_impl_Range.mk [] []) (0 : Int) false))), false)) else (some ((S_impl_Step.mk v4 v19.1 (0 : Int) [] (S_impl_Call.mk (0 : Int) (S_impl_Ask.mk (0 : Int) [] [] (S_impl_Range.mk [] []) (0 : Int) false))), true))))))))) else ((at? v1 (0 : Int)).bind fun x85 => (bif ((x85 == ([99, 97, 108, 108] : List UInt8)) && (decide ((2 : Int) < (v1.length : Int)))) then (bif (decide ((0 : Int) ≤ (2 : Int)) && decide ((2 : Int) ≤ (v1.length : Int)) && decide ((v1.length : Int) ≤ (v1.length : Int))) then ((impl_textCall (List.take ((v1.length : Int).toNat - (2 : Int).toNat) (List.drop ((2 : Int).toNat) v1))).bind fun v89 => (bif (((1 : Int) == (7 : Int)) && (decide ((2 : Int) < (v1.length : Int)))) then ((at? v1 (2 : Int)).bind fun x92 => ((impl_TextNum x92).bind fun v94 => (bif (decide ((0 : Int) ≤ (3 : Int)) && decide ((3 : Int) ≤ (v1.length : Int)) && decide ((v1.length : Int) ≤ (v1.length : Int))) then (Option.bind (loopC (impl_TextStep_l4 v1) ((0 : Int), [])) fun v98 => (Option.bind (bif (a0 == ([] : List UInt8)) then (some true) else ((impl_StepText (S_impl_Step.mk (1 : Int) (0 : Int) v94.1 v98 v89)).bind fun v110 => (some (!(v110 == a0))))) fun (v108 : Bool) => (bif v108 then (some ((S_impl_Step.mk (0 : Int) (0 : Int) (0 : Int) [] (S_impl_Call.mk (0 : Int) (S_impl_Ask.mk (0 : Int) [] [] (S_impl_Range.mk [] []) (0 : Int) false))), false)) else (some ((S_impl_Step.mk (1 : Int) (0 : Int) v94.1 v98 v89), true))))) else none))) else (Option.bind (bif (a0 == ([] : List UInt8)) then (some true) else ((impl_StepText (S_impl_Step.mk (1 : Int) (0 : Int) (0 : Int) [] v89)).bind fun v116 => (some (!(v116 == a0))))) fun (v114 : Bool) => (bif v114 then (some ((S_impl_Step.mk (0 : Int) (0 : Int) (0 : Int) [] (S_impl_Call.mk (0 : Int) (S_impl_Ask.mk (0 : Int) [] [] (S_impl_Range.mk [] []) (0 : Int) false))), false)) else (some ((S_impl_Step.mk (1 : Int) (0 : Int) (0 : Int) [] v89), true)))))) else none) else (bif ((v4 == (7 : Int)) && (decide ((2 : Int) < (v1.length : Int)))) then ((at? v1 (2 : Int)).bind fun x121 => ((impl_TextNum x121).bind fun v123 => (bif (decide ((0 : Int) ≤ (3 : Int)) && decide ((3 : Int) ≤ (v1.length : Int)) && decide ((v1.length : Int) ≤ (v1.length : Int))) then (Option.bind (loopC (impl_TextStep_l5 v1) ((0 : Int), [])) fun v127 => (Option.bind (bif (a0 == ([] : List UInt8)) then (some true) else ((impl_StepText (S_impl_Step.mk v4 (0 : Int) v123.1 v127 (S_impl_Call.mk (0 : Int) (S_impl_Ask.mk (0 : Int) [] [] (S_impl_Range.mk [] []) (0 : Int) false)))).bind fun v139 => (some (!(v139 == a0))))) fun (v137 : Bool) => (bif v137 then (some ((S_impl_Step.mk (0 : Int) (0 : Int) (0 : Int) [] (S_impl_Call.mk (0 : Int) (S_impl_Ask.mk (0 : Int) [] [] (S_impl_Range.mk [] []) (0 : Int) false))), false)) else (some ((S_impl_Step.mk v4 (0 : Int) v123.1 v127 (S_impl_Call.mk (0 : Int) (S_impl_Ask.mk (0 : Int) [] [] (S_impl_Range.mk [] []) (0 : Int) false))), true))))) else none))) else (Option.bind (bif (a0 == ([] : List UInt8)) then (some true) else ((impl_StepText (S_impl_Step.mk v4 (0 : Int) (0 : Int) [] (S_impl_Call.mk (0 : Int) (S_impl_Ask.mk (0 : Int) [] [] (S_impl_Range.mk [] []) (0 : Int) false)))).bind fun v145 => (some (!(v145 == a0))))) fun (v143 : Bool) => (bif v143 then (some ((S_impl_Step.mk (0 : Int) (0 : Int) (0 : Int) [] (S_impl_Call.mk (0 : Int) (S_impl_Ask.mk (0 : Int) [] [] (S_impl_Range.mk [] []) (0 : Int) false))), false)) else (some ((S_impl_Step.mk v4 (0 : Int) (0 : Int) [] (S_impl_Call.mk (0 : Int) (S_impl_Ask.mk (0 : Int) [] [] (S_impl_Range.mk [] []) (0 : Int) false))), true))))))))))
theorem impl_TextStep_good (a0 : List UInt8) {r : S_impl_Step × Bool} (h : impl_TextStep a0 = some r) : GoodD Tryd.prog 6 [.val false (ES.row false a0)] [(true, E_impl_Step.row true r.1), (false, EB.row false r.2)] [[]] := by
  have F : True := trivial
  unfold impl_TextStep at h
  refine good_body tabOk 96 [.cell 2 30, .tmp 3] Tryd.func6 rfl rfl rfl rfl ?_
  refine k_seq tabOk ?_
  refine k_runs 3 ?_
  refine r_ops tabOk 1 2 ?_
  obtain ⟨v1, e2, h⟩ := of_bind h
  refine r_call tabOk 1 [.val, .val] (strings_Split_good _ _ e2) ?_
  refine r_ops tabOk 1 0 ?_
  refine run_end ?_
  refine k_seq tabOk ?_
  refine tri_seq ?_
  refine k_seq tabOk ?_
  refine tri_block ?_
  obtain ⟨v4, e14, h⟩ := of_bind h
  refine k_loopX (fun (s3 : Int × Int) => ⟨[((0, 0), .val false [.str a0]), ((2, 0), .adr (2, 0) [0]), ((4, 0), .view false (4, 0) [0] 1), ((5, 0), .adr (5, 0) [0]), ((6, 0), .val false [.int .i64 s3.1])], [⟨(2, 0), false, [.int .i64 (0 : Int), .int .i64 (0 : Int), .int .i64 (0 : Int), .sl true 1 ([] : List Int).length ((EI .i64).L true []), .int .i64 (0 : Int), .int .i64 (0 : Int), .str [], .str [], .str [], .str [], .int .i64 (0 : Int), .bool false]⟩, ⟨(4, 0), true, [.sl true 1 (v1 : List (List UInt8)).length (ES.L true v1)]⟩, ⟨(5, 0), false, [.int .i64 s3.2, .int .i64 (0 : Int), .int .i64 (0 : Int), .sl true 1 ([] : List Int).length ((EI .i64).L true []), .int .i64 (0 : Int), .int .i64 (0 : Int), .str [], .str [], .str [], .str [], .int .i64 (0 : Int), .bool false]⟩], 96, []⟩) 0 (fun (v4 : Int) => ⟨[((0, 0), .val false [.str a0]), ((2, 0), .adr (2, 0) [0]), ((4, 0), .view false (4, 0) [0] 1), ((5, 0), .adr (5, 0) [0])], [⟨(2, 0), false, [.int .i64 (0 : Int), .int .i64 (0 : Int), .int .i64 (0 : Int), .sl true 1 ([] : List Int).length ((EI .i64).L true []), .int .i64 (0 : Int), .int .i64 (0 : Int), .str [], .str [], .str [], .str [], .int .i64 (0 : Int), .bool false]⟩, ⟨(4, 0), true, [.sl true 1 (v1 : List (List UInt8)).length (ES.L true v1)]⟩, ⟨(5, 0), false, [.int .i64 v4, .int .i64 (0 : Int), .int .i64 (0 : Int), .sl true 1 ([] : List Int).length ((EI .i64).L true []), .int .i64 (0 : Int), .int .i64 (0 : Int), .str [], .str [], .str [], .str [], .int .i64 (0 : Int), .bool false]⟩], 96, []⟩) e14 ?_ ?_ ?_
  · exact i_to [(0, 0), (2, 0), (4, 0), (5, 0), (6, 0)] [(2, 0), (4, 0), (5, 0)]
  · clear h e14
    intro s3 o5 h
    unfold impl_TextStep_l1 at h
    refine tri_seq ?_
    refine k_seq tabOk ?_
    rcases of_bif h with ⟨e6, h⟩ | ⟨e6, h⟩
    · replace F := fct e6 F
      refine k_then ?_
      refine tri_skip ?_
      refine thn_normal ?_
      obtain ⟨v7, e13, h⟩ := of_bind h
      refine k_jn (fun (v7 : Int) => ⟨[((0, 0), .val false [.str a0]), ((2, 0), .adr (2, 0) [0]), ((4, 0), .view false (4, 0) [0] 1), ((5, 0), .adr (5, 0) [0]), ((6, 0), .val false [.int .i64 s3.1])], [⟨(2, 0), false, [.int .i64 (0 : Int), .int .i64 (0 : Int), .int .i64 (0 : Int), .sl true 1 ([] : List Int).length ((EI .i64).L true []), .int .i64 (0 : Int), .int .i64 (0 : Int), .str [], .str [], .str [], .str [], .int .i64 (0 : Int), .bool false]⟩, ⟨(4, 0), true, [.sl true 1 (v1 : List (List UInt8)).length (ES.L true v1)]⟩, ⟨(5, 0), false, [.int .i64 v7, .int .i64 (0 : Int), .int .i64 (0 : Int), .sl true 1 ([] : List Int).length ((EI .i64).L true []), .int .i64 (0 : Int), .int .i64 (0 : Int), .str [], .str [], .str [], .str [], .int .i64 (0 : Int), .bool false]⟩], 96, []⟩) v7 ?_ ?_
      · clear h
        have h := e13
        refine tri_block ?_
        refine k_draw mixed 6 ?_
        refine d_begin [[], [0], [], [2], [2, 3], [3, 2, 4, 0, 1]] ?_
        intro acc
        replace acc := a_q tabOk 0 [] acc
        obtain ⟨v8, e9, h⟩ := of_bind h
        replace acc := a_call tabOk 1 [0] [.val] acc (impl_wordOf_good _ e9)
        replace acc := a_q tabOk 2 [] acc
        obtain ⟨x10, e11, h⟩ := of_bind h
        replace F := fct (at_range e11) F
        replace acc := a_q tabOk 3 [2] acc
        replace F := fct (at_ow ES true 1 1 e11) F
        replace acc := a_q tabOk 4 [2, 3] acc
        replace acc := a_q tabOk 5 [0, 1, 2, 3, 4] acc
        refine d_tail [] acc ?_
        clear acc
        refine d_done ?_
        rcases of_bif h with ⟨e12, h⟩ | ⟨e12, h⟩
        · replace F := fct e12 F
          refine k_then ?_
          refine k_one tabOk ?_
          refine inblk_normal ?_
          obtain rfl := Option.some.inj h
          exact and_rfl (i_to [(0, 0), (2, 0), (4, 0), (5, 0), (6, 0)] [(2, 0), (4, 0), (5, 0)])
        · replace F := fct e12 F
          refine k_else ?_
          refine tri_skip ?_
          refine inblk_normal ?_
          obtain rfl := Option.some.inj h
          exact and_rfl (i_to [(0, 0), (2, 0), (4, 0), (5, 0), (6, 0)] [(2, 0), (4, 0), (5, 0)])
      · refine k_one tabOk ?_
        obtain rfl := Option.some.inj h
        exact and_rfl (i_to [(0, 0), (2, 0), (4, 0), (5, 0), (6, 0)] [(2, 0), (4, 0), (5, 0)])
    · replace F := fct e6 F
      refine k_else ?_
      refine tri_exit ?_
      refine thn_exit ?_
      obtain rfl := Option.some.inj h
      exact and_rfl (i_to [(0, 0), (2, 0), (4, 0), (5, 0)] [(2, 0), (4, 0), (5, 0)])
  · refine inblk_here ?_
    refine thn_normal ?_
    refine tri_seq ?_
    refine k_seq tabOk ?_
    rcases of_bif h with ⟨e16, h⟩ | ⟨e16, h⟩
    · replace F := fct e16 F
      refine k_then ?_
      refine k_run1 9 ?_
      obtain ⟨x17, e18, h⟩ := of_bind h
      replace F := fct (at_range e18) F
      replace F := fct (at_ow ES true 1 1 e18) F
      refine r_ops tabOk 3 6 ?_
      obtain ⟨v19, e20, h⟩ := of_bind h
      refine r_call tabOk 5 [.val] (impl_TextNum_good _ e20) ?_
      refine r_mov ?_
      refine r_ops tabOk 4 0 ?_
      refine run_end ?_
      refine thn_normal ?_
      refine tri_seq ?_
      obtain ⟨x21, e22, h⟩ := of_bind h
      replace F := fct (at_range e22) F
      replace F := fct (at_ow ES true 1 1 e22) F
      refine k_seq tabOk ?_
      rcases of_bif h with ⟨e23, h⟩ | ⟨e23, h⟩
      · replace F := fct e23 F
        refine k_then ?_
        refine k_keep [(0, 0), (2, 0), (4, 0), (5, 0)] [(2, 0), (4, 0), (5, 0)] ?_
        refine k_seq tabOk ?_
        refine k_run1 5 ?_
        obtain ⟨e24, h⟩ := of_chk h
        replace F := fct (e24) F
        replace F := fct (sub_b ES true 1 v1 e24) F
        refine r_ops tabOk 2 3 ?_
        obtain ⟨v25, e26, h⟩ := of_bind h
        refine r_call tabOk 2 [.val] (impl_textCall_good _ e26) ?_
        refine r_ops tabOk 2 0 ?_
        refine run_end ?_
        refine thn_normal ?_
        refine tri_seq ?_
        refine k_seq tabOk ?_
        rcases of_bif h with ⟨e27, h⟩ | ⟨e27, h⟩
        · replace F := fct e27 F
          refine k_then ?_
          refine k_runs 9 ?_
          obtain ⟨x28, e29, h⟩ := of_bind h
          replace F := fct (at_range e29) F
          replace F := fct (at_ow ES true 1 1 e29) F
          refine r_ops tabOk 3 6 ?_
          obtain ⟨v30, e31, h⟩ := of_bind h
          refine r_call tabOk 5 [.val] (impl_TextNum_good _ e31) ?_
          refine r_mov ?_
          refine r_ops tabOk 4 0 ?_
          refine run_end ?_
          refine k_keep [(0, 0), (2, 0), (4, 0), (5, 0)] [(2, 0), (4, 0), (5, 0)] ?_
          obtain ⟨e32, h⟩ := of_chk h
          replace F := fct (e32) F
          replace F := fct (sub_b ES true 1 v1 e32) F
          refine k_seq tabOk ?_
          refine tri_block ?_
          obtain ⟨v34, e42, h⟩ := of_bind h
          refine k_loopX (fun (s33 : Int × (List Int)) => ⟨[((0, 0), .val false [.str a0]), ((2, 0), .adr (2, 0) [0]), ((5, 0), .adr (5, 0) [0]), ((68, 0), .win (4, 0) [0] ((3 : Int).toNat) ((v1.length : Int).toNat - (3 : Int).toNat)), ((69, 0), .val false [.int .i64 ((((v1.length : Int).toNat - (3 : Int).toNat) : Nat) : Int)]), ((70, 0), .val false [.int .i64 s33.1])], [⟨(2, 0), false, [.int .i64 (0 : Int), .int .i64 (0 : Int), .int .i64 (0 : Int), .sl true 1 ([] : List Int).length ((EI .i64).L true []), .int .i64 (0 : Int), .int .i64 (0 : Int), .str [], .str [], .str [], .str [], .int .i64 (0 : Int), .bool false]⟩, ⟨(5, 0), false, [.int .i64 (1 : Int), .int .i64 v19.1, .int .i64 v30.1, .sl true 1 (s33.2 : List Int).length ((EI .i64).L true s33.2), .int .i64 v25.f_Kind, .int .i64 v25.f_Ask.f_Kind, .str v25.f_Ask.f_Key, .str v25.f_Ask.f_Val, .str v25.f_Ask.f_Range.f_Lo, .str v25.f_Ask.f_Range.f_Hi, .int .i64 v25.f_Ask.f_Most, .bool v25.f_Ask.f_Back]⟩, ⟨(4, 0), true, [.sl true 1 (v1 : List (List UInt8)).length (ES.L true v1)]⟩], 96, []⟩) 2 (fun (v34 : (List Int)) => ⟨[((0, 0), .val false [.str a0]), ((2, 0), .adr (2, 0) [0]), ((5, 0), .adr (5, 0) [0])], [⟨(2, 0), false, [.int .i64 (0 : Int), .int .i64 (0 : Int), .int .i64 (0 : Int), .sl true 1 ([] : List Int).length ((EI .i64).L true []), .int .i64 (0 : Int), .int .i64 (0 : Int), .str [], .str [], .str [], .str [], .int .i64 (0 : Int), .bool false]⟩, ⟨(5, 0), false, [.int .i64 (1 : Int), .int .i64 v19.1, .int .i64 v30.1, .sl true 1 (v34 : List Int).length ((EI .i64).L true v34), .int .i64 v25.f_Kind, .int .i64 v25.f_Ask.f_Kind, .str v25.f_Ask.f_Key, .str v25.f_Ask.f_Val, .str v25.f_Ask.f_Range.f_Lo, .str v25.f_Ask.f_Range.f_Hi, .int .i64 v25.f_Ask.f_Most, .bool v25.f_Ask.f_Back]⟩], 96, []⟩) e42 ?_ ?_ ?_
          · exact i_to [(0, 0), (2, 0), (5, 0), (68, 0), (69, 0), (70, 0)] [(2, 0), (5, 0), (4, 0)]
          · clear h e42
            intro s33 o35 h
            unfold impl_TextStep_l2 at h
            refine k_seq tabOk ?_
            refine tri_seq ?_
            rcases of_bif h with ⟨e36, h⟩ | ⟨e36, h⟩
            · replace F := fct e36 F
              refine k_then ?_
              refine tri_skip ?_
              refine thn_normal ?_
              refine tri_seq ?_
              refine tri_block ?_
              obtain ⟨x37, e38, h⟩ := of_bind h
              replace F := fct (at_ww ES true 1 1 ((3 : Int).toNat) ((v1.length : Int).toNat - (3 : Int).toNat) e38 (sub_len _ e32)) F
              refine k_seq tabOk ?_
              refine k_runs 7 ?_
              refine r_ops tabOk 1 6 ?_
              obtain ⟨v39, e40, h⟩ := of_bind h
              refine r_call tabOk 5 [.val] (impl_TextNum_good _ e40) ?_
              refine r_mov ?_
              refine r_ops tabOk 4 0 ?_
              refine run_end ?_
              obtain ⟨e41, h⟩ := of_chk h
              replace F := fct (room_iff e41) F
              refine k_one tabOk ?_
              refine inblk_normal ?_
              refine thn_normal ?_
              refine k_one tabOk ?_
              obtain rfl := Option.some.inj h
              exact and_rfl (i_to [(0, 0), (2, 0), (5, 0), (68, 0), (69, 0), (70, 0)] [(2, 0), (5, 0), (4, 0)])
            · replace F := fct e36 F
              refine k_else ?_
              refine tri_exit ?_
              refine thn_exit ?_
              obtain rfl := Option.some.inj h
              exact and_rfl (i_to [(0, 0), (2, 0), (5, 0)] [(2, 0), (5, 0)])
          · refine inblk_here ?_
            refine thn_normal ?_
            refine tri_seq ?_
            obtain ⟨v44, e49, h⟩ := of_bind h
            refine r_join (n := 8) (fun (v44 : Bool) => ⟨[((2, 0), .adr (2, 0) [0]), ((5, 0), .adr (5, 0) [0]), ((93, 0), .val false [.bool v44])], [⟨(2, 0), false, [.int .i64 (0 : Int), .int .i64 (0 : Int), .int .i64 (0 : Int), .sl true 1 ([] : List Int).length ((EI .i64).L true []), .int .i64 (0 : Int), .int .i64 (0 : Int), .str [], .str [], .str [], .str [], .int .i64 (0 : Int), .bool false]⟩, ⟨(5, 0), false, [.int .i64 (1 : Int), .int .i64 v19.1, .int .i64 v30.1, .sl true 1 (v34 : List Int).length ((EI .i64).L true v34), .int .i64 v25.f_Kind, .int .i64 v25.f_Ask.f_Kind, .str v25.f_Ask.f_Key, .str v25.f_Ask.f_Val, .str v25.f_Ask.f_Range.f_Lo, .str v25.f_Ask.f_Range.f_Hi, .int .i64 v25.f_Ask.f_Most, .bool v25.f_Ask.f_Back]⟩], 96, []⟩) v44 ?_ ?_
            · clear h
              have h := e49
              refine r_ops tabOk 4 4 ?_
              rcases of_bif h with ⟨e45, h⟩ | ⟨e45, h⟩
              · replace F := fct e45 F
                refine r_skip 3 1 ?_
                refine r_ops tabOk 1 0 ?_
                refine run_end ?_
                obtain rfl := Option.some.inj h
                exact i_to [(2, 0), (5, 0), (93, 0)] [(2, 0), (5, 0)]
              · replace F := fct e45 F
                obtain ⟨v46, e47, h⟩ := of_bind h
                refine r_call tabOk 3 [.val] (impl_StepText_good _ e47) ?_
                refine r_ops tabOk 3 0 ?_
                refine run_end ?_
                obtain rfl := Option.some.inj h
                exact i_to [(2, 0), (5, 0), (93, 0)] [(2, 0), (5, 0)]
            · rcases of_bif h with ⟨e48, h⟩ | ⟨e48, h⟩
              · replace F := fct e48 F
                refine k_then ?_
                refine k_seq tabOk ?_
                obtain rfl := Option.some.inj h
                refine tri_ret ?_
                exact k_retE
              · replace F := fct e48 F
                refine k_else ?_
                refine tri_skip ?_
                refine thn_normal ?_
                refine k_seq tabOk ?_
                obtain rfl := Option.some.inj h
                refine tri_ret ?_
                exact k_retE
        · replace F := fct e27 F
          refine k_else ?_
          refine tri_skip ?_
          refine thn_normal ?_
          refine tri_seq ?_
          obtain ⟨v50, e55, h⟩ := of_bind h
          refine r_join (n := 8) (fun (v50 : Bool) => ⟨[((2, 0), .adr (2, 0) [0]), ((5, 0), .adr (5, 0) [0]), ((93, 0), .val false [.bool v50])], [⟨(2, 0), false, [.int .i64 (0 : Int), .int .i64 (0 : Int), .int .i64 (0 : Int), .sl true 1 ([] : List Int).length ((EI .i64).L true []), .int .i64 (0 : Int), .int .i64 (0 : Int), .str [], .str [], .str [], .str [], .int .i64 (0 : Int), .bool false]⟩, ⟨(5, 0), false, [.int .i64 (1 : Int), .int .i64 v19.1, .int .i64 (0 : Int), .sl true 1 ([] : List Int).length ((EI .i64).L true []), .int .i64 v25.f_Kind, .int .i64 v25.f_Ask.f_Kind, .str v25.f_Ask.f_Key, .str v25.f_Ask.f_Val, .str v25.f_Ask.f_Range.f_Lo, .str v25.f_Ask.f_Range.f_Hi, .int .i64 v25.f_Ask.f_Most, .bool v25.f_Ask.f_Back]⟩], 96, []⟩) v50 ?_ ?_
          · clear h
            have h := e55
            refine r_ops tabOk 4 4 ?_
            rcases of_bif h with ⟨e51, h⟩ | ⟨e51, h⟩
            · replace F := fct e51 F
              refine r_skip 3 1 ?_
              refine r_ops tabOk 1 0 ?_
              refine run_end ?_
              obtain rfl := Option.some.inj h
              exact i_to [(2, 0), (5, 0), (93, 0)] [(2, 0), (5, 0)]
            · replace F := fct e51 F
              obtain ⟨v52, e53, h⟩ := of_bind h
              refine r_call tabOk 3 [.val] (impl_StepText_good _ e53) ?_
              refine r_ops tabOk 3 0 ?_
              refine run_end ?_
              obtain rfl := Option.some.inj h
              exact i_to [(2, 0), (5, 0), (93, 0)] [(2, 0), (5, 0)]
          · rcases of_bif h with ⟨e54, h⟩ | ⟨e54, h⟩
            · replace F := fct e54 F
              refine k_then ?_
              refine k_seq tabOk ?_
              obtain rfl := Option.some.inj h
              refine tri_ret ?_
              exact k_retE
            · replace F := fct e54 F
              refine k_else ?_
              refine tri_skip ?_
              refine thn_normal ?_
              refine k_seq tabOk ?_
              obtain rfl := Option.some.inj h
              refine tri_ret ?_
              exact k_retE
      · replace F := fct e23 F
        refine k_else ?_
        refine tri_skip ?_
        refine thn_normal ?_
        refine tri_seq ?_
        refine k_keep [(0, 0), (2, 0), (4, 0), (5, 0)] [(2, 0), (4, 0), (5, 0)] ?_
        refine k_seq tabOk ?_
        rcases of_bif h with ⟨e56, h⟩ | ⟨e56, h⟩
        · replace F := fct e56 F
          refine k_then ?_
          refine k_runs 9 ?_
          obtain ⟨x57, e58, h⟩ := of_bind h
          replace F := fct (at_range e58) F
          replace F := fct (at_ow ES true 1 1 e58) F
          refine r_ops tabOk 3 6 ?_
          obtain ⟨v59, e60, h⟩ := of_bind h
          refine r_call tabOk 5 [.val] (impl_TextNum_good _ e60) ?_
          refine r_mov ?_
          refine r_ops tabOk 4 0 ?_
          refine run_end ?_
          obtain ⟨e61, h⟩ := of_chk h
          replace F := fct (e61) F
          replace F := fct (sub_b ES true 1 v1 e61) F
          refine k_seq tabOk ?_
          refine tri_block ?_
          obtain ⟨v63, e71, h⟩ := of_bind h
          refine k_loopX (fun (s62 : Int × (List Int)) => ⟨[((0, 0), .val false [.str a0]), ((2, 0), .adr (2, 0) [0]), ((5, 0), .adr (5, 0) [0]), ((68, 0), .win (4, 0) [0] ((3 : Int).toNat) ((v1.length : Int).toNat - (3 : Int).toNat)), ((69, 0), .val false [.int .i64 ((((v1.length : Int).toNat - (3 : Int).toNat) : Nat) : Int)]), ((70, 0), .val false [.int .i64 s62.1])], [⟨(2, 0), false, [.int .i64 (0 : Int), .int .i64 (0 : Int), .int .i64 (0 : Int), .sl true 1 ([] : List Int).length ((EI .i64).L true []), .int .i64 (0 : Int), .int .i64 (0 : Int), .str [], .str [], .str [], .str [], .int .i64 (0 : Int), .bool false]⟩, ⟨(5, 0), false, [.int .i64 v4, .int .i64 v19.1, .int .i64 v59.1, .sl true 1 (s62.2 : List Int).length ((EI .i64).L true s62.2), .int .i64 (0 : Int), .int .i64 (0 : Int), .str [], .str [], .str [], .str [], .int .i64 (0 : Int), .bool false]⟩, ⟨(4, 0), true, [.sl true 1 (v1 : List (List UInt8)).length (ES.L true v1)]⟩], 96, []⟩) 2 (fun (v63 : (List Int)) => ⟨[((0, 0), .val false [.str a0]), ((2, 0), .adr (2, 0) [0]), ((5, 0), .adr (5, 0) [0])], [⟨(2, 0), false, [.int .i64 (0 : Int), .int .i64 (0 : Int), .int .i64 (0 : Int), .sl true 1 ([] : List Int).length ((EI .i64).L true []), .int .i64 (0 : Int), .int .i64 (0 : Int), .str [], .str [], .str [], .str [], .int .i64 (0 : Int), .bool false]⟩, ⟨(5, 0), false, [.int .i64 v4, .int .i64 v19.1, .int .i64 v59.1, .sl true 1 (v63 : List Int).length ((EI .i64).L true v63), .int .i64 (0 : Int), .int .i64 (0 : Int), .str [], .str [], .str [], .str [], .int .i64 (0 : Int), .bool false]⟩], 96, []⟩) e71 ?_ ?_ ?_
          · exact i_to [(0, 0), (2, 0), (5, 0), (68, 0), (69, 0), (70, 0)] [(2, 0), (5, 0), (4, 0)]
          · clear h e71
            intro s62 o64 h
            unfold impl_TextStep_l3 at h
            refine k_seq tabOk ?_
            refine tri_seq ?_
            rcases of_bif h with ⟨e65, h⟩ | ⟨e65, h⟩
            · replace F := fct e65 F
              refine k_then ?_
              refine tri_skip ?_
              refine thn_normal ?_
              refine tri_seq ?_
              refine tri_block ?_
              obtain ⟨x66, e67, h⟩ := of_bind h
              replace F := fct (at_ww ES true 1 1 ((3 : Int).toNat) ((v1.length : Int).toNat - (3 : Int).toNat) e67 (sub_len _ e61)) F
              refine k_seq tabOk ?_
              refine k_runs 7 ?_
              refine r_ops tabOk 1 6 ?_
              obtain ⟨v68, e69, h⟩ := of_bind h
              refine r_call tabOk 5 [.val] (impl_TextNum_good _ e69) ?_
              refine r_mov ?_
              refine r_ops tabOk 4 0 ?_
              refine run_end ?_
              obtain ⟨e70, h⟩ := of_chk h
              replace F := fct (room_iff e70) F
              refine k_one tabOk ?_
              refine inblk_normal ?_
              refine thn_normal ?_
              refine k_one tabOk ?_
              obtain rfl := Option.some.inj h
              exact and_rfl (i_to [(0, 0), (2, 0), (5, 0), (68, 0), (69, 0), (70, 0)] [(2, 0), (5, 0), (4, 0)])
            · replace F := fct e65 F
              refine k_else ?_
              refine tri_exit ?_
              refine thn_exit ?_
              obtain rfl := Option.some.inj h
              exact and_rfl (i_to [(0, 0), (2, 0), (5, 0)] [(2, 0), (5, 0)])
          · refine inblk_here ?_
            refine thn_normal ?_
            refine tri_seq ?_
            obtain ⟨v73, e78, h⟩ := of_bind h
            refine r_join (n := 8) (fun (v73 : Bool) => ⟨[((2, 0), .adr (2, 0) [0]), ((5, 0), .adr (5, 0) [0]), ((93, 0), .val false [.bool v73])], [⟨(2, 0), false, [.int .i64 (0 : Int), .int .i64 (0 : Int), .int .i64 (0 : Int), .sl true 1 ([] : List Int).length ((EI .i64).L true []), .int .i64 (0 : Int), .int .i64 (0 : Int), .str [], .str [], .str [], .str [], .int .i64 (0 : Int), .bool false]⟩, ⟨(5, 0), false, [.int .i64 v4, .int .i64 v19.1, .int .i64 v59.1, .sl true 1 (v63 : List Int).length ((EI .i64).L true v63), .int .i64 (0 : Int), .int .i64 (0 : Int), .str [], .str [], .str [], .str [], .int .i64 (0 : Int), .bool false]⟩], 96, []⟩) v73 ?_ ?_
            · clear h
              have h := e78
              refine r_ops tabOk 4 4 ?_
              rcases of_bif h with ⟨e74, h⟩ | ⟨e74, h⟩
              · replace F := fct e74 F
                refine r_skip 3 1 ?_
                refine r_ops tabOk 1 0 ?_
                refine run_end ?_
                obtain rfl := Option.some.inj h
                exact i_to [(2, 0), (5, 0), (93, 0)] [(2, 0), (5, 0)]
              · replace F := fct e74 F
                obtain ⟨v75, e76, h⟩ := of_bind h
                refine r_call tabOk 3 [.val] (impl_StepText_good _ e76) ?_
                refine r_ops tabOk 3 0 ?_
                refine run_end ?_
                obtain rfl := Option.some.inj h
                exact i_to [(2, 0), (5, 0), (93, 0)] [(2, 0), (5, 0)]
            · rcases of_bif h with ⟨e77, h⟩ | ⟨e77, h⟩
              · replace F := fct e77 F
                refine k_then ?_
                refine k_seq tabOk ?_
                obtain rfl := Option.some.inj h
                refine tri_ret ?_
                exact k_retE
              · replace F := fct e77 F
                refine k_else ?_
                refine tri_skip ?_
                refine thn_normal ?_
                refine k_seq tabOk ?_
                obtain rfl := Option.some.inj h
                refine tri_ret ?_
                exact k_retE
        · replace F := fct e56 F
          refine k_else ?_
          refine tri_skip ?_
          refine thn_normal ?_
          refine tri_seq ?_
          obtain ⟨v79, e84, h⟩ := of_bind h
          refine r_join (n := 8) (fun (v79 : Bool) => ⟨[((2, 0), .adr (2, 0) [0]), ((5, 0), .adr (5, 0) [0]), ((93, 0), .val false [.bool v79])], [⟨(2, 0), false, [.int .i64 (0 : Int), .int .i64 (0 : Int), .int .i64 (0 : Int), .sl true 1 ([] : List Int).length ((EI .i64).L true []), .int .i64 (0 : Int), .int .i64 (0 : Int), .str [], .str [], .str [], .str [], .int .i64 (0 : Int), .bool false]⟩, ⟨(5, 0), false, [.int .i64 v4, .int .i64 v19.1, .int .i64 (0 : Int), .sl true 1 ([] : List Int).length ((EI .i64).L true []), .int .i64 (0 : Int), .int .i64 (0 : Int), .str [], .str [], .str [], .str [], .int .i64 (0 : Int), .bool false]⟩], 96, []⟩) v79 ?_ ?_
          · clear h
            have h := e84
            refine r_ops tabOk 4 4 ?_
            rcases of_bif h with ⟨e80, h⟩ | ⟨e80, h⟩
            · replace F := fct e80 F
              refine r_skip 3 1 ?_
              refine r_ops tabOk 1 0 ?_
              refine run_end ?_
              obtain rfl := Option.some.inj h
              exact i_to [(2, 0), (5, 0), (93, 0)] [(2, 0), (5, 0)]
            · replace F := fct e80 F
              obtain ⟨v81, e82, h⟩ := of_bind h
              refine r_call tabOk 3 [.val] (impl_StepText_good _ e82) ?_
              refine r_ops tabOk 3 0 ?_
              refine run_end ?_
              obtain rfl := Option.some.inj h
              exact i_to [(2, 0), (5, 0), (93, 0)] [(2, 0), (5, 0)]
          · rcases of_bif h with ⟨e83, h⟩ | ⟨e83, h⟩
            · replace F := fct e83 F
              refine k_then ?_
              refine k_seq tabOk ?_
              obtain rfl := Option.some.inj h
              refine tri_ret ?_
              exact k_retE
            · replace F := fct e83 F
              refine k_else ?_
              refine tri_skip ?_
              refine thn_normal ?_
              refine k_seq tabOk ?_
              obtain rfl := Option.some.inj h
              refine tri_ret ?_
              exact k_retE
    · replace F := fct e16 F
      refine k_else ?_
      refine tri_skip ?_
      refine thn_normal ?_
      refine tri_seq ?_
      obtain ⟨x85, e86, h⟩ := of_bind h
      replace F := fct (at_range e86) F
      replace F := fct (at_ow ES true 1 1 e86) F
      refine k_seq tabOk ?_
      rcases of_bif h with ⟨e87, h⟩ | ⟨e87, h⟩
      · replace F := fct e87 F
        refine k_then ?_
        refine k_seq tabOk ?_
        refine k_run1 5 ?_
        obtain ⟨e88, h⟩ := of_chk h
        replace F := fct (e88) F
        replace F := fct (sub_b ES true 1 v1 e88) F
        refine r_ops tabOk 2 3 ?_
        obtain ⟨v89, e90, h⟩ := of_bind h
        refine r_call tabOk 2 [.val] (impl_textCall_good _ e90) ?_
        refine r_ops tabOk 2 0 ?_
        refine run_end ?_
        refine thn_normal ?_
        refine tri_seq ?_
        refine k_seq tabOk ?_
        rcases of_bif h with ⟨e91, h⟩ | ⟨e91, h⟩
        · replace F := fct e91 F
          refine k_then ?_
          refine k_keep [(0, 0), (2, 0), (4, 0), (5, 0)] [(2, 0), (4, 0), (5, 0)] ?_
          refine k_runs 9 ?_
          obtain ⟨x92, e93, h⟩ := of_bind h
          replace F := fct (at_range e93) F
          replace F := fct (at_ow ES true 1 1 e93) F
          refine r_ops tabOk 3 6 ?_
          obtain ⟨v94, e95, h⟩ := of_bind h
          refine r_call tabOk 5 [.val] (impl_TextNum_good _ e95) ?_
          refine r_mov ?_
          refine r_ops tabOk 4 0 ?_
          refine run_end ?_
          obtain ⟨e96, h⟩ := of_chk h
          replace F := fct (e96) F
          replace F := fct (sub_b ES true 1 v1 e96) F
          refine k_seq tabOk ?_
          refine tri_block ?_
          obtain ⟨v98, e106, h⟩ := of_bind h
          refine k_loopX (fun (s97 : Int × (List Int)) => ⟨[((0, 0), .val false [.str a0]), ((2, 0), .adr (2, 0) [0]), ((5, 0), .adr (5, 0) [0]), ((68, 0), .win (4, 0) [0] ((3 : Int).toNat) ((v1.length : Int).toNat - (3 : Int).toNat)), ((69, 0), .val false [.int .i64 ((((v1.length : Int).toNat - (3 : Int).toNat) : Nat) : Int)]), ((70, 0), .val false [.int .i64 s97.1])], [⟨(2, 0), false, [.int .i64 (0 : Int), .int .i64 (0 : Int), .int .i64 (0 : Int), .sl true 1 ([] : List Int).length ((EI .i64).L true []), .int .i64 (0 : Int), .int .i64 (0 : Int), .str [], .str [], .str [], .str [], .int .i64 (0 : Int), .bool false]⟩, ⟨(5, 0), false, [.int .i64 (1 : Int), .int .i64 (0 : Int), .int .i64 v94.1, .sl true 1 (s97.2 : List Int).length ((EI .i64).L true s97.2), .int .i64 v89.f_Kind, .int .i64 v89.f_Ask.f_Kind, .str v89.f_Ask.f_Key, .str v89.f_Ask.f_Val, .str v89.f_Ask.f_Range.f_Lo, .str v89.f_Ask.f_Range.f_Hi, .int .i64 v89.f_Ask.f_Most, .bool v89.f_Ask.f_Back]⟩, ⟨(4, 0), true, [.sl true 1 (v1 : List (List UInt8)).length (ES.L true v1)]⟩], 96, []⟩) 2 (fun (v98 : (List Int)) => ⟨[((0, 0), .val false [.str a0]), ((2, 0), .adr (2, 0) [0]), ((5, 0), .adr (5, 0) [0])], [⟨(2, 0), false, [.int .i64 (0 : Int), .int .i64 (0 : Int), .int .i64 (0 : Int), .sl true 1 ([] : List Int).length ((EI .i64).L true []), .int .i64 (0 : Int), .int .i64 (0 : Int), .str [], .str [], .str [], .str [], .int .i64 (0 : Int), .bool false]⟩, ⟨(5, 0), false, [.int .i64 (1 : Int), .int .i64 (0 : Int), .int .i64 v94.1, .sl true 1 (v98 : List Int).length ((EI .i64).L true v98), .int .i64 v89.f_Kind, .int .i64 v89.f_Ask.f_Kind, .str v89.f_Ask.f_Key, .str v89.f_Ask.f_Val, .str v89.f_Ask.f_Range.f_Lo, .str v89.f_Ask.f_Range.f_Hi, .int .i64 v89.f_Ask.f_Most, .bool v89.f_Ask.f_Back]⟩], 96, []⟩) e106 ?_ ?_ ?_
          · exact i_to [(0, 0), (2, 0), (5, 0), (68, 0), (69, 0), (70, 0)] [(2, 0), (5, 0), (4, 0)]
          · clear h e106
            intro s97 o99 h
            unfold impl_TextStep_l4 at h
            refine k_seq tabOk ?_
            refine tri_seq ?_
            rcases of_bif h with ⟨e100, h⟩ | ⟨e100, h⟩
            · replace F := fct e100 F
              refine k_then ?_
              refine tri_skip ?_
              refine thn_normal ?_
              refine tri_seq ?_
              refine tri_block ?_
              obtain ⟨x101, e102, h⟩ := of_bind h
              replace F := fct (at_ww ES true 1 1 ((3 : Int).toNat) ((v1.length : Int).toNat - (3 : Int).toNat) e102 (sub_len _ e96)) F
              refine k_seq tabOk ?_
              refine k_runs 7 ?_
              refine r_ops tabOk 1 6 ?_
              obtain ⟨v103, e104, h⟩ := of_bind h
              refine r_call tabOk 5 [.val] (impl_TextNum_good _ e104) ?_
              refine r_mov ?_
              refine r_ops tabOk 4 0 ?_
              refine run_end ?_
              obtain ⟨e105, h⟩ := of_chk h
              replace F := fct (room_iff e105) F
              refine k_one tabOk ?_
              refine inblk_normal ?_
              refine thn_normal ?_
              refine k_one tabOk ?_
              obtain rfl := Option.some.inj h
              exact and_rfl (i_to [(0, 0), (2, 0), (5, 0), (68, 0), (69, 0), (70, 0)] [(2, 0), (5, 0), (4, 0)])
            · replace F := fct e100 F
              refine k_else ?_
              refine tri_exit ?_
              refine thn_exit ?_
              obtain rfl := Option.some.inj h
              exact and_rfl (i_to [(0, 0), (2, 0), (5, 0)] [(2, 0), (5, 0)])
          · refine inblk_here ?_
            refine thn_normal ?_
            refine tri_seq ?_
            obtain ⟨v108, e113, h⟩ := of_bind h
            refine r_join (n := 8) (fun (v108 : Bool) => ⟨[((2, 0), .adr (2, 0) [0]), ((5, 0), .adr (5, 0) [0]), ((93, 0), .val false [.bool v108])], [⟨(2, 0), false, [.int .i64 (0 : Int), .int .i64 (0 : Int), .int .i64 (0 : Int), .sl true 1 ([] : List Int).length ((EI .i64).L true []), .int .i64 (0 : Int), .int .i64 (0 : Int), .str [], .str [], .str [], .str [], .int .i64 (0 : Int), .bool false]⟩, ⟨(5, 0), false, [.int .i64 (1 : Int), .int .i64 (0 : Int), .int .i64 v94.1, .sl true 1 (v98 : List Int).length ((EI .i64).L true v98), .int .i64 v89.f_Kind, .int .i64 v89.f_Ask.f_Kind, .str v89.f_Ask.f_Key, .str v89.f_Ask.f_Val, .str v89.f_Ask.f_Range.f_Lo, .str v89.f_Ask.f_Range.f_Hi, .int .i64 v89.f_Ask.f_Most, .bool v89.f_Ask.f_Back]⟩], 96, []⟩) v108 ?_ ?_
            · clear h
              have h := e113
              refine r_ops tabOk 4 4 ?_
              rcases of_bif h with ⟨e109, h⟩ | ⟨e109, h⟩
              · replace F := fct e109 F
                refine r_skip 3 1 ?_
                refine r_ops tabOk 1 0 ?_
                refine run_end ?_
                obtain rfl := Option.some.inj h
                exact i_to [(2, 0), (5, 0), (93, 0)] [(2, 0), (5, 0)]
              · replace F := fct e109 F
                obtain ⟨v110, e111, h⟩ := of_bind h
                refine r_call tabOk 3 [.val] (impl_StepText_good _ e111) ?_
                refine r_ops tabOk 3 0 ?_
                refine run_end ?_
                obtain rfl := Option.some.inj h
                exact i_to [(2, 0), (5, 0), (93, 0)] [(2, 0), (5, 0)]
            · rcases of_bif h with ⟨e112, h⟩ | ⟨e112, h⟩
              · replace F := fct e112 F
                refine k_then ?_
                refine k_seq tabOk ?_
                obtain rfl := Option.some.inj h
                refine tri_ret ?_
                exact k_retE
              · replace F := fct e112 F
                refine k_else ?_
                refine tri_skip ?_
                refine thn_normal ?_
                refine k_seq tabOk ?_
                obtain rfl := Option.some.inj h
                refine tri_ret ?_
                exact k_retE
        · replace F := fct e91 F
          refine k_else ?_
          refine tri_skip ?_
          refine thn_normal ?_
          refine tri_seq ?_
          refine k_keep [(0, 0), (2, 0), (5, 0)] [(2, 0), (5, 0)] ?_
          obtain ⟨v114, e119, h⟩ := of_bind h
          refine r_join (n := 8) (fun (v114 : Bool) => ⟨[((2, 0), .adr (2, 0) [0]), ((5, 0), .adr (5, 0) [0]), ((93, 0), .val false [.bool v114])], [⟨(2, 0), false, [.int .i64 (0 : Int), .int .i64 (0 : Int), .int .i64 (0 : Int), .sl true 1 ([] : List Int).length ((EI .i64).L true []), .int .i64 (0 : Int), .int .i64 (0 : Int), .str [], .str [], .str [], .str [], .int .i64 (0 : Int), .bool false]⟩, ⟨(5, 0), false, [.int .i64 (1 : Int), .int .i64 (0 : Int), .int .i64 (0 : Int), .sl true 1 ([] : List Int).length ((EI .i64).L true []), .int .i64 v89.f_Kind, .int .i64 v89.f_Ask.f_Kind, .str v89.f_Ask.f_Key, .str v89.f_Ask.f_Val, .str v89.f_Ask.f_Range.f_Lo, .str v89.f_Ask.f_Range.f_Hi, .int .i64 v89.f_Ask.f_Most, .bool v89.f_Ask.f_Back]⟩], 96, []⟩) v114 ?_ ?_
          · clear h
            have h := e119
            refine r_ops tabOk 4 4 ?_
            rcases of_bif h with ⟨e115, h⟩ | ⟨e115, h⟩
            · replace F := fct e115 F
              refine r_skip 3 1 ?_
              refine r_ops tabOk 1 0 ?_
              refine run_end ?_
              obtain rfl := Option.some.inj h
              exact i_to [(2, 0), (5, 0), (93, 0)] [(2, 0), (5, 0)]
            · replace F := fct e115 F
              obtain ⟨v116, e117, h⟩ := of_bind h
              refine r_call tabOk 3 [.val] (impl_StepText_good _ e117) ?_
              refine r_ops tabOk 3 0 ?_
              refine run_end ?_
              obtain rfl := Option.some.inj h
              exact i_to [(2, 0), (5, 0), (93, 0)] [(2, 0), (5, 0)]
          · rcases of_bif h with ⟨e118, h⟩ | ⟨e118, h⟩
            · replace F := fct e118 F
              refine k_then ?_
              refine k_seq tabOk ?_
              obtain rfl := Option.some.inj h
              refine tri_ret ?_
              exact k_retE
            · replace F := fct e118 F
              refine k_else ?_
              refine tri_skip ?_
              refine thn_normal ?_
              refine k_seq tabOk ?_
              obtain rfl := Option.some.inj h
              refine tri_ret ?_
              exact k_retE
      · replace F := fct e87 F
        refine k_else ?_
        refine tri_skip ?_
        refine thn_normal ?_
        refine tri_seq ?_
        refine k_seq tabOk ?_
        rcases of_bif h with ⟨e120, h⟩ | ⟨e120, h⟩
        · replace F := fct e120 F
          refine k_then ?_
          refine k_keep [(0, 0), (2, 0), (4, 0), (5, 0)] [(2, 0), (4, 0), (5, 0)] ?_
          refine k_runs 9 ?_
          obtain ⟨x121, e122, h⟩ := of_bind h
          replace F := fct (at_range e122) F
          replace F := fct (at_ow ES true 1 1 e122) F
          refine r_ops tabOk 3 6 ?_
          obtain ⟨v123, e124, h⟩ := of_bind h
          refine r_call tabOk 5 [.val] (impl_TextNum_good _ e124) ?_
          refine r_mov ?_
          refine r_ops tabOk 4 0 ?_
          refine run_end ?_
          obtain ⟨e125, h⟩ := of_chk h
          replace F := fct (e125) F
          replace F := fct (sub_b ES true 1 v1 e125) F
          refine k_seq tabOk ?_
          refine tri_block ?_
          obtain ⟨v127, e135, h⟩ := of_bind h
          refine k_loopX (fun (s126 : Int × (List Int)) => ⟨[((0, 0), .val false [.str a0]), ((2, 0), .adr (2, 0) [0]), ((5, 0), .adr (5, 0) [0]), ((68, 0), .win (4, 0) [0] ((3 : Int).toNat) ((v1.length : Int).toNat - (3 : Int).toNat)), ((69, 0), .val false [.int .i64 ((((v1.length : Int).toNat - (3 : Int).toNat) : Nat) : Int)]), ((70, 0), .val false [.int .i64 s126.1])], [⟨(2, 0), false, [.int .i64 (0 : Int), .int .i64 (0 : Int), .int .i64 (0 : Int), .sl true 1 ([] : List Int).length ((EI .i64).L true []), .int .i64 (0 : Int), .int .i64 (0 : Int), .str [], .str [], .str [], .str [], .int .i64 (0 : Int), .bool false]⟩, ⟨(5, 0), false, [.int .i64 v4, .int .i64 (0 : Int), .int .i64 v123.1, .sl true 1 (s126.2 : List Int).length ((EI .i64).L true s126.2), .int .i64 (0 : Int), .int .i64 (0 : Int), .str [], .str [], .str [], .str [], .int .i64 (0 : Int), .bool false]⟩, ⟨(4, 0), true, [.sl true 1 (v1 : List (List UInt8)).length (ES.L true v1)]⟩], 96, []⟩) 2 (fun (v127 : (List Int)) => ⟨[((0, 0), .val false [.str a0]), ((2, 0), .adr (2, 0) [0]), ((5, 0), .adr (5, 0) [0])], [⟨(2, 0), false, [.int .i64 (0 : Int), .int .i64 (0 : Int), .int .i64 (0 : Int), .sl true 1 ([] : List Int).length ((EI .i64).L true []), .int .i64 (0 : Int), .int .i64 (0 : Int), .str [], .str [], .str [], .str [], .int .i64 (0 : Int), .bool false]⟩, ⟨(5, 0), false, [.int .i64 v4, .int .i64 (0 : Int), .int .i64 v123.1, .sl true 1 (v127 : List Int).length ((EI .i64).L true v127), .int .i64 (0 : Int), .int .i64 (0 : Int), .str [], .str [], .str [], .str [], .int .i64 (0 : Int), .bool false]⟩], 96, []⟩) e135 ?_ ?_ ?_
          · exact i_to [(0, 0), (2, 0), (5, 0), (68, 0), (69, 0), (70, 0)] [(2, 0), (5, 0), (4, 0)]
          · clear h e135
            intro s126 o128 h
            unfold impl_TextStep_l5 at h
            refine k_seq tabOk ?_
            refine tri_seq ?_
            rcases of_bif h with ⟨e129, h⟩ | ⟨e129, h⟩
            · replace F := fct e129 F
              refine k_then ?_
              refine tri_skip ?_
              refine thn_normal ?_
              refine tri_seq ?_
              refine tri_block ?_
              obtain ⟨x130, e131, h⟩ := of_bind h
              replace F := fct (at_ww ES true 1 1 ((3 : Int).toNat) ((v1.length : Int).toNat - (3 : Int).toNat) e131 (sub_len _ e125)) F
              refine k_seq tabOk ?_
              refine k_runs 7 ?_
              refine r_ops tabOk 1 6 ?_
              obtain ⟨v132, e133, h⟩ := of_bind h
              refine r_call tabOk 5 [.val] (impl_TextNum_good _ e133) ?_
              refine r_mov ?_
              refine r_ops tabOk 4 0 ?_
              refine run_end ?_
              obtain ⟨e134, h⟩ := of_chk h
              replace F := fct (room_iff e134) F
              refine k_one tabOk ?_
              refine inblk_normal ?_
              refine thn_normal ?_
              refine k_one tabOk ?_
              obtain rfl := Option.some.inj h
              exact and_rfl (i_to [(0, 0), (2, 0), (5, 0), (68, 0), (69, 0), (70, 0)] [(2, 0), (5, 0), (4, 0)])
            · replace F := fct e129 F
              refine k_else ?_
              refine tri_exit ?_
              refine thn_exit ?_
              obtain rfl := Option.some.inj h
              exact and_rfl (i_to [(0, 0), (2, 0), (5, 0)] [(2, 0), (5, 0)])
          · refine inblk_here ?_
            refine thn_normal ?_
            refine tri_seq ?_
            obtain ⟨v137, e142, h⟩ := of_bind h
            refine r_join (n := 8) (fun (v137 : Bool) => ⟨[((2, 0), .adr (2, 0) [0]), ((5, 0), .adr (5, 0) [0]), ((93, 0), .val false [.bool v137])], [⟨(2, 0), false, [.int .i64 (0 : Int), .int .i64 (0 : Int), .int .i64 (0 : Int), .sl true 1 ([] : List Int).length ((EI .i64).L true []), .int .i64 (0 : Int), .int .i64 (0 : Int), .str [], .str [], .str [], .str [], .int .i64 (0 : Int), .bool false]⟩, ⟨(5, 0), false, [.int .i64 v4, .int .i64 (0 : Int), .int .i64 v123.1, .sl true 1 (v127 : List Int).length ((EI .i64).L true v127), .int .i64 (0 : Int), .int .i64 (0 : Int), .str [], .str [], .str [], .str [], .int .i64 (0 : Int), .bool false]⟩], 96, []⟩) v137 ?_ ?_
            · clear h
              have h := e142
              refine r_ops tabOk 4 4 ?_
              rcases of_bif h with ⟨e138, h⟩ | ⟨e138, h⟩
              · replace F := fct e138 F
                refine r_skip 3 1 ?_
                refine r_ops tabOk 1 0 ?_
                refine run_end ?_
                obtain rfl := Option.some.inj h
                exact i_to [(2, 0), (5, 0), (93, 0)] [(2, 0), (5, 0)]
              · replace F := fct e138 F
                obtain ⟨v139, e140, h⟩ := of_bind h
                refine r_call tabOk 3 [.val] (impl_StepText_good _ e140) ?_
                refine r_ops tabOk 3 0 ?_
                refine run_end ?_
                obtain rfl := Option.some.inj h
                exact i_to [(2, 0), (5, 0), (93, 0)] [(2, 0), (5, 0)]
            · rcases of_bif h with ⟨e141, h⟩ | ⟨e141, h⟩
              · replace F := fct e141 F
                refine k_then ?_
                refine k_seq tabOk ?_
                obtain rfl := Option.some.inj h
                refine tri_ret ?_
                exact k_retE
              · replace F := fct e141 F
                refine k_else ?_
                refine tri_skip ?_
                refine thn_normal ?_
                refine k_seq tabOk ?_
                obtain rfl := Option.some.inj h
                refine tri_ret ?_
                exact k_retE
        · replace F := fct e120 F
          refine k_else ?_
          refine tri_skip ?_
          refine thn_normal ?_
          refine tri_seq ?_
          refine k_keep [(0, 0), (2, 0), (5, 0)] [(2, 0), (5, 0)] ?_
          obtain ⟨v143, e148, h⟩ := of_bind h
          refine r_join (n := 8) (fun (v143 : Bool) => ⟨[((2, 0), .adr (2, 0) [0]), ((5, 0), .adr (5, 0) [0]), ((93, 0), .val false [.bool v143])], [⟨(2, 0), false, [.int .i64 (0 : Int), .int .i64 (0 : Int), .int .i64 (0 : Int), .sl true 1 ([] : List Int).length ((EI .i64).L true []), .int .i64 (0 : Int), .int .i64 (0 : Int), .str [], .str [], .str [], .str [], .int .i64 (0 : Int), .bool false]⟩, ⟨(5, 0), false, [.int .i64 v4, .int .i64 (0 : Int), .int .i64 (0 : Int), .sl true 1 ([] : List Int).length ((EI .i64).L true []), .int .i64 (0 : Int), .int .i64 (0 : Int), .str [], .str [], .str [], .str [], .int .i64 (0 : Int), .bool false]⟩], 96, []⟩) v143 ?_ ?_
          · clear h
            have h := e148
            refine r_ops tabOk 4 4 ?_
            rcases of_bif h with ⟨e144, h⟩ | ⟨e144, h⟩
            · replace F := fct e144 F
              refine r_skip 3 1 ?_
              refine r_ops tabOk 1 0 ?_
              refine run_end ?_
              obtain rfl := Option.some.inj h
              exact i_to [(2, 0), (5, 0), (93, 0)] [(2, 0), (5, 0)]
            · replace F := fct e144 F
              obtain ⟨v145, e146, h⟩ := of_bind h
              refine r_call tabOk 3 [.val] (impl_StepText_good _ e146) ?_
              refine r_ops tabOk 3 0 ?_
              refine run_end ?_
              obtain rfl := Option.some.inj h
              exact i_to [(2, 0), (5, 0), (93, 0)] [(2, 0), (5, 0)]
          · rcases of_bif h with ⟨e147, h⟩ | ⟨e147, h⟩
            · replace F := fct e147 F
              refine k_then ?_
              refine k_seq tabOk ?_
              obtain rfl := Option.some.inj h
              refine tri_ret ?_
              exact k_retE
            · replace F := fct e147 F
              refine k_else ?_
              refine tri_skip ?_
              refine thn_normal ?_
              refine k_seq tabOk ?_
              obtain rfl := Option.some.inj h
              refine tri_ret ?_
              exact k_retE

noncomputable def laws_eqIntS_l1 (a0 : List Int) (a1 : List Int) (s2 : Int) : Option ((Int) ⊕ ((Unit) ⊕ (Bool))) :=
  (bif (decide (s2 < (a0.length : Int))) then ((at? a0 s2).bind fun x6 => ((at? a1 s2).bind fun x8 => (bif (x6 != x8) then (some (Sum.inr (Sum.inr false))) else (some (Sum.inl (IntKind.i64.wrap (s2 + (1 : Int)))))))) else (some (Sum.inr (Sum.inl ()))))
noncomputable def laws_eqIntS (a0 : List Int) (a1 : List Int) : Option (Bool) :=
  (bif ((a0.length : Int) != (a1.length : Int)) then (some false) else (Option.bind (loopC (laws_eqIntS_l1 a0 a1) (0 : Int)) (early fun (v3 : Unit) => (some true))))
theorem laws_eqIntS_good (a0 : List Int) (a1 : List Int) {r : Bool} (h : laws_eqIntS a0 a1 = some r) : GoodD Tryd.prog 25 [.val false ((EL (EI .i64) 1).row false a0), .val false ((EL (EI .i64) 1).row false a1)] [(false, EB.row false r)] [[], []] := by
  have F : True := trivial
  unfold laws_eqIntS at h
  refine good_body tabOk 26 [.tmp 4] Tryd.func25 rfl rfl rfl rfl ?_
  refine k_seq tabOk ?_
  refine tri_seq ?_
  refine k_seq tabOk ?_
  rcases of_bif h with ⟨e1, h⟩ | ⟨e1, h⟩
  · replace F := fct e1 F
    refine k_then ?_
    refine k_seq tabOk ?_
    obtain rfl := Option.some.inj h
    refine tri_ret ?_
    exact k_retE
  · replace F := fct e1 F
    refine k_else ?_
    refine tri_skip ?_
    refine thn_normal ?_
    refine tri_seq ?_
    refine k_seq tabOk ?_
    refine tri_block ?_
    obtain ⟨o13, e11, h⟩ := of_bind h
    refine k_loopE (fun (s2 : Int) => ⟨[((0, 0), .val false [.sl false 1 (a0 : List Int).length ((EI .i64).L false a0)]), ((1, 0), .val false [.sl false 1 (a1 : List Int).length ((EI .i64).L false a1)]), ((5, 0), .val false [.int .i64 s2])], [], 26, []⟩) 0 (fun (v3 : Unit) => ⟨[], [], 26, []⟩) r e11 ?_ ?_ (fun _ e12 => early_r h e12) (fun v3 e12 => ?_)
    · exact i_to [(0, 0), (1, 0), (5, 0)] []
    · clear h e11
      intro s2 o4 h
      unfold laws_eqIntS_l1 at h
      refine tri_seq ?_
      refine k_seq tabOk ?_
      rcases of_bif h with ⟨e5, h⟩ | ⟨e5, h⟩
      · replace F := fct e5 F
        refine k_then ?_
        refine tri_skip ?_
        refine thn_normal ?_
        refine tri_seq ?_
        refine tri_block ?_
        refine k_draw mixed 9 ?_
        refine d_begin [[], [], [1, 0], [0, 1, 2], [], [], [5, 4], [4, 5, 6], [6, 5, 4, 7, 2, 1, 0, 3]] ?_
        intro acc
        replace acc := a_q tabOk 0 [] acc
        replace acc := a_q tabOk 1 [] acc
        obtain ⟨x6, e7, h⟩ := of_bind h
        replace F := fct (at_range e7) F
        replace acc := a_q tabOk 2 [0, 1] acc
        replace F := fct (at_fs (EI .i64) false 1 [] 1 e7) F
        replace acc := a_q tabOk 3 [0, 1, 2] acc
        replace acc := a_q tabOk 4 [] acc
        replace acc := a_q tabOk 5 [] acc
        obtain ⟨x8, e9, h⟩ := of_bind h
        replace F := fct (at_range e9) F
        replace acc := a_q tabOk 6 [4, 5] acc
        replace F := fct (at_fs (EI .i64) false 1 [] 1 e9) F
        replace acc := a_q tabOk 7 [4, 5, 6] acc
        replace acc := a_q tabOk 8 [0, 1, 2, 3, 4, 5, 6, 7] acc
        refine d_tail [] acc ?_
        clear acc
        refine d_done ?_
        rcases of_bif h with ⟨e10, h⟩ | ⟨e10, h⟩
        · replace F := fct e10 F
          refine k_then ?_
          refine k_seq tabOk ?_
          obtain rfl := Option.some.inj h
          refine tri_ret ?_
          refine q_ret (fun e => ?_)
          subst e
          exact k_retE
        · replace F := fct e10 F
          refine k_else ?_
          refine tri_skip ?_
          refine inblk_normal ?_
          refine thn_normal ?_
          refine k_one tabOk ?_
          obtain rfl := Option.some.inj h
          exact and_rfl (i_to [(0, 0), (1, 0), (5, 0)] [])
      · replace F := fct e5 F
        refine k_else ?_
        refine tri_exit ?_
        refine thn_exit ?_
        obtain rfl := Option.some.inj h
        exact and_rfl (i_to [] [])
    · replace h := early_l h e12
      refine inblk_here ?_
      refine thn_normal ?_
      refine k_seq tabOk ?_
      obtain rfl := Option.some.inj h
      refine tri_ret ?_
      exact k_retE

noncomputable def laws_eqRange (a0 : S_impl_Range) (a1 : S_impl_Range) : Option (Bool) :=
  (bif (!(a0.f_Lo == a1.f_Lo)) then (some false) else (bif (!(a0.f_Hi == a1.f_Hi)) then (some false) else (some true)))
theorem laws_eqRange_good (a0 : S_impl_Range) (a1 : S_impl_Range) {r : Bool} (h : laws_eqRange a0 a1 = some r) : GoodD Tryd.prog 61 [.val true (E_impl_Range.row false a0), .val true (E_impl_Range.row false a1)] [(false, EB.row false r)] [[], []] := by
  have F : True := trivial
  unfold laws_eqRange at h
  refine good_body tabOk 15 [.tmp 4] Tryd.func61 rfl rfl rfl rfl ?_
  refine k_seq tabOk ?_
  refine tri_seq ?_
  refine k_seq tabOk ?_
  rcases of_bif h with ⟨e1, h⟩ | ⟨e1, h⟩
  · replace F := fct e1 F
    refine k_then ?_
    refine k_seq tabOk ?_
    obtain rfl := Option.some.inj h
    refine tri_ret ?_
    exact k_retE
  · replace F := fct e1 F
    refine k_else ?_
    refine tri_skip ?_
    refine thn_normal ?_
    refine tri_seq ?_
    refine k_seq tabOk ?_
    rcases of_bif h with ⟨e2, h⟩ | ⟨e2, h⟩
    · replace F := fct e2 F
      refine k_then ?_
      refine k_seq tabOk ?_
      obtain rfl := Option.some.inj h
      refine tri_ret ?_
      exact k_retE
    · replace F := fct e2 F
      refine k_else ?_
      refine tri_skip ?_
      refine thn_normal ?_
      refine k_seq tabOk ?_
      obtain rfl := Option.some.inj h
      refine tri_ret ?_
      exact k_retE

noncomputable def laws_eqAsk (a0 : S_impl_Ask) (a1 : S_impl_Ask) : Option (Bool) :=
  (bif (a0.f_Kind != a1.f_Kind) then (some false) else (bif (!(a0.f_Key == a1.f_Key)) then (some false) else (bif (!(a0.f_Val == a1.f_Val)) then (some false) else ((laws_eqRange a0.f_Range a1.f_Range).bind fun v4 => (bif (!v4) then (some false) else (bif (a0.f_Most != a1.f_Most) then (some false) else (bif (!(a0.f_Back == a1.f_Back)) then (some false) else (some true))))))))
theorem laws_eqAsk_good (a0 : S_impl_Ask) (a1 : S_impl_Ask) {r : Bool} (h : laws_eqAsk a0 a1 = some r) : GoodD Tryd.prog 46 [.val true (E_impl_Ask.row false a0), .val true (E_impl_Ask.row false a1)] [(false, EB.row false r)] [[], []] := by
  have F : True := trivial
  unfold laws_eqAsk at h
  refine good_body tabOk 36 [.tmp 4] Tryd.func46 rfl rfl rfl rfl ?_
  refine k_seq tabOk ?_
  refine tri_seq ?_
  refine k_seq tabOk ?_
  rcases of_bif h with ⟨e1, h⟩ | ⟨e1, h⟩
  · replace F := fct e1 F
    refine k_then ?_
    refine k_seq tabOk ?_
    obtain rfl := Option.some.inj h
    refine tri_ret ?_
    exact k_retE
  · replace F := fct e1 F
    refine k_else ?_
    refine tri_skip ?_
    refine thn_normal ?_
    refine tri_seq ?_
    refine k_seq tabOk ?_
    rcases of_bif h with ⟨e2, h⟩ | ⟨e2, h⟩
    · replace F := fct e2 F
      refine k_then ?_
      refine k_seq tabOk ?_
      obtain rfl := Option.some.inj h
      refine tri_ret ?_
      exact k_retE
    · replace F := fct e2 F
      refine k_else ?_
      refine tri_skip ?_
      refine thn_normal ?_
      refine tri_seq ?_
      refine k_seq tabOk ?_
      rcases of_bif h with ⟨e3, h⟩ | ⟨e3, h⟩
      · replace F := fct e3 F
        refine k_then ?_
        refine k_seq tabOk ?_
        obtain rfl := Option.some.inj h
        refine tri_ret ?_
        exact k_retE
      · replace F := fct e3 F
        refine k_else ?_
        refine tri_skip ?_
        refine thn_normal ?_
        refine tri_seq ?_
        refine k_runs 6 ?_
        refine r_ops tabOk 4 2 ?_
        obtain ⟨v4, e5, h⟩ := of_bind h
        refine r_call tabOk 1 [.val, .val] (laws_eqRange_good _ _ e5) ?_
        refine r_ops tabOk 1 0 ?_
        refine run_end ?_
        rcases of_bif h with ⟨e6, h⟩ | ⟨e6, h⟩
        · replace F := fct e6 F
          refine k_then ?_
          refine k_keep [] [] ?_
          refine k_seq tabOk ?_
          obtain rfl := Option.some.inj h
          refine tri_ret ?_
          exact k_retE
        · replace F := fct e6 F
          refine k_else ?_
          refine tri_skip ?_
          refine thn_normal ?_
          refine tri_seq ?_
          refine k_keep [(2, 0), (3, 0)] [(2, 0), (3, 0)] ?_
          refine k_seq tabOk ?_
          rcases of_bif h with ⟨e7, h⟩ | ⟨e7, h⟩
          · replace F := fct e7 F
            refine k_then ?_
            refine k_seq tabOk ?_
            obtain rfl := Option.some.inj h
            refine tri_ret ?_
            exact k_retE
          · replace F := fct e7 F
            refine k_else ?_
            refine tri_skip ?_
            refine thn_normal ?_
            refine tri_seq ?_
            refine k_seq tabOk ?_
            rcases of_bif h with ⟨e8, h⟩ | ⟨e8, h⟩
            · replace F := fct e8 F
              refine k_then ?_
              refine k_seq tabOk ?_
              obtain rfl := Option.some.inj h
              refine tri_ret ?_
              exact k_retE
            · replace F := fct e8 F
              refine k_else ?_
              refine tri_skip ?_
              refine thn_normal ?_
              refine k_seq tabOk ?_
              obtain rfl := Option.some.inj h
              refine tri_ret ?_
              exact k_retE

noncomputable def laws_eqCall (a0 : S_impl_Call) (a1 : S_impl_Call) : Option (Bool) :=
  (bif (a0.f_Kind != a1.f_Kind) then (some false) else ((laws_eqAsk a0.f_Ask a1.f_Ask).bind fun v2 => (bif (!v2) then (some false) else (some true))))
theorem laws_eqCall_good (a0 : S_impl_Call) (a1 : S_impl_Call) {r : Bool} (h : laws_eqCall a0 a1 = some r) : GoodD Tryd.prog 26 [.val true (E_impl_Call.row false a0), .val true (E_impl_Call.row false a1)] [(false, EB.row false r)] [[], []] := by
  have F : True := trivial
  unfold laws_eqCall at h
  refine good_body tabOk 16 [.tmp 4] Tryd.func26 rfl rfl rfl rfl ?_
  refine k_seq tabOk ?_
  refine tri_seq ?_
  refine k_seq tabOk ?_
  rcases of_bif h with ⟨e1, h⟩ | ⟨e1, h⟩
  · replace F := fct e1 F
    refine k_then ?_
    refine k_seq tabOk ?_
    obtain rfl := Option.some.inj h
    refine tri_ret ?_
    exact k_retE
  · replace F := fct e1 F
    refine k_else ?_
    refine tri_skip ?_
    refine thn_normal ?_
    refine tri_seq ?_
    refine k_runs 6 ?_
    refine r_ops tabOk 4 2 ?_
    obtain ⟨v2, e3, h⟩ := of_bind h
    refine r_call tabOk 1 [.val, .val] (laws_eqAsk_good _ _ e3) ?_
    refine r_ops tabOk 1 0 ?_
    refine run_end ?_
    rcases of_bif h with ⟨e4, h⟩ | ⟨e4, h⟩
    · replace F := fct e4 F
      refine k_then ?_
      refine k_seq tabOk ?_
      obtain rfl := Option.some.inj h
      refine tri_ret ?_
      exact k_retE
    · replace F := fct e4 F
      refine k_else ?_
      refine tri_skip ?_
      refine thn_normal ?_
      refine k_seq tabOk ?_
      obtain rfl := Option.some.inj h
      refine tri_ret ?_
      exact k_retE

noncomputable def laws_eqStep (a0 : S_impl_Step) (a1 : S_impl_Step) : Option (Bool) :=
  (bif (a0.f_Kind != a1.f_Kind) then (some false) else (bif (a0.f_A != a1.f_A) then (some false) else (bif (a0.f_B != a1.f_B) then (some false) else ((laws_eqIntS a0.f_Keep a1.f_Keep).bind fun v4 => (bif (!v4) then (some false) else ((laws_eqCall a0.f_Call a1.f_Call).bind fun v7 => (bif (!v7) then (some false) else (some true))))))))
theorem laws_eqStep_good (a0 : S_impl_Step) (a1 : S_impl_Step) {r : Bool} (h : laws_eqStep a0 a1 = some r) : GoodD Tryd.prog 7 [.val true (E_impl_Step.row false a0), .val true (E_impl_Step.row false a1)] [(false, EB.row false r)] [[], []] := by
  have F : True := trivial
  unfold laws_eqStep at h
  refine good_body tabOk 32 [.tmp 4] Tryd.func7 rfl rfl rfl rfl ?_
  refine k_seq tabOk ?_
  refine tri_seq ?_
  refine k_seq tabOk ?_
  rcases of_bif h with ⟨e1, h⟩ | ⟨e1, h⟩
  · replace F := fct e1 F
    refine k_then ?_
    refine k_seq tabOk ?_
    obtain rfl := Option.some.inj h
    refine tri_ret ?_
    exact k_retE
  · replace F := fct e1 F
    refine k_else ?_
    refine tri_skip ?_
    refine thn_normal ?_
    refine tri_seq ?_
    refine k_seq tabOk ?_
    rcases of_bif h with ⟨e2, h⟩ | ⟨e2, h⟩
    · replace F := fct e2 F
      refine k_then ?_
      refine k_seq tabOk ?_
      obtain rfl := Option.some.inj h
      refine tri_ret ?_
      exact k_retE
    · replace F := fct e2 F
      refine k_else ?_
      refine tri_skip ?_
      refine thn_normal ?_
      refine tri_seq ?_
      refine k_seq tabOk ?_
      rcases of_bif h with ⟨e3, h⟩ | ⟨e3, h⟩
      · replace F := fct e3 F
        refine k_then ?_
        refine k_seq tabOk ?_
        obtain rfl := Option.some.inj h
        refine tri_ret ?_
        exact k_retE
      · replace F := fct e3 F
        refine k_else ?_
        refine tri_skip ?_
        refine thn_normal ?_
        refine tri_seq ?_
        refine k_runs 6 ?_
        refine r_ops tabOk 4 2 ?_
        obtain ⟨v4, e5, h⟩ := of_bind h
        refine r_call tabOk 1 [.val, .val] (laws_eqIntS_good _ _ e5) ?_
        refine r_ops tabOk 1 0 ?_
        refine run_end ?_
        rcases of_bif h with ⟨e6, h⟩ | ⟨e6, h⟩
        · replace F := fct e6 F
          refine k_then ?_
          refine k_keep [] [] ?_
          refine k_seq tabOk ?_
          obtain rfl := Option.some.inj h
          refine tri_ret ?_
          exact k_retE
        · replace F := fct e6 F
          refine k_else ?_
          refine tri_skip ?_
          refine thn_normal ?_
          refine tri_seq ?_
          refine k_keep [(2, 0), (3, 0)] [(2, 0), (3, 0)] ?_
          refine k_runs 6 ?_
          refine r_ops tabOk 4 2 ?_
          obtain ⟨v7, e8, h⟩ := of_bind h
          refine r_call tabOk 1 [.val, .val] (laws_eqCall_good _ _ e8) ?_
          refine r_ops tabOk 1 0 ?_
          refine run_end ?_
          rcases of_bif h with ⟨e9, h⟩ | ⟨e9, h⟩
          · replace F := fct e9 F
            refine k_then ?_
            refine k_seq tabOk ?_
            obtain rfl := Option.some.inj h
            refine tri_ret ?_
            exact k_retE
          · replace F := fct e9 F
            refine k_else ?_
            refine tri_skip ?_
            refine thn_normal ?_
            refine k_seq tabOk ?_
            obtain rfl := Option.some.inj h
            refine tri_ret ?_
            exact k_retE

noncomputable def laws_markIntS_l1  (s1 : Int × Int × (List Int)) : Option ((Int × Int × (List Int)) ⊕ (Int × (List Int))) :=
  (bif (decide (s1.2.1 < (s1.2.2.length : Int))) then ((at? s1.2.2 s1.2.1).bind fun x5 => (some (Sum.inl ((IntKind.i64.wrap (s1.1 + (1 : Int))), (IntKind.i64.wrap (s1.2.1 + (1 : Int))), (s1.2.2.set s1.2.1.toNat s1.1))))) else (some (Sum.inr (s1.1, s1.2.2))))
noncomputable def laws_markIntS (a0 : List Int) (a1 : Int) : Option (Int × (List Int)) :=
  (Option.bind (loopC laws_markIntS_l1 (a1, (0 : Int), a0)) fun v2 => (some (v2.1, v2.2)))
theorem laws_markIntS_good (a0 : List Int) (a1 : Int) {r : Int × (List Int)} (h : laws_markIntS a0 a1 = some r) : GoodD Tryd.prog 27 [.ino false ((EL (EI .i64) 1).row true a0), .val false ((EI .i64).row false a1)] [(false, (EI .i64).row false r.1)] [(EL (EI .i64) 1).row true r.2, []] := by
  have F : True := trivial
  unfold laws_markIntS at h
  refine good_body tabOk 19 [.tmp 4] Tryd.func27 rfl rfl rfl rfl ?_
  refine k_seq tabOk ?_
  refine tri_seq ?_
  refine k_seq tabOk ?_
  refine tri_block ?_
  obtain ⟨v2, e7, h⟩ := of_bind h
  refine k_loopX (fun (s1 : Int × Int × (List Int)) => ⟨[((0, 0), .view false (0, 0) [0] 1), ((1, 0), .val false [.int .i64 s1.1]), ((5, 0), .val false [.int .i64 s1.2.1])], [⟨(0, 0), true, [.sl true 1 (s1.2.2 : List Int).length ((EI .i64).L true s1.2.2)]⟩], 19, [(0, 0)]⟩) 0 (fun (v2 : Int × (List Int)) => ⟨[((1, 0), .val false [.int .i64 v2.1])], [⟨(0, 0), true, [.sl true 1 (v2.2 : List Int).length ((EI .i64).L true v2.2)]⟩], 19, [(0, 0)]⟩) e7 ?_ ?_ ?_
  · exact i_to [(0, 0), (1, 0), (5, 0)] [(0, 0)]
  · clear h e7
    intro s1 o3 h
    unfold laws_markIntS_l1 at h
    refine tri_seq ?_
    refine k_seq tabOk ?_
    rcases of_bif h with ⟨e4, h⟩ | ⟨e4, h⟩
    · replace F := fct e4 F
      refine k_then ?_
      refine tri_skip ?_
      refine thn_normal ?_
      refine tri_seq ?_
      refine tri_block ?_
      obtain ⟨x5, e6, h⟩ := of_bind h
      replace F := fct (at_range e6) F
      replace F := fct (at_setw (EI .i64) true 1 1 s1.1 e6 (new := [.int .i64 s1.1])) F
      replace F := fct (at_ow (EI .i64) true 1 1 e6) F
      refine k_seq tabOk ?_
      refine k_one tabOk ?_
      refine inblk_normal ?_
      refine thn_normal ?_
      refine k_one tabOk ?_
      obtain rfl := Option.some.inj h
      exact and_rfl (i_to [(0, 0), (1, 0), (5, 0)] [(0, 0)])
    · replace F := fct e4 F
      refine k_else ?_
      refine tri_exit ?_
      refine thn_exit ?_
      obtain rfl := Option.some.inj h
      exact and_rfl (i_to [(1, 0)] [(0, 0)])
  · refine inblk_here ?_
    refine thn_normal ?_
    refine k_seq tabOk ?_
    obtain rfl := Option.some.inj h
    refine tri_ret ?_
    exact k_retE

noncomputable def laws_markStep (a0 : S_impl_Step) (a1 : Int) : Option (Int × S_impl_Step) :=
  ((laws_markIntS a0.f_Keep a1).bind fun v1 => (some (v1.1, (S_impl_Step.mk a0.f_Kind a0.f_A a0.f_B v1.2 a0.f_Call))))
theorem laws_markStep_good (a0 : S_impl_Step) (a1 : Int) {r : Int × S_impl_Step} (h : laws_markStep a0 a1 = some r) : GoodD Tryd.prog 8 [.ino true (E_impl_Step.row true a0), .val false ((EI .i64).row false a1)] [(false, (EI .i64).row false r.1)] [E_impl_Step.row true r.2, []] := by
  have F : True := trivial
  unfold laws_markStep at h
  refine good_body tabOk 10 [.tmp 4] Tryd.func8 rfl rfl rfl rfl ?_
  refine k_seq tabOk ?_
  refine k_runs 5 ?_
  refine r_ops tabOk 3 2 ?_
  obtain ⟨v1, e2, h⟩ := of_bind h
  refine r_call tabOk 1 [.ino, .val] (laws_markIntS_good _ _ e2) ?_
  refine r_ops tabOk 1 0 ?_
  refine run_end ?_
  refine k_seq tabOk ?_
  obtain rfl := Option.some.inj h
  refine tri_ret ?_
  exact k_retE

noncomputable def laws_heldIntS_l1 (a0 : List Int) (s1 : Int × Int) : Option ((Int × Int) ⊕ ((Int) ⊕ (Int))) :=
  (bif (decide (s1.2 < (a0.length : Int))) then ((at? a0 s1.2).bind fun x5 => (bif (x5 != s1.1) then (some (Sum.inr (Sum.inr (-1 : Int)))) else (some (Sum.inl ((IntKind.i64.wrap (s1.1 + (1 : Int))), (IntKind.i64.wrap (s1.2 + (1 : Int)))))))) else (some (Sum.inr (Sum.inl s1.1))))
noncomputable def laws_heldIntS (a0 : List Int) (a1 : Int) : Option (Int) :=
  (Option.bind (loopC (laws_heldIntS_l1 a0) (a1, (0 : Int))) (early fun (v2 : Int) => (some v2)))
theorem laws_heldIntS_good (a0 : List Int) (a1 : Int) {r : Int} (h : laws_heldIntS a0 a1 = some r) : GoodD Tryd.prog 28 [.val false ((EL (EI .i64) 1).row false a0), .val false ((EI .i64).row false a1)] [(false, (EI .i64).row false r)] [[], []] := by
  have F : True := trivial
  unfold laws_heldIntS at h
  refine good_body tabOk 21 [.tmp 4] Tryd.func28 rfl rfl rfl rfl ?_
  refine k_seq tabOk ?_
  refine tri_seq ?_
  refine k_seq tabOk ?_
  refine tri_block ?_
  obtain ⟨o10, e8, h⟩ := of_bind h
  refine k_loopE (fun (s1 : Int × Int) => ⟨[((0, 0), .val false [.sl false 1 (a0 : List Int).length ((EI .i64).L false a0)]), ((1, 0), .val false [.int .i64 s1.1]), ((5, 0), .val false [.int .i64 s1.2])], [], 21, []⟩) 0 (fun (v2 : Int) => ⟨[((1, 0), .val false [.int .i64 v2])], [], 21, []⟩) r e8 ?_ ?_ (fun _ e9 => early_r h e9) (fun v2 e9 => ?_)
  · exact i_to [(0, 0), (1, 0), (5, 0)] []
  · clear h e8
    intro s1 o3 h
    unfold laws_heldIntS_l1 at h
    refine tri_seq ?_
    refine k_seq tabOk ?_
    rcases of_bif h with ⟨e4, h⟩ | ⟨e4, h⟩
    · replace F := fct e4 F
      refine k_then ?_
      refine tri_skip ?_
      refine thn_normal ?_
      refine tri_seq ?_
      refine tri_block ?_
      refine tri_seq ?_
      obtain ⟨x5, e6, h⟩ := of_bind h
      replace F := fct (at_range e6) F
      replace F := fct (at_fs (EI .i64) false 1 [] 1 e6) F
      refine k_seq tabOk ?_
      rcases of_bif h with ⟨e7, h⟩ | ⟨e7, h⟩
      · replace F := fct e7 F
        refine k_then ?_
        refine k_seq tabOk ?_
        obtain rfl := Option.some.inj h
        refine tri_ret ?_
        refine q_ret (fun e => ?_)
        subst e
        exact k_retE
      · replace F := fct e7 F
        refine k_else ?_
        refine tri_skip ?_
        refine thn_normal ?_
        refine k_one tabOk ?_
        refine inblk_normal ?_
        refine thn_normal ?_
        refine k_one tabOk ?_
        obtain rfl := Option.some.inj h
        exact and_rfl (i_to [(0, 0), (1, 0), (5, 0)] [])
    · replace F := fct e4 F
      refine k_else ?_
      refine tri_exit ?_
      refine thn_exit ?_
      obtain rfl := Option.some.inj h
      exact and_rfl (i_to [(1, 0)] [])
  · replace h := early_l h e9
    refine inblk_here ?_
    refine thn_normal ?_
    refine k_seq tabOk ?_
    obtain rfl := Option.some.inj h
    refine tri_ret ?_
    exact k_retE

noncomputable def laws_heldStep (a0 : S_impl_Step) (a1 : Int) : Option (Int) :=
  ((laws_heldIntS a0.f_Keep a1).bind fun v1 => (bif (decide (v1 < (0 : Int))) then (some (-1 : Int)) else (some v1)))
theorem laws_heldStep_good (a0 : S_impl_Step) (a1 : Int) {r : Int} (h : laws_heldStep a0 a1 = some r) : GoodD Tryd.prog 9 [.val true (E_impl_Step.row false a0), .val false ((EI .i64).row false a1)] [(false, (EI .i64).row false r)] [[], []] := by
  have F : True := trivial
  unfold laws_heldStep at h
  refine good_body tabOk 12 [.tmp 4] Tryd.func9 rfl rfl rfl rfl ?_
  refine k_seq tabOk ?_
  refine k_runs 5 ?_
  refine r_ops tabOk 3 2 ?_
  obtain ⟨v1, e2, h⟩ := of_bind h
  refine r_call tabOk 1 [.val, .val] (laws_heldIntS_good _ _ e2) ?_
  refine r_ops tabOk 1 0 ?_
  refine run_end ?_
  refine tri_seq ?_
  refine k_seq tabOk ?_
  rcases of_bif h with ⟨e3, h⟩ | ⟨e3, h⟩
  · replace F := fct e3 F
    refine k_then ?_
    refine k_seq tabOk ?_
    obtain rfl := Option.some.inj h
    refine tri_ret ?_
    exact k_retE
  · replace F := fct e3 F
    refine k_else ?_
    refine tri_skip ?_
    refine thn_normal ?_
    refine k_seq tabOk ?_
    obtain rfl := Option.some.inj h
    refine tri_ret ?_
    exact k_retE

noncomputable def laws_FnExactTextStep (a0 : List UInt8) : Option (Bool) :=
  (bif (decide ((1048576 : Int) < (a0.length : Int))) then (some true) else ((spec_TextStep a0).bind fun v2 => ((impl_TextStep a0).bind fun v4 => ((laws_eqStep v4.1 v2.1).bind fun v6 => (bif ((!v6) || (!(v4.2 == v2.2))) then (some false) else ((laws_markStep v4.1 (1 : Int)).bind fun v9 => ((laws_heldStep v9.2 (1 : Int)).bind fun v11 => (bif (decide (v11 < (0 : Int))) then (some false) else (bif (v11 != v9.1) then (some false) else ((impl_TextStep a0).bind fun v15 => ((laws_eqStep v15.1 v2.1).bind fun v17 => (bif ((!v17) || (!(v15.2 == v2.2))) then (some false) else ((laws_heldStep v9.2 (1 : Int)).bind fun v20 => (bif (decide (v20 < (0 : Int))) then (some false) else (bif (v20 != v9.1) then (some false) else (some true))))))))))))))))
theorem laws_FnExactTextStep_good (a0 : List UInt8) {r : Bool} (h : laws_FnExactTextStep a0 = some r) : GoodD Tryd.prog 3 [.val false (ES.row false a0)] [(false, EB.row false r)] [[]] := by
  have F : True := trivial
  unfold laws_FnExactTextStep at h
  refine good_body tabOk 66 [.tmp 2] Tryd.func3 rfl rfl rfl rfl ?_
  refine k_seq tabOk ?_
  refine tri_seq ?_
  refine k_seq tabOk ?_
  rcases of_bif h with ⟨e1, h⟩ | ⟨e1, h⟩
  · replace F := fct e1 F
    refine k_then ?_
    refine k_seq tabOk ?_
    obtain rfl := Option.some.inj h
    refine tri_ret ?_
    exact k_retE
  · replace F := fct e1 F
    refine k_else ?_
    refine tri_skip ?_
    refine thn_normal ?_
    refine k_runs 8 ?_
    refine r_ops tabOk 1 7 ?_
    obtain ⟨v2, e3, h⟩ := of_bind h
    refine r_call tabOk 6 [.val] (spec_TextStep_good _ e3) ?_
    refine r_mov ?_
    refine r_ops tabOk 5 0 ?_
    refine run_end ?_
    refine k_runs 8 ?_
    refine r_ops tabOk 1 7 ?_
    obtain ⟨v4, e5, h⟩ := of_bind h
    refine r_call tabOk 6 [.val] (impl_TextStep_good _ e5) ?_
    refine r_mov ?_
    refine r_ops tabOk 5 0 ?_
    refine run_end ?_
    refine tri_seq ?_
    refine k_runs 9 ?_
    refine r_ops tabOk 2 7 ?_
    obtain ⟨v6, e7, h⟩ := of_bind h
    refine r_call tabOk 6 [.val, .val] (laws_eqStep_good _ _ e7) ?_
    refine r_ops tabOk 6 0 ?_
    refine run_end ?_
    rcases of_bif h with ⟨e8, h⟩ | ⟨e8, h⟩
    · replace F := fct e8 F
      refine k_then ?_
      refine k_keep [] [] ?_
      refine k_seq tabOk ?_
      obtain rfl := Option.some.inj h
      refine tri_ret ?_
      exact k_retE
    · replace F := fct e8 F
      refine k_else ?_
      refine tri_skip ?_
      refine thn_normal ?_
      refine k_keep [(0, 0), (3, 0), (4, 0), (5, 0)] [(3, 0), (5, 0)] ?_
      refine k_seq tabOk ?_
      refine k_runs 4 ?_
      refine r_ops tabOk 2 2 ?_
      obtain ⟨v9, e10, h⟩ := of_bind h
      refine r_call tabOk 1 [.ino, .val] (laws_markStep_good _ _ e10) ?_
      refine r_ops tabOk 1 0 ?_
      refine run_end ?_
      refine k_seq tabOk ?_
      refine k_runs 4 ?_
      refine r_ops tabOk 2 2 ?_
      obtain ⟨v11, e12, h⟩ := of_bind h
      refine r_call tabOk 1 [.val, .val] (laws_heldStep_good _ _ e12) ?_
      refine r_ops tabOk 1 0 ?_
      refine run_end ?_
      refine tri_seq ?_
      refine k_seq tabOk ?_
      rcases of_bif h with ⟨e13, h⟩ | ⟨e13, h⟩
      · replace F := fct e13 F
        refine k_then ?_
        refine k_seq tabOk ?_
        obtain rfl := Option.some.inj h
        refine tri_ret ?_
        exact k_retE
      · replace F := fct e13 F
        refine k_else ?_
        refine tri_skip ?_
        refine thn_normal ?_
        refine tri_seq ?_
        refine k_seq tabOk ?_
        rcases of_bif h with ⟨e14, h⟩ | ⟨e14, h⟩
        · replace F := fct e14 F
          refine k_then ?_
          refine k_seq tabOk ?_
          obtain rfl := Option.some.inj h
          refine tri_ret ?_
          exact k_retE
        · replace F := fct e14 F
          refine k_else ?_
          refine tri_skip ?_
          refine thn_normal ?_
          refine k_runs 8 ?_
          refine r_ops tabOk 1 7 ?_
          obtain ⟨v15, e16, h⟩ := of_bind h
          refine r_call tabOk 6 [.val] (impl_TextStep_good _ e16) ?_
          refine r_mov ?_
          refine r_ops tabOk 5 0 ?_
          refine run_end ?_
          refine tri_seq ?_
          refine k_keep [(3, 0), (4, 0), (5, 0), (7, 0), (9, 0), (10, 0)] [(3, 0), (5, 0), (9, 0)] ?_
          refine k_runs 9 ?_
          refine r_ops tabOk 2 7 ?_
          obtain ⟨v17, e18, h⟩ := of_bind h
          refine r_call tabOk 6 [.val, .val] (laws_eqStep_good _ _ e18) ?_
          refine r_ops tabOk 6 0 ?_
          refine run_end ?_
          rcases of_bif h with ⟨e19, h⟩ | ⟨e19, h⟩
          · replace F := fct e19 F
            refine k_then ?_
            refine k_seq tabOk ?_
            obtain rfl := Option.some.inj h
            refine tri_ret ?_
            exact k_retE
          · replace F := fct e19 F
            refine k_else ?_
            refine tri_skip ?_
            refine thn_normal ?_
            refine k_seq tabOk ?_
            refine k_runs 4 ?_
            refine r_ops tabOk 2 2 ?_
            obtain ⟨v20, e21, h⟩ := of_bind h
            refine r_call tabOk 1 [.val, .val] (laws_heldStep_good _ _ e21) ?_
            refine r_ops tabOk 1 0 ?_
            refine run_end ?_
            refine tri_seq ?_
            refine k_seq tabOk ?_
            rcases of_bif h with ⟨e22, h⟩ | ⟨e22, h⟩
            · replace F := fct e22 F
              refine k_then ?_
              refine k_seq tabOk ?_
              obtain rfl := Option.some.inj h
              refine tri_ret ?_
              exact k_retE
            · replace F := fct e22 F
              refine k_else ?_
              refine tri_skip ?_
              refine thn_normal ?_
              refine tri_seq ?_
              refine k_seq tabOk ?_
              rcases of_bif h with ⟨e23, h⟩ | ⟨e23, h⟩
              · replace F := fct e23 F
                refine k_then ?_
                refine k_keep [] [] ?_
                refine k_seq tabOk ?_
                obtain rfl := Option.some.inj h
                refine tri_ret ?_
                exact k_retE
              · replace F := fct e23 F
                refine k_else ?_
                refine tri_skip ?_
                refine thn_normal ?_
                refine k_keep [] [] ?_
                refine k_seq tabOk ?_
                obtain rfl := Option.some.inj h
                refine tri_ret ?_
                exact k_retE

end Go.Proofs.YtddfcajdelfikaaDoor.Vm
