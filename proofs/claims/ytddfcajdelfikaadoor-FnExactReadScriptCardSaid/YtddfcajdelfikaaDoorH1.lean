import Derived.Test.YtddfcajdelfikaaDoorEnc
import Derived.Test.YtddfcajdelfikaaDoorHand
import Derived.Test.YtddfcajdelfikaaDoorG3
import Derived.Test.YtddfcajdelfikaaDoorVm34
set_option maxRecDepth 100000
set_option maxHeartbeats 4000000
set_option linter.unusedSimpArgs false
set_option linter.unusedVariables false
namespace Go.Proofs.YtddfcajdelfikaaDoor.Vm
open Go

noncomputable def spec_l14Lines (a0 : List UInt8) : Option ((List (List UInt8))) :=
  ((spec_l07Parts a0 (10 : UInt8)).bind fun v1 => ((at? v1 (IntKind.i64.wrap ((v1.length : Int) - (1 : Int)))).bind fun x3 => (bif (x3 == ([] : List UInt8)) then (bif (decide ((0 : Int) ≤ (0 : Int)) && decide ((0 : Int) ≤ (IntKind.i64.wrap ((v1.length : Int) - (1 : Int)))) && decide ((IntKind.i64.wrap ((v1.length : Int) - (1 : Int))) ≤ (v1.length : Int))) then (some (List.take ((IntKind.i64.wrap ((v1.length : Int) - (1 : Int))).toNat) v1)) else none) else (some v1))))
theorem spec_l14Lines_good (a0 : List UInt8) {r : (List (List UInt8))} (h : spec_l14Lines a0 = some r) : GoodD Tryd.prog 29 [.val false (ES.row false a0)] [(false, (EL ES 1).row true r)] [[]] := by
  have F : True := trivial
  unfold spec_l14Lines at h
  refine good_body tabOk 19 [.tmp 2] Tryd.func29 rfl rfl rfl rfl ?_
  refine k_seq tabOk ?_
  refine k_runs 3 ?_
  refine r_ops tabOk 1 2 ?_
  obtain ⟨v1, e2, h⟩ := of_bind h
  refine r_call tabOk 1 [.val, .val] (spec_l07Parts_good _ _ e2) ?_
  refine r_ops tabOk 1 0 ?_
  refine run_end ?_
  refine tri_seq ?_
  obtain ⟨x3, e4, h⟩ := of_bind h
  replace F := fct (at_range e4) F
  replace F := fct (at_ow ES true 1 1 e4) F
  refine k_seq tabOk ?_
  rcases of_bif h with ⟨e5, h⟩ | ⟨e5, h⟩
  · replace F := fct e5 F
    refine k_then ?_
    refine k_run1 6 ?_
    obtain ⟨e6, h⟩ := of_chk h
    replace F := fct (e6) F
    replace F := fct (sub_b ES true 1 v1 e6) F
    refine r_ops tabOk 5 1 ?_
    refine r_trunc 17 ?_
    refine r_ops tabOk 1 0 ?_
    refine run_end ?_
    refine thn_normal ?_
    refine k_seq tabOk ?_
    obtain rfl := Option.some.inj h
    refine tri_ret ?_
    exact k_retE
  · replace F := fct e5 F
    refine k_else ?_
    refine tri_skip ?_
    refine thn_normal ?_
    refine k_seq tabOk ?_
    obtain rfl := Option.some.inj h
    refine tri_ret ?_
    exact k_retE

noncomputable def spec_l14Quiet (a0 : List UInt8) : Option (Bool) :=
  (Option.bind (bif (a0 == ([] : List UInt8)) then (some true) else (bif inRange (0 : Int) a0.length then (some (((a0.getD (0 : Int).toNat 0).toNat : Int) == (35 : Int))) else none)) fun (v1 : Bool) => (some v1))
theorem spec_l14Quiet_good (a0 : List UInt8) {r : Bool} (h : spec_l14Quiet a0 = some r) : GoodD Tryd.prog 30 [.val false (ES.row false a0)] [(false, EB.row false r)] [[]] := by
  have F : True := trivial
  unfold spec_l14Quiet at h
  refine good_body tabOk 10 [.tmp 2] Tryd.func30 rfl rfl rfl rfl ?_
  refine k_seq tabOk ?_
  obtain ⟨v1, e4, h⟩ := of_bind h
  refine r_join (n := 8) (fun (v1 : Bool) => ⟨[((2, 0), .val false [.bool v1])], [], 10, []⟩) v1 ?_ ?_
  · clear h
    have h := e4
    refine r_ops tabOk 4 4 ?_
    rcases of_bif h with ⟨e2, h⟩ | ⟨e2, h⟩
    · replace F := fct e2 F
      refine r_skip 2 2 ?_
      refine r_ops tabOk 2 0 ?_
      refine run_end ?_
      obtain rfl := Option.some.inj h
      exact i_to [(2, 0)] []
    · replace F := fct e2 F
      obtain ⟨e3, h⟩ := of_chk h
      replace F := fct (e3) F
      refine r_ops tabOk 4 0 ?_
      refine run_end ?_
      obtain rfl := Option.some.inj h
      exact i_to [(2, 0)] []
  · obtain rfl := Option.some.inj h
    refine tri_ret ?_
    exact k_retE

noncomputable def spec_ReadScript_l1 (v2 : (List (List UInt8))) (s4 : Int × (List S_impl_Step)) : Option ((Int × (List S_impl_Step)) ⊕ (((List S_impl_Step)) ⊕ ((List S_impl_Step) × Int))) :=
  (bif (decide (s4.1 < (v2.length : Int))) then (Option.bind ((at? v2 s4.1).bind fun x10 => ((spec_l14Quiet x10).bind fun v12 => (bif v12 then (some (Sum.inl s4.2)) else ((spec_TextStep x10).bind fun v15 => (bif ((!v15.2) || ((s4.2.length : Int) == (300 : Int))) then (some (Sum.inr (Sum.inr (Sum.inr ([], (IntKind.i64.wrap (s4.1 + (1 : Int)))))))) else (bif room 144 s4.2.length (([v15.1] : List S_impl_Step).length) then (some (Sum.inl (s4.2 ++ [v15.1]))) else none)))))) (early fun (v8 : (List S_impl_Step)) => (some (Sum.inl ((IntKind.i64.wrap (s4.1 + (1 : Int))), v8))))) else (some (Sum.inr (Sum.inl s4.2))))
noncomputable def spec_ReadScript (a0 : List UInt8) : Option ((List S_impl_Step) × Int) :=
  (bif (decide ((8000 : Int) < (a0.length : Int))) then (some ([], (1 : Int))) else ((spec_l14Lines a0).bind fun v2 => (Option.bind (loopC (spec_ReadScript_l1 v2) ((0 : Int), [])) (early fun (v5 : (List S_impl_Step)) => (some (v5, (0 : Int)))))))
theorem spec_ReadScript_good (a0 : List UInt8) {r : (List S_impl_Step) × Int} (h : spec_ReadScript a0 = some r) : GoodD Tryd.prog 10 [.val false (ES.row false a0)] [(false, (EL E_impl_Step 12).row true r.1), (false, (EI .i64).row false r.2)] [[]] := by
  have F : True := trivial
  unfold spec_ReadScript at h
  refine good_body tabOk 43 [.tmp 2, .tmp 3] Tryd.func10 rfl rfl rfl rfl ?_
  refine k_seq tabOk ?_
  refine tri_seq ?_
  refine k_seq tabOk ?_
  rcases of_bif h with ⟨e1, h⟩ | ⟨e1, h⟩
  · replace F := fct e1 F
    refine k_then ?_
    refine k_seq tabOk ?_
    obtain rfl := Option.some.inj h
    refine tri_ret ?_
    exact k_retE
  · replace F := fct e1 F
    refine k_else ?_
    refine tri_skip ?_
    refine thn_normal ?_
    refine k_seq tabOk ?_
    refine tri_seq ?_
    refine k_runs 4 ?_
    refine r_ops tabOk 1 3 ?_
    obtain ⟨v2, e3, h⟩ := of_bind h
    refine r_call tabOk 2 [.val] (spec_l14Lines_good _ e3) ?_
    refine r_ops tabOk 2 0 ?_
    refine run_end ?_
    refine tri_block ?_
    obtain ⟨o23, e21, h⟩ := of_bind h
    refine k_loopE (fun (s4 : Int × (List S_impl_Step)) => ⟨[((4, 0), .view false (4, 0) [0] 1), ((14, 0), .view false (14, 0) [0] 1), ((15, 0), .val false [.int .i64 (v2.length : Int)]), ((16, 0), .val false [.int .i64 s4.1])], [⟨(4, 0), true, [.sl true 12 (s4.2 : List S_impl_Step).length (E_impl_Step.L true s4.2)]⟩, ⟨(14, 0), true, [.sl true 1 (v2 : List (List UInt8)).length (ES.L true v2)]⟩], 43, []⟩) 0 (fun (v5 : (List S_impl_Step)) => ⟨[((4, 0), .view false (4, 0) [0] 1)], [⟨(4, 0), true, [.sl true 12 (v5 : List S_impl_Step).length (E_impl_Step.L true v5)]⟩], 43, []⟩) r e21 ?_ ?_ (fun _ e22 => early_r h e22) (fun v5 e22 => ?_)
    · exact i_to [(4, 0), (14, 0), (15, 0), (16, 0)] [(4, 0), (14, 0)]
    · clear h e21
      intro s4 o6 h
      unfold spec_ReadScript_l1 at h
      refine k_seq tabOk ?_
      refine tri_seq ?_
      rcases of_bif h with ⟨e7, h⟩ | ⟨e7, h⟩
      · replace F := fct e7 F
        refine k_then ?_
        refine tri_skip ?_
        refine thn_normal ?_
        obtain ⟨o9, e19, h⟩ := of_bind h
        refine k_jnE (fun (v8 : (List S_impl_Step)) => ⟨[((4, 0), .view false (4, 0) [0] 1), ((14, 0), .view false (14, 0) [0] 1), ((15, 0), .val false [.int .i64 (v2.length : Int)]), ((16, 0), .val false [.int .i64 s4.1])], [⟨(4, 0), true, [.sl true 12 (v8 : List S_impl_Step).length (E_impl_Step.L true v8)]⟩, ⟨(14, 0), true, [.sl true 1 (v2 : List (List UInt8)).length (ES.L true v2)]⟩], 43, []⟩) o6 o9 ?_ (fun _ e20 => early_r h e20) (fun v8 e20 => ?_)
        · clear h
          have h := e19
          refine tri_block ?_
          obtain ⟨x10, e11, h⟩ := of_bind h
          replace F := fct (at_range e11) F
          replace F := fct (at_ow ES true 1 1 e11) F
          refine k_seq tabOk ?_
          refine tri_seq ?_
          refine k_runs 2 ?_
          refine r_ops tabOk 1 1 ?_
          obtain ⟨v12, e13, h⟩ := of_bind h
          refine r_call tabOk 0 [.val] (spec_l14Quiet_good _ e13) ?_
          refine run_end ?_
          rcases of_bif h with ⟨e14, h⟩ | ⟨e14, h⟩
          · replace F := fct e14 F
            refine k_then ?_
            refine tri_exit ?_
            refine thn_exit ?_
            refine inblk_here ?_
            obtain rfl := Option.some.inj h
            exact and_rfl (i_to [(4, 0), (14, 0), (15, 0), (16, 0)] [(4, 0), (14, 0)])
          · replace F := fct e14 F
            refine k_else ?_
            refine tri_skip ?_
            refine thn_normal ?_
            refine k_runs 8 ?_
            refine r_ops tabOk 1 7 ?_
            obtain ⟨v15, e16, h⟩ := of_bind h
            refine r_call tabOk 6 [.val] (spec_TextStep_good _ e16) ?_
            refine r_mov ?_
            refine r_ops tabOk 5 0 ?_
            refine run_end ?_
            refine tri_seq ?_
            refine k_seq tabOk ?_
            rcases of_bif h with ⟨e17, h⟩ | ⟨e17, h⟩
            · replace F := fct e17 F
              refine k_then ?_
              refine k_keep [(5, 0)] [] ?_
              refine k_seq tabOk ?_
              obtain rfl := Option.some.inj h
              refine tri_ret ?_
              refine q_ret (fun e => ?_)
              subst e
              refine q_ret (fun e => ?_)
              subst e
              exact k_retE
            · replace F := fct e17 F
              refine k_else ?_
              refine tri_skip ?_
              refine thn_normal ?_
              refine k_keep [(4, 0), (7, 0), (14, 0), (15, 0), (16, 0)] [(4, 0), (7, 0), (14, 0)] ?_
              obtain ⟨e18, h⟩ := of_chk h
              replace F := fct (room_iff e18) F
              refine k_one tabOk ?_
              refine inblk_normal ?_
              obtain rfl := Option.some.inj h
              exact and_rfl (i_to [(4, 0), (14, 0), (15, 0), (16, 0)] [(4, 0), (14, 0)])
        · replace h := early_l h e20
          refine k_one tabOk ?_
          obtain rfl := Option.some.inj h
          exact and_rfl (i_to [(4, 0), (14, 0), (15, 0), (16, 0)] [(4, 0), (14, 0)])
      · replace F := fct e7 F
        refine k_else ?_
        refine tri_exit ?_
        refine thn_exit ?_
        obtain rfl := Option.some.inj h
        exact and_rfl (i_to [(4, 0)] [(4, 0)])
    · replace h := early_l h e22
      refine inblk_here ?_
      refine thn_normal ?_
      refine k_seq tabOk ?_
      obtain rfl := Option.some.inj h
      refine tri_ret ?_
      exact k_retE

noncomputable def impl_says (a0 : List UInt8) : Option (Bool) :=
  (Option.bind (bif (!(a0 == ([] : List UInt8))) then (bif inRange (0 : Int) a0.length then (some (((a0.getD (0 : Int).toNat 0).toNat : Int) != (35 : Int))) else none) else (some false)) fun (v1 : Bool) => (some v1))
theorem impl_says_good (a0 : List UInt8) {r : Bool} (h : impl_says a0 = some r) : GoodD Tryd.prog 47 [.val false (ES.row false a0)] [(false, EB.row false r)] [[]] := by
  have F : True := trivial
  unfold impl_says at h
  refine good_body tabOk 10 [.tmp 2] Tryd.func47 rfl rfl rfl rfl ?_
  refine k_seq tabOk ?_
  obtain ⟨v1, e4, h⟩ := of_bind h
  refine r_join (n := 8) (fun (v1 : Bool) => ⟨[((2, 0), .val false [.bool v1])], [], 10, []⟩) v1 ?_ ?_
  · clear h
    have h := e4
    refine r_ops tabOk 4 4 ?_
    rcases of_bif h with ⟨e2, h⟩ | ⟨e2, h⟩
    · replace F := fct e2 F
      obtain ⟨e3, h⟩ := of_chk h
      replace F := fct (e3) F
      refine r_ops tabOk 4 0 ?_
      refine run_end ?_
      obtain rfl := Option.some.inj h
      exact i_to [(2, 0)] []
    · replace F := fct e2 F
      refine r_skip 2 2 ?_
      refine r_ops tabOk 2 0 ?_
      refine run_end ?_
      obtain rfl := Option.some.inj h
      exact i_to [(2, 0)] []
  · obtain rfl := Option.some.inj h
    refine tri_ret ?_
    exact k_retE

noncomputable def impl_readLines_l1 (a0 : List (List UInt8)) (a1 : Int) (s1 : Int × (List S_impl_Step)) : Option ((Int × (List S_impl_Step)) ⊕ (((List S_impl_Step)) ⊕ ((List S_impl_Step) × Int))) :=
  (bif (decide (s1.1 < (a0.length : Int))) then (Option.bind ((at? a0 s1.1).bind fun x7 => (Option.bind (bif (s1.1 == a1) then (some true) else ((impl_says x7).bind fun v11 => (some (!v11)))) fun (v9 : Bool) => (bif v9 then (some (Sum.inl s1.2)) else ((impl_TextStep x7).bind fun v14 => (bif ((!v14.2) || ((s1.2.length : Int) == (300 : Int))) then (some (Sum.inr (Sum.inr (Sum.inr ([], (IntKind.i64.wrap (s1.1 + (1 : Int)))))))) else (bif room 144 s1.2.length (([v14.1] : List S_impl_Step).length) then (some (Sum.inl (s1.2 ++ [v14.1]))) else none)))))) (early fun (v5 : (List S_impl_Step)) => (some (Sum.inl ((IntKind.i64.wrap (s1.1 + (1 : Int))), v5))))) else (some (Sum.inr (Sum.inl s1.2))))
noncomputable def impl_readLines (a0 : List (List UInt8)) (a1 : Int) : Option ((List S_impl_Step) × Int) :=
  (Option.bind (loopC (impl_readLines_l1 a0 a1) ((0 : Int), [])) (early fun (v2 : (List S_impl_Step)) => (some (v2, (0 : Int)))))
theorem impl_readLines_good (a0 : List (List UInt8)) (a1 : Int) {r : (List S_impl_Step) × Int} (h : impl_readLines a0 a1 = some r) : GoodD Tryd.prog 31 [.val false ((EL ES 1).row false a0), .val false ((EI .i64).row false a1)] [(false, (EL E_impl_Step 12).row true r.1), (false, (EI .i64).row false r.2)] [[], []] := by
  have F : True := trivial
  unfold impl_readLines at h
  refine good_body tabOk 47 [.tmp 4, .tmp 5] Tryd.func31 rfl rfl rfl rfl ?_
  refine k_seq tabOk ?_
  refine k_seq tabOk ?_
  refine tri_seq ?_
  refine k_seq tabOk ?_
  refine tri_block ?_
  obtain ⟨o23, e21, h⟩ := of_bind h
  refine k_loopE (fun (s1 : Int × (List S_impl_Step)) => ⟨[((1, 0), .val false [.int .i64 a1]), ((6, 0), .view false (6, 0) [0] 1), ((12, 0), .val false [.sl false 1 (a0 : List (List UInt8)).length (ES.L false a0)]), ((13, 0), .val false [.int .i64 (a0.length : Int)]), ((14, 0), .val false [.int .i64 s1.1])], [⟨(6, 0), true, [.sl true 12 (s1.2 : List S_impl_Step).length (E_impl_Step.L true s1.2)]⟩], 47, []⟩) 0 (fun (v2 : (List S_impl_Step)) => ⟨[((6, 0), .view false (6, 0) [0] 1)], [⟨(6, 0), true, [.sl true 12 (v2 : List S_impl_Step).length (E_impl_Step.L true v2)]⟩], 47, []⟩) r e21 ?_ ?_ (fun _ e22 => early_r h e22) (fun v2 e22 => ?_)
  · exact i_to [(1, 0), (6, 0), (12, 0), (13, 0), (14, 0)] [(6, 0)]
  · clear h e21
    intro s1 o3 h
    unfold impl_readLines_l1 at h
    refine k_seq tabOk ?_
    refine tri_seq ?_
    rcases of_bif h with ⟨e4, h⟩ | ⟨e4, h⟩
    · replace F := fct e4 F
      refine k_then ?_
      refine tri_skip ?_
      refine thn_normal ?_
      obtain ⟨o6, e19, h⟩ := of_bind h
      refine k_jnE (fun (v5 : (List S_impl_Step)) => ⟨[((1, 0), .val false [.int .i64 a1]), ((6, 0), .view false (6, 0) [0] 1), ((12, 0), .val false [.sl false 1 (a0 : List (List UInt8)).length (ES.L false a0)]), ((13, 0), .val false [.int .i64 (a0.length : Int)]), ((14, 0), .val false [.int .i64 s1.1])], [⟨(6, 0), true, [.sl true 12 (v5 : List S_impl_Step).length (E_impl_Step.L true v5)]⟩], 47, []⟩) o3 o6 ?_ (fun _ e20 => early_r h e20) (fun v5 e20 => ?_)
      · clear h
        have h := e19
        refine tri_block ?_
        obtain ⟨x7, e8, h⟩ := of_bind h
        replace F := fct (at_range e8) F
        replace F := fct (at_fs ES false 1 [] 1 e8) F
        refine k_seq tabOk ?_
        refine tri_seq ?_
        obtain ⟨v9, e18, h⟩ := of_bind h
        refine r_join (n := 8) (fun (v9 : Bool) => ⟨[((1, 0), .val false [.int .i64 a1]), ((6, 0), .view false (6, 0) [0] 1), ((7, 0), .val false [.int .i64 s1.1]), ((8, 0), .val false [.str x7]), ((12, 0), .val false [.sl false 1 (a0 : List (List UInt8)).length (ES.L false a0)]), ((13, 0), .val false [.int .i64 (a0.length : Int)]), ((14, 0), .val false [.int .i64 s1.1]), ((26, 0), .val false [.bool v9])], [⟨(6, 0), true, [.sl true 12 (s1.2 : List S_impl_Step).length (E_impl_Step.L true s1.2)]⟩], 47, []⟩) v9 ?_ ?_
        · clear h
          have h := e18
          refine r_ops tabOk 5 3 ?_
          rcases of_bif h with ⟨e10, h⟩ | ⟨e10, h⟩
          · replace F := fct e10 F
            refine r_skip 2 1 ?_
            refine r_ops tabOk 1 0 ?_
            refine run_end ?_
            obtain rfl := Option.some.inj h
            exact i_to [(1, 0), (6, 0), (7, 0), (8, 0), (12, 0), (13, 0), (14, 0), (26, 0)] [(6, 0)]
          · replace F := fct e10 F
            obtain ⟨v11, e12, h⟩ := of_bind h
            refine r_call tabOk 2 [.val] (impl_says_good _ e12) ?_
            refine r_ops tabOk 2 0 ?_
            refine run_end ?_
            obtain rfl := Option.some.inj h
            exact i_to [(1, 0), (6, 0), (7, 0), (8, 0), (12, 0), (13, 0), (14, 0), (26, 0)] [(6, 0)]
        · rcases of_bif h with ⟨e13, h⟩ | ⟨e13, h⟩
          · replace F := fct e13 F
            refine k_then ?_
            refine tri_exit ?_
            refine thn_exit ?_
            refine inblk_here ?_
            obtain rfl := Option.some.inj h
            exact and_rfl (i_to [(1, 0), (6, 0), (12, 0), (13, 0), (14, 0)] [(6, 0)])
          · replace F := fct e13 F
            refine k_else ?_
            refine tri_skip ?_
            refine thn_normal ?_
            refine k_runs 8 ?_
            refine r_ops tabOk 1 7 ?_
            obtain ⟨v14, e15, h⟩ := of_bind h
            refine r_call tabOk 6 [.val] (impl_TextStep_good _ e15) ?_
            refine r_mov ?_
            refine r_ops tabOk 5 0 ?_
            refine run_end ?_
            refine tri_seq ?_
            refine k_seq tabOk ?_
            rcases of_bif h with ⟨e16, h⟩ | ⟨e16, h⟩
            · replace F := fct e16 F
              refine k_then ?_
              refine k_seq tabOk ?_
              obtain rfl := Option.some.inj h
              refine tri_ret ?_
              refine q_ret (fun e => ?_)
              subst e
              refine q_ret (fun e => ?_)
              subst e
              exact k_retE
            · replace F := fct e16 F
              refine k_else ?_
              refine tri_skip ?_
              refine thn_normal ?_
              obtain ⟨e17, h⟩ := of_chk h
              replace F := fct (room_iff e17) F
              refine k_one tabOk ?_
              refine inblk_normal ?_
              obtain rfl := Option.some.inj h
              exact and_rfl (i_to [(1, 0), (6, 0), (12, 0), (13, 0), (14, 0)] [(6, 0)])
      · replace h := early_l h e20
        refine k_one tabOk ?_
        obtain rfl := Option.some.inj h
        exact and_rfl (i_to [(1, 0), (6, 0), (12, 0), (13, 0), (14, 0)] [(6, 0)])
    · replace F := fct e4 F
      refine k_else ?_
      refine tri_exit ?_
      refine thn_exit ?_
      obtain rfl := Option.some.inj h
      exact and_rfl (i_to [(6, 0)] [(6, 0)])
  · replace h := early_l h e22
    refine inblk_here ?_
    refine thn_normal ?_
    refine k_seq tabOk ?_
    obtain rfl := Option.some.inj h
    refine tri_ret ?_
    exact k_retE

noncomputable def impl_linesOf (a0 : List UInt8) : Option ((List (List UInt8))) :=
  ((strings_Split a0 ([10] : List UInt8)).bind fun v1 => ((at? v1 (IntKind.i64.wrap ((v1.length : Int) - (1 : Int)))).bind fun x3 => (bif (x3 == ([] : List UInt8)) then (bif (decide ((0 : Int) ≤ (0 : Int)) && decide ((0 : Int) ≤ (IntKind.i64.wrap ((v1.length : Int) - (1 : Int)))) && decide ((IntKind.i64.wrap ((v1.length : Int) - (1 : Int))) ≤ (v1.length : Int))) then (some (List.take ((IntKind.i64.wrap ((v1.length : Int) - (1 : Int))).toNat) v1)) else none) else (some v1))))
theorem impl_linesOf_good (a0 : List UInt8) {r : (List (List UInt8))} (h : impl_linesOf a0 = some r) : GoodD Tryd.prog 32 [.val false (ES.row false a0)] [(false, (EL ES 1).row true r)] [[]] := by
  have F : True := trivial
  unfold impl_linesOf at h
  refine good_body tabOk 19 [.tmp 2] Tryd.func32 rfl rfl rfl rfl ?_
  refine k_seq tabOk ?_
  refine k_runs 3 ?_
  refine r_ops tabOk 1 2 ?_
  obtain ⟨v1, e2, h⟩ := of_bind h
  refine r_call tabOk 1 [.val, .val] (strings_Split_good _ _ e2) ?_
  refine r_ops tabOk 1 0 ?_
  refine run_end ?_
  refine tri_seq ?_
  obtain ⟨x3, e4, h⟩ := of_bind h
  replace F := fct (at_range e4) F
  replace F := fct (at_ow ES true 1 1 e4) F
  refine k_seq tabOk ?_
  rcases of_bif h with ⟨e5, h⟩ | ⟨e5, h⟩
  · replace F := fct e5 F
    refine k_then ?_
    refine k_run1 6 ?_
    obtain ⟨e6, h⟩ := of_chk h
    replace F := fct (e6) F
    replace F := fct (sub_b ES true 1 v1 e6) F
    refine r_ops tabOk 5 1 ?_
    refine r_trunc 17 ?_
    refine r_ops tabOk 1 0 ?_
    refine run_end ?_
    refine thn_normal ?_
    refine k_seq tabOk ?_
    obtain rfl := Option.some.inj h
    refine tri_ret ?_
    exact k_retE
  · replace F := fct e5 F
    refine k_else ?_
    refine tri_skip ?_
    refine thn_normal ?_
    refine k_seq tabOk ?_
    obtain rfl := Option.some.inj h
    refine tri_ret ?_
    exact k_retE

noncomputable def impl_ReadScript (a0 : List UInt8) : Option ((List S_impl_Step) × Int) :=
  (bif (decide ((8000 : Int) < (a0.length : Int))) then (some ([], (1 : Int))) else ((impl_linesOf a0).bind fun v2 => ((impl_readLines v2 (-1 : Int)).bind fun v4 => (some (v4.1, v4.2)))))
theorem impl_ReadScript_good (a0 : List UInt8) {r : (List S_impl_Step) × Int} (h : impl_ReadScript a0 = some r) : GoodD Tryd.prog 11 [.val false (ES.row false a0)] [(false, (EL E_impl_Step 12).row true r.1), (false, (EI .i64).row false r.2)] [[]] := by
  have F : True := trivial
  unfold impl_ReadScript at h
  refine good_body tabOk 12 [.tmp 2, .tmp 3] Tryd.func11 rfl rfl rfl rfl ?_
  refine k_seq tabOk ?_
  refine tri_seq ?_
  refine k_seq tabOk ?_
  rcases of_bif h with ⟨e1, h⟩ | ⟨e1, h⟩
  · replace F := fct e1 F
    refine k_then ?_
    refine k_seq tabOk ?_
    obtain rfl := Option.some.inj h
    refine tri_ret ?_
    exact k_retE
  · replace F := fct e1 F
    refine k_else ?_
    refine tri_skip ?_
    refine thn_normal ?_
    refine k_runs 7 ?_
    refine r_ops tabOk 1 6 ?_
    obtain ⟨v2, e3, h⟩ := of_bind h
    refine r_call tabOk 5 [.val] (impl_linesOf_good _ e3) ?_
    obtain ⟨v4, e5, h⟩ := of_bind h
    refine r_call tabOk 4 [.val, .val] (impl_readLines_good _ _ e5) ?_
    refine r_ops tabOk 4 0 ?_
    refine run_end ?_
    obtain rfl := Option.some.inj h
    refine tri_ret ?_
    exact k_retE

noncomputable def laws_eqStepS_l1 (a0 : List S_impl_Step) (a1 : List S_impl_Step) (s2 : Int) : Option ((Int) ⊕ ((Unit) ⊕ (Bool))) :=
  (bif (decide (s2 < (a0.length : Int))) then ((at? a0 s2).bind fun x6 => ((at? a1 s2).bind fun x8 => ((laws_eqStep x6 x8).bind fun v10 => (bif (!v10) then (some (Sum.inr (Sum.inr false))) else (some (Sum.inl (IntKind.i64.wrap (s2 + (1 : Int))))))))) else (some (Sum.inr (Sum.inl ()))))
noncomputable def laws_eqStepS (a0 : List S_impl_Step) (a1 : List S_impl_Step) : Option (Bool) :=
  (bif ((a0.length : Int) != (a1.length : Int)) then (some false) else (Option.bind (loopC (laws_eqStepS_l1 a0 a1) (0 : Int)) (early fun (v3 : Unit) => (some true))))
theorem laws_eqStepS_good (a0 : List S_impl_Step) (a1 : List S_impl_Step) {r : Bool} (h : laws_eqStepS a0 a1 = some r) : GoodD Tryd.prog 12 [.val false ((EL E_impl_Step 12).row false a0), .val false ((EL E_impl_Step 12).row false a1)] [(false, EB.row false r)] [[], []] := by
  have F : True := trivial
  unfold laws_eqStepS at h
  refine good_body tabOk 27 [.tmp 4] Tryd.func12 rfl rfl rfl rfl ?_
  refine k_seq tabOk ?_
  refine tri_seq ?_
  refine k_seq tabOk ?_
  rcases of_bif h with ⟨e1, h⟩ | ⟨e1, h⟩
  · replace F := fct e1 F
    refine k_then ?_
    refine k_seq tabOk ?_
    obtain rfl := Option.some.inj h
    refine tri_ret ?_
    exact k_retE
  · replace F := fct e1 F
    refine k_else ?_
    refine tri_skip ?_
    refine thn_normal ?_
    refine tri_seq ?_
    refine k_seq tabOk ?_
    refine tri_block ?_
    obtain ⟨o15, e13, h⟩ := of_bind h
    refine k_loopE (fun (s2 : Int) => ⟨[((0, 0), .val false [.sl false 12 (a0 : List S_impl_Step).length (E_impl_Step.L false a0)]), ((1, 0), .val false [.sl false 12 (a1 : List S_impl_Step).length (E_impl_Step.L false a1)]), ((5, 0), .val false [.int .i64 s2])], [], 27, []⟩) 0 (fun (v3 : Unit) => ⟨[], [], 27, []⟩) r e13 ?_ ?_ (fun _ e14 => early_r h e14) (fun v3 e14 => ?_)
    · exact i_to [(0, 0), (1, 0), (5, 0)] []
    · clear h e13
      intro s2 o4 h
      unfold laws_eqStepS_l1 at h
      refine tri_seq ?_
      refine k_seq tabOk ?_
      rcases of_bif h with ⟨e5, h⟩ | ⟨e5, h⟩
      · replace F := fct e5 F
        refine k_then ?_
        refine tri_skip ?_
        refine thn_normal ?_
        refine tri_seq ?_
        refine tri_block ?_
        refine k_draw mixed 10 ?_
        refine d_begin [[], [], [1, 0], [0, 1, 2], [], [], [5, 4], [4, 5, 6], [6, 5, 4, 7, 2, 1, 0, 3], [3, 0, 1, 2, 7, 4, 5, 6, 8]] ?_
        intro acc
        replace acc := a_q tabOk 0 [] acc
        replace acc := a_q tabOk 1 [] acc
        obtain ⟨x6, e7, h⟩ := of_bind h
        replace F := fct (at_range e7) F
        replace acc := a_q tabOk 2 [0, 1] acc
        replace F := fct (at_fs E_impl_Step false 12 [] 12 e7) F
        replace acc := a_q tabOk 3 [0, 1, 2] acc
        replace acc := a_q tabOk 4 [] acc
        replace acc := a_q tabOk 5 [] acc
        obtain ⟨x8, e9, h⟩ := of_bind h
        replace F := fct (at_range e9) F
        replace acc := a_q tabOk 6 [4, 5] acc
        replace F := fct (at_fs E_impl_Step false 12 [] 12 e9) F
        replace acc := a_q tabOk 7 [4, 5, 6] acc
        obtain ⟨v10, e11, h⟩ := of_bind h
        replace acc := a_call tabOk 8 [0, 1, 2, 3, 4, 5, 6, 7] [.val, .val] acc (laws_eqStep_good _ _ e11)
        replace acc := a_q tabOk 9 [0, 1, 2, 3, 4, 5, 6, 7, 8] acc
        refine d_tail [] acc ?_
        clear acc
        refine d_done ?_
        rcases of_bif h with ⟨e12, h⟩ | ⟨e12, h⟩
        · replace F := fct e12 F
          refine k_then ?_
          refine k_seq tabOk ?_
          obtain rfl := Option.some.inj h
          refine tri_ret ?_
          refine q_ret (fun e => ?_)
          subst e
          exact k_retE
        · replace F := fct e12 F
          refine k_else ?_
          refine tri_skip ?_
          refine inblk_normal ?_
          refine thn_normal ?_
          refine k_one tabOk ?_
          obtain rfl := Option.some.inj h
          exact and_rfl (i_to [(0, 0), (1, 0), (5, 0)] [])
      · replace F := fct e5 F
        refine k_else ?_
        refine tri_exit ?_
        refine thn_exit ?_
        obtain rfl := Option.some.inj h
        exact and_rfl (i_to [] [])
    · replace h := early_l h e14
      refine inblk_here ?_
      refine thn_normal ?_
      refine k_seq tabOk ?_
      obtain rfl := Option.some.inj h
      refine tri_ret ?_
      exact k_retE

noncomputable def laws_markText_l1  (s2 : Int × (List UInt8)) : Option ((Int × (List UInt8)) ⊕ ((List UInt8))) :=
  (bif (decide ((0 : Int) < s2.1)) then (bif decide (([(U8 (IntKind.u8.wrap (IntKind.i64.wrap ((48 : Int) + (s2.1.tmod (10 : Int))))))] : List UInt8).length + s2.2.length ≤ 9223372036854775807) then (some (Sum.inl ((IntKind.i64.wrap (s2.1.tdiv (10 : Int))), (([(U8 (IntKind.u8.wrap (IntKind.i64.wrap ((48 : Int) + (s2.1.tmod (10 : Int))))))] : List UInt8) ++ s2.2)))) else none) else (some (Sum.inr s2.2)))
noncomputable def laws_markText (a0 : Int) : Option ((List UInt8)) :=
  (bif (decide (a0 ≤ (0 : Int))) then (some [109, 48]) else (Option.bind (loopC laws_markText_l1 (a0, [])) fun v3 => (bif decide (([109] : List UInt8).length + v3.length ≤ 9223372036854775807) then (some (([109] : List UInt8) ++ v3)) else none)))
theorem laws_markText_good (a0 : Int) {r : (List UInt8)} (h : laws_markText a0 = some r) : GoodD Tryd.prog 33 [.val false ((EI .i64).row false a0)] [(false, ES.row false r)] [[]] := by
  have F : True := trivial
  unfold laws_markText at h
  refine good_body tabOk 20 [.tmp 2] Tryd.func33 rfl rfl rfl rfl ?_
  refine k_seq tabOk ?_
  refine tri_seq ?_
  refine k_seq tabOk ?_
  rcases of_bif h with ⟨e1, h⟩ | ⟨e1, h⟩
  · replace F := fct e1 F
    refine k_then ?_
    refine k_seq tabOk ?_
    obtain rfl := Option.some.inj h
    refine tri_ret ?_
    exact k_retE
  · replace F := fct e1 F
    refine k_else ?_
    refine tri_skip ?_
    refine thn_normal ?_
    refine k_seq tabOk ?_
    refine tri_seq ?_
    refine tri_block ?_
    obtain ⟨v3, e7, h⟩ := of_bind h
    refine k_loopX (fun (s2 : Int × (List UInt8)) => ⟨[((0, 0), .val false [.int .i64 s2.1]), ((3, 0), .val false [.str s2.2])], [], 20, []⟩) 0 (fun (v3 : (List UInt8)) => ⟨[((3, 0), .val false [.str v3])], [], 20, []⟩) e7 ?_ ?_ ?_
    · exact i_to [(0, 0), (3, 0)] []
    · clear h e7
      intro s2 o4 h
      unfold laws_markText_l1 at h
      refine tri_seq ?_
      refine k_seq tabOk ?_
      rcases of_bif h with ⟨e5, h⟩ | ⟨e5, h⟩
      · replace F := fct e5 F
        refine k_then ?_
        refine tri_skip ?_
        refine thn_normal ?_
        refine tri_block ?_
        obtain ⟨e6, h⟩ := of_chk h
        replace F := fct (of_decide_eq_true e6) F
        refine k_seq tabOk ?_
        refine k_one tabOk ?_
        refine inblk_normal ?_
        obtain rfl := Option.some.inj h
        exact and_rfl (i_to [(0, 0), (3, 0)] [])
      · replace F := fct e5 F
        refine k_else ?_
        refine tri_exit ?_
        refine thn_exit ?_
        obtain rfl := Option.some.inj h
        exact and_rfl (i_to [(3, 0)] [])
    · refine inblk_here ?_
      refine thn_normal ?_
      obtain ⟨e9, h⟩ := of_chk h
      replace F := fct (of_decide_eq_true e9) F
      refine k_seq tabOk ?_
      obtain rfl := Option.some.inj h
      refine tri_ret ?_
      exact k_retE

noncomputable def laws_markStepS_l1  (s1 : Int × Int × (List S_impl_Step)) : Option ((Int × Int × (List S_impl_Step)) ⊕ (Int × (List S_impl_Step))) :=
  (bif (decide (s1.2.1 < (s1.2.2.length : Int))) then ((at? s1.2.2 s1.2.1).bind fun x5 => ((at? (s1.2.2.set s1.2.1.toNat (S_impl_Step.mk s1.1 x5.f_A x5.f_B x5.f_Keep x5.f_Call)) s1.2.1).bind fun x7 => ((at? ((s1.2.2.set s1.2.1.toNat (S_impl_Step.mk s1.1 x5.f_A x5.f_B x5.f_Keep x5.f_Call)).set s1.2.1.toNat (S_impl_Step.mk x7.f_Kind (IntKind.i64.wrap (s1.1 + (1 : Int))) x7.f_B x7.f_Keep x7.f_Call)) s1.2.1).bind fun x9 => ((at? (((s1.2.2.set s1.2.1.toNat (S_impl_Step.mk s1.1 x5.f_A x5.f_B x5.f_Keep x5.f_Call)).set s1.2.1.toNat (S_impl_Step.mk x7.f_Kind (IntKind.i64.wrap (s1.1 + (1 : Int))) x7.f_B x7.f_Keep x7.f_Call)).set s1.2.1.toNat (S_impl_Step.mk x9.f_Kind x9.f_A (IntKind.i64.wrap ((IntKind.i64.wrap (s1.1 + (1 : Int))) + (1 : Int))) x9.f_Keep x9.f_Call)) s1.2.1).bind fun x11 => ((laws_markIntS x11.f_Keep (IntKind.i64.wrap ((IntKind.i64.wrap ((IntKind.i64.wrap (s1.1 + (1 : Int))) + (1 : Int))) + (1 : Int)))).bind fun v13 => ((at? ((((s1.2.2.set s1.2.1.toNat (S_impl_Step.mk s1.1 x5.f_A x5.f_B x5.f_Keep x5.f_Call)).set s1.2.1.toNat (S_impl_Step.mk x7.f_Kind (IntKind.i64.wrap (s1.1 + (1 : Int))) x7.f_B x7.f_Keep x7.f_Call)).set s1.2.1.toNat (S_impl_Step.mk x9.f_Kind x9.f_A (IntKind.i64.wrap ((IntKind.i64.wrap (s1.1 + (1 : Int))) + (1 : Int))) x9.f_Keep x9.f_Call)).set s1.2.1.toNat (S_impl_Step.mk x11.f_Kind x11.f_A x11.f_B v13.2 x11.f_Call)) s1.2.1).bind fun x15 => ((at? (((((s1.2.2.set s1.2.1.toNat (S_impl_Step.mk s1.1 x5.f_A x5.f_B x5.f_Keep x5.f_Call)).set s1.2.1.toNat (S_impl_Step.mk x7.f_Kind (IntKind.i64.wrap (s1.1 + (1 : Int))) x7.f_B x7.f_Keep x7.f_Call)).set s1.2.1.toNat (S_impl_Step.mk x9.f_Kind x9.f_A (IntKind.i64.wrap ((IntKind.i64.wrap (s1.1 + (1 : Int))) + (1 : Int))) x9.f_Keep x9.f_Call)).set s1.2.1.toNat (S_impl_Step.mk x11.f_Kind x11.f_A x11.f_B v13.2 x11.f_Call)).set s1.2.1.toNat (S_impl_Step.mk x15.f_Kind x15.f_A x15.f_B x15.f_Keep (S_impl_Call.mk v13.1 x15.f_Call.f_Ask))) s1.2.1).bind fun x17 => ((laws_markText (IntKind.i64.wrap ((IntKind.i64.wrap (v13.1 + (1 : Int))) + (1 : Int)))).bind fun v19 => ((at? ((((((s1.2.2.set s1.2.1.toNat (S_impl_Step.mk s1.1 x5.f_A x5.f_B x5.f_Keep x5.f_Call)).set s1.2.1.toNat (S_impl_Step.mk x7.f_Kind (IntKind.i64.wrap (s1.1 + (1 : Int))) x7.f_B x7.f_Keep x7.f_Call)).set s1.2.1.toNat (S_impl_Step.mk x9.f_Kind x9.f_A (IntKind.i64.wrap ((IntKind.i64.wrap (s1.1 + (1 : Int))) + (1 : Int))) x9.f_Keep x9.f_Call)).set s1.2.1.toNat (S_impl_Step.mk x11.f_Kind x11.f_A x11.f_B v13.2 x11.f_Call)).set s1.2.1.toNat (S_impl_Step.mk x15.f_Kind x15.f_A x15.f_B x15.f_Keep (S_impl_Call.mk v13.1 x15.f_Call.f_Ask))).set s1.2.1.toNat (S_impl_Step.mk x17.f_Kind x17.f_A x17.f_B x17.f_Keep (S_impl_Call.mk x17.f_Call.f_Kind (S_impl_Ask.mk (IntKind.i64.wrap (v13.1 + (1 : Int))) x17.f_Call.f_Ask.f_Key x17.f_Call.f_Ask.f_Val x17.f_Call.f_Ask.f_Range x17.f_Call.f_Ask.f_Most x17.f_Call.f_Ask.f_Back)))) s1.2.1).bind fun x21 => ((laws_markText (IntKind.i64.wrap ((IntKind.i64.wrap ((IntKind.i64.wrap (v13.1 + (1 : Int))) + (1 : Int))) + (1 : Int)))).bind fun v23 => ((at? (((((((s1.2.2.set s1.2.1.toNat (S_impl_Step.mk s1.1 x5.f_A x5.f_B x5.f_Keep x5.f_Call)).set s1.2.1.toNat (S_impl_Step.mk x7.f_Kind (IntKind.i64.wrap (s1.1 + (1 : Int))) x7.f_B x7.f_Keep x7.f_Call)).set s1.2.1.toNat (S_impl_Step.mk x9.f_Kind x9.f_A (IntKind.i64.wrap ((IntKind.i64.wrap (s1.1 + (1 : Int))) + (1 : Int))) x9.f_Keep x9.f_Call)).set s1.2.1.toNat (S_impl_Step.mk x11.f_Kind x11.f_A x11.f_B v13.2 x11.f_Call)).set s1.2.1.toNat (S_impl_Step.mk x15.f_Kind x15.f_A x15.f_B x15.f_Keep (S_impl_Call.mk v13.1 x15.f_Call.f_Ask))).set s1.2.1.toNat (S_impl_Step.mk x17.f_Kind x17.f_A x17.f_B x17.f_Keep (S_impl_Call.mk x17.f_Call.f_Kind (S_impl_Ask.mk (IntKind.i64.wrap (v13.1 + (1 : Int))) x17.f_Call.f_Ask.f_Key x17.f_Call.f_Ask.f_Val x17.f_Call.f_Ask.f_Range x17.f_Call.f_Ask.f_Most x17.f_Call.f_Ask.f_Back)))).set s1.2.1.toNat (S_impl_Step.mk x21.f_Kind x21.f_A x21.f_B x21.f_Keep (S_impl_Call.mk x21.f_Call.f_Kind (S_impl_Ask.mk x21.f_Call.f_Ask.f_Kind v19 x21.f_Call.f_Ask.f_Val x21.f_Call.f_Ask.f_Range x21.f_Call.f_Ask.f_Most x21.f_Call.f_Ask.f_Back)))) s1.2.1).bind fun x25 => ((laws_markText (IntKind.i64.wrap ((IntKind.i64.wrap ((IntKind.i64.wrap ((IntKind.i64.wrap (v13.1 + (1 : Int))) + (1 : Int))) + (1 : Int))) + (1 : Int)))).bind fun v27 => ((at? ((((((((s1.2.2.set s1.2.1.toNat (S_impl_Step.mk s1.1 x5.f_A x5.f_B x5.f_Keep x5.f_Call)).set s1.2.1.toNat (S_impl_Step.mk x7.f_Kind (IntKind.i64.wrap (s1.1 + (1 : Int))) x7.f_B x7.f_Keep x7.f_Call)).set s1.2.1.toNat (S_impl_Step.mk x9.f_Kind x9.f_A (IntKind.i64.wrap ((IntKind.i64.wrap (s1.1 + (1 : Int))) + (1 : Int))) x9.f_Keep x9.f_Call)).set s1.2.1.toNat (S_impl_Step.mk x11.f_Kind x11.f_A x11.f_B v13.2 x11.f_Call)).set s1.2.1.toNat (S_impl_Step.mk x15.f_Kind x15.f_A x15.f_B x15.f_Keep (S_impl_Call.mk v13.1 x15.f_Call.f_Ask))).set s1.2.1.toNat (S_impl_Step.mk x17.f_Kind x17.f_A x17.f_B x17.f_Keep (S_impl_Call.mk x17.f_Call.f_Kind (S_impl_Ask.mk (IntKind.i64.wrap (v13.1 + (1 : Int))) x17.f_Call.f_Ask.f_Key x17.f_Call.f_Ask.f_Val x17.f_Call.f_Ask.f_Range x17.f_Call.f_Ask.f_Most x17.f_Call.f_Ask.f_Back)))).set s1.2.1.toNat (S_impl_Step.mk x21.f_Kind x21.f_A x21.f_B x21.f_Keep (S_impl_Call.mk x21.f_Call.f_Kind (S_impl_Ask.mk x21.f_Call.f_Ask.f_Kind v19 x21.f_Call.f_Ask.f_Val x21.f_Call.f_Ask.f_Range x21.f_Call.f_Ask.f_Most x21.f_Call.f_Ask.f_Back)))).set s1.2.1.toNat (S_impl_Step.mk x25.f_Kind x25.f_A x25.f_B x25.f_Keep (S_impl_Call.mk x25.f_Call.f_Kind (S_impl_Ask.mk x25.f_Call.f_Ask.f_Kind x25.f_Call.f_Ask.f_Key v23 x25.f_Call.f_Ask.f_Range x25.f_Call.f_Ask.f_Most x25.f_Call.f_Ask.f_Back)))) s1.2.1).bind fun x29 => ((laws_markText (IntKind.i64.wrap ((IntKind.i64.wrap ((IntKind.i64.wrap ((IntKind.i64.wrap ((IntKind.i64.wrap (v13.1 + (1 : Int))) + (1 : Int))) + (1 : Int))) + (1 : Int))) + (1 : Int)))).bind fun v31 => ((at? (((((((((s1.2.2.set s1.2.1.toNat (S_impl_Step.mk s1.1 x5.f_A x5.f_B x5.f_Keep x5.f_Call)).set s1.2.1.toNat (S_impl_Step.mk x7.f_Kind (IntKind.i64.wrap (s1.1 + (1 : Int))) x7.f_B x7.f_Keep x7.f_Call)).set s1.2.1.toNat (S_impl_Step.mk x9.f_Kind x9.f_A (IntKind.i64.wrap ((IntKind.i64.wrap (s1.1 + (1 : Int))) + (1 : Int))) x9.f_Keep x9.f_Call)).set s1.2.1.toNat (S_impl_Step.mk x11.f_Kind x11.f_A x11.f_B v13.2 x11.f_Call)).set s1.2.1.toNat (S_impl_Step.mk x15.f_Kind x15.f_A x15.f_B x15.f_Keep (S_impl_Call.mk v13.1 x15.f_Call.f_Ask))).set s1.2.1.toNat (S_impl_Step.mk x17.f_Kind x17.f_A x17.f_B x17.f_Keep (S_impl_Call.mk x17.f_Call.f_Kind (S_impl_Ask.mk (IntKind.i64.wrap (v13.1 + (1 : Int))) x17.f_Call.f_Ask.f_Key x17.f_Call.f_Ask.f_Val x17.f_Call.f_Ask.f_Range x17.f_Call.f_Ask.f_Most x17.f_Call.f_Ask.f_Back)))).set s1.2.1.toNat (S_impl_Step.mk x21.f_Kind x21.f_A x21.f_B x21.f_Keep (S_impl_Call.mk x21.f_Call.f_Kind (S_impl_Ask.mk x21.f_Call.f_Ask.f_Kind v19 x21.f_Call.f_Ask.f_Val x21.f_Call.f_Ask.f_Range x21.f_Call.f_Ask.f_Most x21.f_Call.f_Ask.f_Back)))).set s1.2.1.toNat (S_impl_Step.mk x25.f_Kind x25.f_A x25.f_B x25.f_Keep (S_impl_Call.mk x25.f_Call.f_Kind (S_impl_Ask.mk x25.f_Call.f_Ask.f_Kind x25.f_Call.f_Ask.f_Key v23 x25.f_Call.f_Ask.f_Range x25.f_Call.f_Ask.f_Most x25.f_Call.f_Ask.f_Back)))).set s1.2.1.toNat (S_impl_Step.mk x29.f_Kind x29.f_A x29.f_B x29.f_Keep (S_impl_Call.mk x29.f_Call.f_Kind (S_impl_Ask.mk x29.f_Call.f_Ask.f_Kind x29.f_Call.f_Ask.f_Key x29.f_Call.f_Ask.f_Val (S_impl_Range.mk v27 x29.f_Call.f_Ask.f_Range.f_Hi) x29.f_Call.f_Ask.f_Most x29.f_Call.f_Ask.f_Back)))) s1.2.1).bind fun x33 => ((at? ((((((((((s1.2.2.set s1.2.1.toNat (S_impl_Step.mk s1.1 x5.f_A x5.f_B x5.f_Keep x5.f_Call)).set s1.2.1.toNat (S_impl_Step.mk x7.f_Kind (IntKind.i64.wrap (s1.1 + (1 : Int))) x7.f_B x7.f_Keep x7.f_Call)).set s1.2.1.toNat (S_impl_Step.mk x9.f_Kind x9.f_A (IntKind.i64.wrap ((IntKind.i64.wrap (s1.1 + (1 : Int))) + (1 : Int))) x9.f_Keep x9.f_Call)).set s1.2.1.toNat (S_impl_Step.mk x11.f_Kind x11.f_A x11.f_B v13.2 x11.f_Call)).set s1.2.1.toNat (S_impl_Step.mk x15.f_Kind x15.f_A x15.f_B x15.f_Keep (S_impl_Call.mk v13.1 x15.f_Call.f_Ask))).set s1.2.1.toNat (S_impl_Step.mk x17.f_Kind x17.f_A x17.f_B x17.f_Keep (S_impl_Call.mk x17.f_Call.f_Kind (S_impl_Ask.mk (IntKind.i64.wrap (v13.1 + (1 : Int))) x17.f_Call.f_Ask.f_Key x17.f_Call.f_Ask.f_Val x17.f_Call.f_Ask.f_Range x17.f_Call.f_Ask.f_Most x17.f_Call.f_Ask.f_Back)))).set s1.2.1.toNat (S_impl_Step.mk x21.f_Kind x21.f_A x21.f_B x21.f_Keep (S_impl_Call.mk x21.f_Call.f_Kind (S_impl_Ask.mk x21.f_Call.f_Ask.f_Kind v19 x21.f_Call.f_Ask.f_Val x21.f_Call.f_Ask.f_Range x21.f_Call.f_Ask.f_Most x21.f_Call.f_Ask.f_Back)))).set s1.2.1.toNat (S_impl_Step.mk x25.f_Kind x25.f_A x25.f_B x25.f_Keep (S_impl_Call.mk x25.f_Call.f_Kind (S_impl_Ask.mk x25.f_Call.f_Ask.f_Kind x25.f_Call.f_Ask.f_Key v23 x25.f_Call.f_Ask.f_Range x25.f_Call.f_Ask.f_Most x25.f_Call.f_Ask.f_Back)))).set s1.2.1.toNat (S_impl_Step.mk x29.f_Kind x29.f_A x29.f_B x29.f_Keep (S_impl_Call.mk x29.f_Call.f_Kind (S_impl_Ask.mk x29.f_Call.f_Ask.f_Kind x29.f_Call.f_Ask.f_Key x29.f_Call.f_Ask.f_Val (S_impl_Range.mk v27 x29.f_Call.f_Ask.f_Range.f_Hi) x29.f_Call.f_Ask.f_Most x29.f_Call.f_Ask.f_Back)))).set s1.2.1.toNat (S_impl_Step.mk x33.f_Kind x33.f_A x33.f_B x33.f_Keep (S_impl_Call.mk x33.f_Call.f_Kind (S_impl_Ask.mk x33.f_Call.f_Ask.f_Kind x33.f_Call.f_Ask.f_Key x33.f_Call.f_Ask.f_Val (S_impl_Range.mk x33.f_Call.f_Ask.f_Range.f_Lo v31) x33.f_Call.f_Ask.f_Most x33.f_Call.f_Ask.f_Back)))) s1.2.1).bind fun x35 => ((at? (((((((((((s1.2.2.set s1.2.1.toNat (S_impl_Step.mk s1.1 x5.f_A x5.f_B x5.f_Keep x5.f_Call)).set s1.2.1.toNat (S_impl_Step.mk x7.f_Kind (IntKind.i64.wrap (s1.1 + (1 : Int))) x7.f_B x7.f_Keep x7.f_Call)).set s1.2.1.toNat (S_impl_Step.mk x9.f_Kind x9.f_A (IntKind.i64.wrap ((IntKind.i64.wrap (s1.1 + (1 : Int))) + (1 : Int))) x9.f_Keep x9.f_Call)).set s1.2.1.toNat (S_impl_Step.mk x11.f_Kind x11.f_A x11.f_B v13.2 x11.f_Call)).set s1.2.1.toNat (S_impl_Step.mk x15.f_Kind x15.f_A x15.f_B x15.f_Keep (S_impl_Call.mk v13.1 x15.f_Call.f_Ask))).set s1.2.1.toNat (S_impl_Step.mk x17.f_Kind x17.f_A x17.f_B x17.f_Keep (S_impl_Call.mk x17.f_Call.f_Kind (S_impl_Ask.mk (IntKind.i64.wrap (v13.1 + (1 : Int))) x17.f_Call.f_Ask.f_Key x17.f_Call.f_Ask.f_Val x17.f_Call.f_Ask.f_Range x17.f_Call.f_Ask.f_Most x17.f_Call.f_Ask.f_Back)))).set s1.2.1.toNat (S_impl_Step.mk x21.f_Kind x21.f_A x21.f_B x21.f_Keep (S_impl_Call.mk x21.f_Call.f_Kind (S_impl_Ask.mk x21.f_Call.f_Ask.f_Kind v19 x21.f_Call.f_Ask.f_Val x21.f_Call.f_Ask.f_Range x21.f_Call.f_Ask.f_Most x21.f_Call.f_Ask.f_Back)))).set s1.2.1.toNat (S_impl_Step.mk x25.f_Kind x25.f_A x25.f_B x25.f_Keep (S_impl_Call.mk x25.f_Call.f_Kind (S_impl_Ask.mk x25.f_Call.f_Ask.f_Kind x25.f_Call.f_Ask.f_Key v23 x25.f_Call.f_Ask.f_Range x25.f_Call.f_Ask.f_Most x25.f_Call.f_Ask.f_Back)))).set s1.2.1.toNat (S_impl_Step.mk x29.f_Kind x29.f_A x29.f_B x29.f_Keep (S_impl_Call.mk x29.f_Call.f_Kind (S_impl_Ask.mk x29.f_Call.f_Ask.f_Kind x29.f_Call.f_Ask.f_Key x29.f_Call.f_Ask.f_Val (S_impl_Range.mk v27 x29.f_Call.f_Ask.f_Range.f_Hi) x29.f_Call.f_Ask.f_Most x29.f_Call.f_Ask.f_Back)))).set s1.2.1.toNat (S_impl_Step.mk x33.f_Kind x33.f_A x33.f_B x33.f_Keep (S_impl_Call.mk x33.f_Call.f_Kind (S_impl_Ask.mk x33.f_Call.f_Ask.f_Kind x33.f_Call.f_Ask.f_Key x33.f_Call.f_Ask.f_Val (S_impl_Range.mk x33.f_Call.f_Ask.f_Range.f_Lo v31) x33.f_Call.f_Ask.f_Most x33.f_Call.f_Ask.f_Back)))).set s1.2.1.toNat (S_impl_Step.mk x35.f_Kind x35.f_A x35.f_B x35.f_Keep (S_impl_Call.mk x35.f_Call.f_Kind (S_impl_Ask.mk x35.f_Call.f_Ask.f_Kind x35.f_Call.f_Ask.f_Key x35.f_Call.f_Ask.f_Val x35.f_Call.f_Ask.f_Range (IntKind.i64.wrap ((IntKind.i64.wrap ((IntKind.i64.wrap ((IntKind.i64.wrap ((IntKind.i64.wrap ((IntKind.i64.wrap (v13.1 + (1 : Int))) + (1 : Int))) + (1 : Int))) + (1 : Int))) + (1 : Int))) + (1 : Int))) x35.f_Call.f_Ask.f_Back)))) s1.2.1).bind fun x37 => (some (Sum.inl ((IntKind.i64.wrap ((IntKind.i64.wrap ((IntKind.i64.wrap ((IntKind.i64.wrap ((IntKind.i64.wrap ((IntKind.i64.wrap ((IntKind.i64.wrap ((IntKind.i64.wrap (v13.1 + (1 : Int))) + (1 : Int))) + (1 : Int))) + (1 : Int))) + (1 : Int))) + (1 : Int))) + (1 : Int))) + (1 : Int))), (IntKind.i64.wrap (s1.2.1 + (1 : Int))), ((((((((((((s1.2.2.set s1.2.1.toNat (S_impl_Step.mk s1.1 x5.f_A x5.f_B x5.f_Keep x5.f_Call)).set s1.2.1.toNat (S_impl_Step.mk x7.f_Kind (IntKind.i64.wrap (s1.1 + (1 : Int))) x7.f_B x7.f_Keep x7.f_Call)).set s1.2.1.toNat (S_impl_Step.mk x9.f_Kind x9.f_A (IntKind.i64.wrap ((IntKind.i64.wrap (s1.1 + (1 : Int))) + (1 : Int))) x9.f_Keep x9.f_Call)).set s1.2.1.toNat (S_impl_Step.mk x11.f_Kind x11.f_A x11.f_B v13.2 x11.f_Call)).set s1.2.1.toNat (S_impl_Step.mk x15.f_Kind x15.f_A x15.f_B x15.f_Keep (S_impl_Call.mk v13.1 x15.f_Call.f_Ask))).set s1.2.1.toNat (S_impl_Step.mk x17.f_Kind x17.f_A x17.f_B x17.f_Keep (S_impl_Call.mk x17.f_Call.f_Kind (S_impl_Ask.mk (IntKind.i64.wrap (v13.1 + (1 : Int))) x17.f_Call.f_Ask.f_Key x17.f_Call.f_Ask.f_Val x17.f_Call.f_Ask.f_Range x17.f_Call.f_Ask.f_Most x17.f_Call.f_Ask.f_Back)))).set s1.2.1.toNat (S_impl_Step.mk x21.f_Kind x21.f_A x21.f_B x21.f_Keep (S_impl_Call.mk x21.f_Call.f_Kind (S_impl_Ask.mk x21.f_Call.f_Ask.f_Kind v19 x21.f_Call.f_Ask.f_Val x21.f_Call.f_Ask.f_Range x21.f_Call.f_Ask.f_Most x21.f_Call.f_Ask.f_Back)))).set s1.2.1.toNat (S_impl_Step.mk x25.f_Kind x25.f_A x25.f_B x25.f_Keep (S_impl_Call.mk x25.f_Call.f_Kind (S_impl_Ask.mk x25.f_Call.f_Ask.f_Kind x25.f_Call.f_Ask.f_Key v23 x25.f_Call.f_Ask.f_Range x25.f_Call.f_Ask.f_Most x25.f_Call.f_Ask.f_Back)))).set s1.2.1.toNat (S_impl_Step.mk x29.f_Kind x29.f_A x29.f_B x29.f_Keep (S_impl_Call.mk x29.f_Call.f_Kind (S_impl_Ask.mk x29.f_Call.f_Ask.f_Kind x29.f_Call.f_Ask.f_Key x29.f_Call.f_Ask.f_Val (S_impl_Range.mk v27 x29.f_Call.f_Ask.f_Range.f_Hi) x29.f_Call.f_Ask.f_Most x29.f_Call.f_Ask.f_Back)))).set s1.2.1.toNat (S_impl_Step.mk x33.f_Kind x33.f_A x33.f_B x33.f_Keep (S_impl_Call.mk x33.f_Call.f_Kind (S_impl_Ask.mk x33.f_Call.f_Ask.f_Kind x33.f_Call.f_Ask.f_Key x33.f_Call.f_Ask.f_Val (S_impl_Range.mk x33.f_Call.f_Ask.f_Range.f_Lo v31) x33.f_Call.f_Ask.f_Most x33.f_Call.f_Ask.f_Back)))).set s1.2.1.toNat (S_impl_Step.mk x35.f_Kind x35.f_A x35.f_B x35.f_Keep (S_impl_Call.mk x35.f_Call.f_Kind (S_impl_Ask.mk x35.f_Call.f_Ask.f_Kind x35.f_Call.f_Ask.f_Key x35.f_Call.f_Ask.f_Val x35.f_Call.f_Ask.f_Range (IntKind.i64.wrap ((IntKind.i64.wrap ((IntKind.i64.wrap ((IntKind.i64.wrap ((IntKind.i64.wrap ((IntKind.i64.wrap (v13.1 + (1 : Int))) + (1 : Int))) + (1 : Int))) + (1 : Int))) + (1 : Int))) + (1 : Int))) x35.f_Call.f_Ask.f_Back)))).set s1.2.1.toNat (S_impl_Step.mk x37.f_Kind x37.f_A x37.f_B x37.f_Keep (S_impl_Call.mk x37.f_Call.f_Kind (S_impl_Ask.mk x37.f_Call.f_Ask.f_Kind x37.f_Call.f_Ask.f_Key x37.f_Call.f_Ask.f_Val x37.f_Call.f_Ask.f_Range x37.f_Call.f_Ask.f_Most (((IntKind.i64.wrap ((IntKind.i64.wrap ((IntKind.i64.wrap ((IntKind.i64.wrap ((IntKind.i64.wrap ((IntKind.i64.wrap ((IntKind.i64.wrap (v13.1 + (1 : Int))) + (1 : Int))) + (1 : Int))) + (1 : Int))) + (1 : Int))) + (1 : Int))) + (1 : Int))).tmod (3 : Int)) == (0 : Int)))))))))))))))))))))))))) else (some (Sum.inr (s1.1, s1.2.2))))
noncomputable def laws_markStepS (a0 : List S_impl_Step) (a1 : Int) : Option (Int × (List S_impl_Step)) :=
  (Option.bind (loopC laws_markStepS_l1 (a1, (0 : Int), a0)) fun v2 => (some (v2.1, v2.2)))
theorem laws_markStepS_good (a0 : List S_impl_Step) (a1 : Int) {r : Int × (List S_impl_Step)} (h : laws_markStepS a0 a1 = some r) : GoodD Tryd.prog 13 [.ino false ((EL E_impl_Step 12).row true a0), .val false ((EI .i64).row false a1)] [(false, (EI .i64).row false r.1)] [(EL E_impl_Step 12).row true r.2, []] := by
  have F : True := trivial
  unfold laws_markStepS at h
  refine good_body tabOk 120 [.tmp 4] Tryd.func13 rfl rfl rfl rfl ?_
  refine k_seq tabOk ?_
  refine tri_seq ?_
  refine k_seq tabOk ?_
  refine tri_block ?_
  obtain ⟨v2, e39, h⟩ := of_bind h
  refine k_loopX (fun (s1 : Int × Int × (List S_impl_Step)) => ⟨[((0, 0), .view false (0, 0) [0] 1), ((1, 0), .val false [.int .i64 s1.1]), ((5, 0), .val false [.int .i64 s1.2.1])], [⟨(0, 0), true, [.sl true 12 (s1.2.2 : List S_impl_Step).length (E_impl_Step.L true s1.2.2)]⟩], 120, [(0, 0)]⟩) 0 (fun (v2 : Int × (List S_impl_Step)) => ⟨[((1, 0), .val false [.int .i64 v2.1])], [⟨(0, 0), true, [.sl true 12 (v2.2 : List S_impl_Step).length (E_impl_Step.L true v2.2)]⟩], 120, [(0, 0)]⟩) e39 ?_ ?_ ?_
  · exact i_to [(0, 0), (1, 0), (5, 0)] [(0, 0)]
  · clear h e39
    intro s1 o3 h
    unfold laws_markStepS_l1 at h
    refine tri_seq ?_
    refine k_seq tabOk ?_
    rcases of_bif h with ⟨e4, h⟩ | ⟨e4, h⟩
    · replace F := fct e4 F
      refine k_then ?_
      refine tri_skip ?_
      refine thn_normal ?_
      refine tri_seq ?_
      refine tri_block ?_
      obtain ⟨x5, e6, h⟩ := of_bind h
      replace F := fct (at_range e6) F
      replace F := fct (at_set E_impl_Step true 12 0 1 (S_impl_Step.mk s1.1 x5.f_A x5.f_B x5.f_Keep x5.f_Call) e6 (new := [.int .i64 s1.1])) F
      replace F := fct (at_o E_impl_Step true 12 0 1 e6) F
      refine k_seq tabOk ?_
      refine k_seq tabOk ?_
      obtain ⟨x7, e8, h⟩ := of_bind h
      replace F := fct (at_range e8) F
      replace F := fct (at_set E_impl_Step true 12 1 1 (S_impl_Step.mk x7.f_Kind (IntKind.i64.wrap (s1.1 + (1 : Int))) x7.f_B x7.f_Keep x7.f_Call) e8 (new := [.int .i64 (IntKind.i64.wrap (s1.1 + (1 : Int)))])) F
      replace F := fct (at_o E_impl_Step true 12 1 1 e8) F
      refine k_seq tabOk ?_
      refine k_seq tabOk ?_
      obtain ⟨x9, e10, h⟩ := of_bind h
      replace F := fct (at_range e10) F
      replace F := fct (at_set E_impl_Step true 12 2 1 (S_impl_Step.mk x9.f_Kind x9.f_A (IntKind.i64.wrap ((IntKind.i64.wrap (s1.1 + (1 : Int))) + (1 : Int))) x9.f_Keep x9.f_Call) e10 (new := [.int .i64 (IntKind.i64.wrap ((IntKind.i64.wrap (s1.1 + (1 : Int))) + (1 : Int)))])) F
      replace F := fct (at_o E_impl_Step true 12 2 1 e10) F
      refine k_seq tabOk ?_
      refine k_keep [(0, 0), (1, 0), (5, 0)] [(0, 0)] ?_
      refine k_seq tabOk ?_
      refine k_runs 8 ?_
      obtain ⟨x11, e12, h⟩ := of_bind h
      replace F := fct (at_range e12) F
      replace F := fct (at_o E_impl_Step true 12 3 1 e12) F
      refine r_ops tabOk 6 2 ?_
      obtain ⟨v13, e14, h⟩ := of_bind h
      replace F := fct (at_set E_impl_Step true 12 3 1 (S_impl_Step.mk x11.f_Kind x11.f_A x11.f_B v13.2 x11.f_Call) e12 (new := [.sl true 1 (v13.2 : List Int).length ((EI .i64).L true v13.2)])) F
      refine r_call tabOk 1 [.ino, .val] (laws_markIntS_good _ _ e14) ?_
      refine r_ops tabOk 1 0 ?_
      refine run_end ?_
      obtain ⟨x15, e16, h⟩ := of_bind h
      replace F := fct (at_range e16) F
      replace F := fct (at_set E_impl_Step true 12 4 1 (S_impl_Step.mk x15.f_Kind x15.f_A x15.f_B x15.f_Keep (S_impl_Call.mk v13.1 x15.f_Call.f_Ask)) e16 (new := [.int .i64 v13.1])) F
      replace F := fct (at_o E_impl_Step true 12 4 1 e16) F
      refine k_seq tabOk ?_
      refine k_seq tabOk ?_
      obtain ⟨x17, e18, h⟩ := of_bind h
      replace F := fct (at_range e18) F
      replace F := fct (at_set E_impl_Step true 12 5 1 (S_impl_Step.mk x17.f_Kind x17.f_A x17.f_B x17.f_Keep (S_impl_Call.mk x17.f_Call.f_Kind (S_impl_Ask.mk (IntKind.i64.wrap (v13.1 + (1 : Int))) x17.f_Call.f_Ask.f_Key x17.f_Call.f_Ask.f_Val x17.f_Call.f_Ask.f_Range x17.f_Call.f_Ask.f_Most x17.f_Call.f_Ask.f_Back))) e18 (new := [.int .i64 (IntKind.i64.wrap (v13.1 + (1 : Int)))])) F
      replace F := fct (at_o E_impl_Step true 12 5 1 e18) F
      refine k_seq tabOk ?_
      refine k_keep [(0, 0), (1, 0), (5, 0)] [(0, 0)] ?_
      refine k_seq tabOk ?_
      refine k_runs 9 ?_
      refine r_ops tabOk 3 6 ?_
      obtain ⟨v19, e20, h⟩ := of_bind h
      refine r_call tabOk 5 [.val] (laws_markText_good _ e20) ?_
      obtain ⟨x21, e22, h⟩ := of_bind h
      replace F := fct (at_range e22) F
      replace F := fct (at_set E_impl_Step true 12 6 1 (S_impl_Step.mk x21.f_Kind x21.f_A x21.f_B x21.f_Keep (S_impl_Call.mk x21.f_Call.f_Kind (S_impl_Ask.mk x21.f_Call.f_Ask.f_Kind v19 x21.f_Call.f_Ask.f_Val x21.f_Call.f_Ask.f_Range x21.f_Call.f_Ask.f_Most x21.f_Call.f_Ask.f_Back))) e22 (new := [.str v19])) F
      replace F := fct (at_o E_impl_Step true 12 6 1 e22) F
      refine r_ops tabOk 5 0 ?_
      refine run_end ?_
      refine k_seq tabOk ?_
      refine k_runs 9 ?_
      refine r_ops tabOk 3 6 ?_
      obtain ⟨v23, e24, h⟩ := of_bind h
      refine r_call tabOk 5 [.val] (laws_markText_good _ e24) ?_
      obtain ⟨x25, e26, h⟩ := of_bind h
      replace F := fct (at_range e26) F
      replace F := fct (at_set E_impl_Step true 12 7 1 (S_impl_Step.mk x25.f_Kind x25.f_A x25.f_B x25.f_Keep (S_impl_Call.mk x25.f_Call.f_Kind (S_impl_Ask.mk x25.f_Call.f_Ask.f_Kind x25.f_Call.f_Ask.f_Key v23 x25.f_Call.f_Ask.f_Range x25.f_Call.f_Ask.f_Most x25.f_Call.f_Ask.f_Back))) e26 (new := [.str v23])) F
      replace F := fct (at_o E_impl_Step true 12 7 1 e26) F
      refine r_ops tabOk 5 0 ?_
      refine run_end ?_
      refine k_keep [(0, 0), (1, 0), (5, 0)] [(0, 0)] ?_
      refine k_seq tabOk ?_
      refine k_runs 10 ?_
      refine r_ops tabOk 3 7 ?_
      obtain ⟨v27, e28, h⟩ := of_bind h
      refine r_call tabOk 6 [.val] (laws_markText_good _ e28) ?_
      obtain ⟨x29, e30, h⟩ := of_bind h
      replace F := fct (at_range e30) F
      replace F := fct (at_set E_impl_Step true 12 8 1 (S_impl_Step.mk x29.f_Kind x29.f_A x29.f_B x29.f_Keep (S_impl_Call.mk x29.f_Call.f_Kind (S_impl_Ask.mk x29.f_Call.f_Ask.f_Kind x29.f_Call.f_Ask.f_Key x29.f_Call.f_Ask.f_Val (S_impl_Range.mk v27 x29.f_Call.f_Ask.f_Range.f_Hi) x29.f_Call.f_Ask.f_Most x29.f_Call.f_Ask.f_Back))) e30 (new := [.str v27])) F
      replace F := fct (at_o E_impl_Step true 12 8 1 e30) F
      refine r_ops tabOk 6 0 ?_
      refine run_end ?_
      refine k_seq tabOk ?_
      refine k_runs 10 ?_
      refine r_ops tabOk 3 7 ?_
      obtain ⟨v31, e32, h⟩ := of_bind h
      refine r_call tabOk 6 [.val] (laws_markText_good _ e32) ?_
      obtain ⟨x33, e34, h⟩ := of_bind h
      replace F := fct (at_range e34) F
      replace F := fct (at_set E_impl_Step true 12 9 1 (S_impl_Step.mk x33.f_Kind x33.f_A x33.f_B x33.f_Keep (S_impl_Call.mk x33.f_Call.f_Kind (S_impl_Ask.mk x33.f_Call.f_Ask.f_Kind x33.f_Call.f_Ask.f_Key x33.f_Call.f_Ask.f_Val (S_impl_Range.mk x33.f_Call.f_Ask.f_Range.f_Lo v31) x33.f_Call.f_Ask.f_Most x33.f_Call.f_Ask.f_Back))) e34 (new := [.str v31])) F
      replace F := fct (at_o E_impl_Step true 12 9 1 e34) F
      refine r_ops tabOk 6 0 ?_
      refine run_end ?_
      refine k_keep [(0, 0), (1, 0), (5, 0)] [(0, 0)] ?_
      refine k_seq tabOk ?_
      obtain ⟨x35, e36, h⟩ := of_bind h
      replace F := fct (at_range e36) F
      replace F := fct (at_set E_impl_Step true 12 10 1 (S_impl_Step.mk x35.f_Kind x35.f_A x35.f_B x35.f_Keep (S_impl_Call.mk x35.f_Call.f_Kind (S_impl_Ask.mk x35.f_Call.f_Ask.f_Kind x35.f_Call.f_Ask.f_Key x35.f_Call.f_Ask.f_Val x35.f_Call.f_Ask.f_Range (IntKind.i64.wrap ((IntKind.i64.wrap ((IntKind.i64.wrap ((IntKind.i64.wrap ((IntKind.i64.wrap ((IntKind.i64.wrap (v13.1 + (1 : Int))) + (1 : Int))) + (1 : Int))) + (1 : Int))) + (1 : Int))) + (1 : Int))) x35.f_Call.f_Ask.f_Back))) e36 (new := [.int .i64 (IntKind.i64.wrap ((IntKind.i64.wrap ((IntKind.i64.wrap ((IntKind.i64.wrap ((IntKind.i64.wrap ((IntKind.i64.wrap (v13.1 + (1 : Int))) + (1 : Int))) + (1 : Int))) + (1 : Int))) + (1 : Int))) + (1 : Int)))])) F
      replace F := fct (at_o E_impl_Step true 12 10 1 e36) F
      refine k_seq tabOk ?_
      refine k_seq tabOk ?_
      obtain ⟨x37, e38, h⟩ := of_bind h
      replace F := fct (at_range e38) F
      replace F := fct (at_set E_impl_Step true 12 11 1 (S_impl_Step.mk x37.f_Kind x37.f_A x37.f_B x37.f_Keep (S_impl_Call.mk x37.f_Call.f_Kind (S_impl_Ask.mk x37.f_Call.f_Ask.f_Kind x37.f_Call.f_Ask.f_Key x37.f_Call.f_Ask.f_Val x37.f_Call.f_Ask.f_Range x37.f_Call.f_Ask.f_Most (((IntKind.i64.wrap ((IntKind.i64.wrap ((IntKind.i64.wrap ((IntKind.i64.wrap ((IntKind.i64.wrap ((IntKind.i64.wrap ((IntKind.i64.wrap (v13.1 + (1 : Int))) + (1 : Int))) + (1 : Int))) + (1 : Int))) + (1 : Int))) + (1 : Int))) + (1 : Int))).tmod (3 : Int)) == (0 : Int))))) e38 (new := [.bool (((IntKind.i64.wrap ((IntKind.i64.wrap ((IntKind.i64.wrap ((IntKind.i64.wrap ((IntKind.i64.wrap ((IntKind.i64.wrap ((IntKind.i64.wrap (v13.1 + (1 : Int))) + (1 : Int))) + (1 : Int))) + (1 : Int))) + (1 : Int))) + (1 : Int))) + (1 : Int))).tmod (3 : Int)) == (0 : Int))])) F
      replace F := fct (at_o E_impl_Step true 12 11 1 e38) F
      refine k_seq tabOk ?_
      refine k_keep [(0, 0), (1, 0), (5, 0)] [(0, 0)] ?_
      refine k_one tabOk ?_
      refine inblk_normal ?_
      refine thn_normal ?_
      refine k_one tabOk ?_
      obtain rfl := Option.some.inj h
      exact and_rfl (i_to [(0, 0), (1, 0), (5, 0)] [(0, 0)])
    · replace F := fct e4 F
      refine k_else ?_
      refine tri_exit ?_
      refine thn_exit ?_
      obtain rfl := Option.some.inj h
      exact and_rfl (i_to [(1, 0)] [(0, 0)])
  · refine inblk_here ?_
    refine thn_normal ?_
    refine k_seq tabOk ?_
    obtain rfl := Option.some.inj h
    refine tri_ret ?_
    exact k_retE

noncomputable def laws_heldStepS_l1 (a0 : List S_impl_Step) (s1 : Int × Int) : Option ((Int × Int) ⊕ ((Int) ⊕ (Int))) :=
  (bif (decide (s1.2 < (a0.length : Int))) then ((at? a0 s1.2).bind fun x5 => (bif (x5.f_Kind != s1.1) then (some (Sum.inr (Sum.inr (-1 : Int)))) else (bif (x5.f_A != (IntKind.i64.wrap (s1.1 + (1 : Int)))) then (some (Sum.inr (Sum.inr (-1 : Int)))) else (bif (x5.f_B != (IntKind.i64.wrap ((IntKind.i64.wrap (s1.1 + (1 : Int))) + (1 : Int)))) then (some (Sum.inr (Sum.inr (-1 : Int)))) else ((laws_heldIntS x5.f_Keep (IntKind.i64.wrap ((IntKind.i64.wrap ((IntKind.i64.wrap (s1.1 + (1 : Int))) + (1 : Int))) + (1 : Int)))).bind fun v10 => (bif (decide (v10 < (0 : Int))) then (some (Sum.inr (Sum.inr (-1 : Int)))) else (bif (x5.f_Call.f_Kind != v10) then (some (Sum.inr (Sum.inr (-1 : Int)))) else (bif (x5.f_Call.f_Ask.f_Kind != (IntKind.i64.wrap (v10 + (1 : Int)))) then (some (Sum.inr (Sum.inr (-1 : Int)))) else ((laws_markText (IntKind.i64.wrap ((IntKind.i64.wrap (v10 + (1 : Int))) + (1 : Int)))).bind fun v15 => (bif (!(x5.f_Call.f_Ask.f_Key == v15)) then (some (Sum.inr (Sum.inr (-1 : Int)))) else ((laws_markText (IntKind.i64.wrap ((IntKind.i64.wrap ((IntKind.i64.wrap (v10 + (1 : Int))) + (1 : Int))) + (1 : Int)))).bind fun v18 => (bif (!(x5.f_Call.f_Ask.f_Val == v18)) then (some (Sum.inr (Sum.inr (-1 : Int)))) else ((laws_markText (IntKind.i64.wrap ((IntKind.i64.wrap ((IntKind.i64.wrap ((IntKind.i64.wrap (v10 + (1 : Int))) + (1 : Int))) + (1 : Int))) + (1 : Int)))).bind fun v21 => (bif (!(x5.f_Call.f_Ask.f_Range.f_Lo == v21)) then (some (Sum.inr (Sum.inr (-1 : Int)))) else ((laws_markText (IntKind.i64.wrap ((IntKind.i64.wrap ((IntKind.i64.wrap ((IntKind.i64.wrap ((IntKind.i64.wrap (v10 + (1 : Int))) + (1 : Int))) + (1 : Int))) + (1 : Int))) + (1 : Int)))).bind fun v24 => (bif (!(x5.f_Call.f_Ask.f_Range.f_Hi == v24)) then (some (Sum.inr (Sum.inr (-1 : Int)))) else (bif (x5.f_Call.f_Ask.f_Most != (IntKind.i64.wrap ((IntKind.i64.wrap ((IntKind.i64.wrap ((IntKind.i64.wrap ((IntKind.i64.wrap ((IntKind.i64.wrap (v10 + (1 : Int))) + (1 : Int))) + (1 : Int))) + (1 : Int))) + (1 : Int))) + (1 : Int)))) then (some (Sum.inr (Sum.inr (-1 : Int)))) else (bif (!(x5.f_Call.f_Ask.f_Back == (((IntKind.i64.wrap ((IntKind.i64.wrap ((IntKind.i64.wrap ((IntKind.i64.wrap ((IntKind.i64.wrap ((IntKind.i64.wrap ((IntKind.i64.wrap (v10 + (1 : Int))) + (1 : Int))) + (1 : Int))) + (1 : Int))) + (1 : Int))) + (1 : Int))) + (1 : Int))).tmod (3 : Int)) == (0 : Int)))) then (some (Sum.inr (Sum.inr (-1 : Int)))) else (some (Sum.inl ((IntKind.i64.wrap ((IntKind.i64.wrap ((IntKind.i64.wrap ((IntKind.i64.wrap ((IntKind.i64.wrap ((IntKind.i64.wrap ((IntKind.i64.wrap ((IntKind.i64.wrap (v10 + (1 : Int))) + (1 : Int))) + (1 : Int))) + (1 : Int))) + (1 : Int))) + (1 : Int))) + (1 : Int))) + (1 : Int))), (IntKind.i64.wrap (s1.2 + (1 : Int)))))))))))))))))))))))) else (some (Sum.inr (Sum.inl s1.1))))
noncomputable def laws_heldStepS (a0 : List S_impl_Step) (a1 : Int) : Option (Int) :=
  (Option.bind (loopC (laws_heldStepS_l1 a0) (a1, (0 : Int))) (early fun (v2 : Int) => (some v2)))
theorem laws_heldStepS_good (a0 : List S_impl_Step) (a1 : Int) {r : Int} (h : laws_heldStepS a0 a1 = some r) : GoodD Tryd.prog 14 [.val false ((EL E_impl_Step 12).row false a0), .val false ((EI .i64).row false a1)] [(false, (EI .i64).row false r)] [[], []] := by
  have F : True := trivial
  unfold laws_heldStepS at h
  refine good_body tabOk 144 [.tmp 4] Tryd.func14 rfl rfl rfl rfl ?_
  refine k_seq tabOk ?_
  refine tri_seq ?_
  refine k_seq tabOk ?_
  refine tri_block ?_
  obtain ⟨o31, e29, h⟩ := of_bind h
  refine k_loopE (fun (s1 : Int × Int) => ⟨[((0, 0), .val false [.sl false 12 (a0 : List S_impl_Step).length (E_impl_Step.L false a0)]), ((1, 0), .val false [.int .i64 s1.1]), ((5, 0), .val false [.int .i64 s1.2])], [], 144, []⟩) 0 (fun (v2 : Int) => ⟨[((1, 0), .val false [.int .i64 v2])], [], 144, []⟩) r e29 ?_ ?_ (fun _ e30 => early_r h e30) (fun v2 e30 => ?_)
  · exact i_to [(0, 0), (1, 0), (5, 0)] []
  · clear h e29
    intro s1 o3 h
    unfold laws_heldStepS_l1 at h
    refine tri_seq ?_
    refine k_seq tabOk ?_
    rcases of_bif h with ⟨e4, h⟩ | ⟨e4, h⟩
    · replace F := fct e4 F
      refine k_then ?_
      refine tri_skip ?_
      refine thn_normal ?_
      refine tri_seq ?_
      refine tri_block ?_
      refine tri_seq ?_
      obtain ⟨x5, e6, h⟩ := of_bind h
      replace F := fct (at_range e6) F
      replace F := fct (at_fs E_impl_Step false 12 [] 1 e6) F
      refine k_seq tabOk ?_
      rcases of_bif h with ⟨e7, h⟩ | ⟨e7, h⟩
      · replace F := fct e7 F
        refine k_then ?_
        refine k_seq tabOk ?_
        obtain rfl := Option.some.inj h
        refine tri_ret ?_
        refine q_ret (fun e => ?_)
        subst e
        exact k_retE
      · replace F := fct e7 F
        refine k_else ?_
        refine tri_skip ?_
        refine thn_normal ?_
        refine k_seq tabOk ?_
        refine tri_seq ?_
        replace F := fct (at_fs E_impl_Step false 12 [1] 1 e6) F
        refine k_seq tabOk ?_
        rcases of_bif h with ⟨e8, h⟩ | ⟨e8, h⟩
        · replace F := fct e8 F
          refine k_then ?_
          refine k_keep [] [] ?_
          refine k_seq tabOk ?_
          obtain rfl := Option.some.inj h
          refine tri_ret ?_
          refine q_ret (fun e => ?_)
          subst e
          exact k_retE
        · replace F := fct e8 F
          refine k_else ?_
          refine tri_skip ?_
          refine thn_normal ?_
          refine k_keep [(0, 0), (1, 0), (5, 0)] [] ?_
          refine k_seq tabOk ?_
          refine tri_seq ?_
          replace F := fct (at_fs E_impl_Step false 12 [2] 1 e6) F
          refine k_seq tabOk ?_
          rcases of_bif h with ⟨e9, h⟩ | ⟨e9, h⟩
          · replace F := fct e9 F
            refine k_then ?_
            refine k_seq tabOk ?_
            obtain rfl := Option.some.inj h
            refine tri_ret ?_
            refine q_ret (fun e => ?_)
            subst e
            exact k_retE
          · replace F := fct e9 F
            refine k_else ?_
            refine tri_skip ?_
            refine thn_normal ?_
            refine k_seq tabOk ?_
            refine k_runs 8 ?_
            replace F := fct (at_fs E_impl_Step false 12 [3] 1 e6) F
            refine r_ops tabOk 6 2 ?_
            obtain ⟨v10, e11, h⟩ := of_bind h
            refine r_call tabOk 1 [.val, .val] (laws_heldIntS_good _ _ e11) ?_
            refine r_ops tabOk 1 0 ?_
            refine run_end ?_
            refine tri_seq ?_
            refine k_seq tabOk ?_
            rcases of_bif h with ⟨e12, h⟩ | ⟨e12, h⟩
            · replace F := fct e12 F
              refine k_then ?_
              refine k_keep [] [] ?_
              refine k_seq tabOk ?_
              obtain rfl := Option.some.inj h
              refine tri_ret ?_
              refine q_ret (fun e => ?_)
              subst e
              exact k_retE
            · replace F := fct e12 F
              refine k_else ?_
              refine tri_skip ?_
              refine thn_normal ?_
              refine tri_seq ?_
              refine k_keep [(0, 0), (1, 0), (5, 0)] [] ?_
              replace F := fct (at_fs E_impl_Step false 12 [4] 1 e6) F
              refine k_seq tabOk ?_
              rcases of_bif h with ⟨e13, h⟩ | ⟨e13, h⟩
              · replace F := fct e13 F
                refine k_then ?_
                refine k_seq tabOk ?_
                obtain rfl := Option.some.inj h
                refine tri_ret ?_
                refine q_ret (fun e => ?_)
                subst e
                exact k_retE
              · replace F := fct e13 F
                refine k_else ?_
                refine tri_skip ?_
                refine thn_normal ?_
                refine k_seq tabOk ?_
                refine tri_seq ?_
                replace F := fct (at_fs E_impl_Step false 12 [4, 1] 1 e6) F
                refine k_seq tabOk ?_
                rcases of_bif h with ⟨e14, h⟩ | ⟨e14, h⟩
                · replace F := fct e14 F
                  refine k_then ?_
                  refine k_seq tabOk ?_
                  obtain rfl := Option.some.inj h
                  refine tri_ret ?_
                  refine q_ret (fun e => ?_)
                  subst e
                  exact k_retE
                · replace F := fct e14 F
                  refine k_else ?_
                  refine tri_skip ?_
                  refine thn_normal ?_
                  refine k_seq tabOk ?_
                  refine tri_seq ?_
                  refine k_keep [(0, 0), (1, 0), (5, 0)] [] ?_
                  refine k_draw mixed 10 ?_
                  refine d_begin [[], [], [1, 0], [0, 1, 2], [2, 1, 0, 3], [3, 0, 1, 2, 4], [4, 2, 1, 0, 3, 5], [], [7], [7, 8, 5, 3, 0, 1, 2, 4, 6]] ?_
                  intro acc
                  replace acc := a_q tabOk 0 [] acc
                  replace acc := a_q tabOk 1 [] acc
                  replace acc := a_q tabOk 2 [0, 1] acc
                  replace acc := a_q tabOk 3 [0, 1, 2] acc
                  replace acc := a_q tabOk 4 [0, 1, 2, 3] acc
                  replace acc := a_q tabOk 5 [0, 1, 2, 3, 4] acc
                  replace F := fct (at_fs E_impl_Step false 12 [4, 1, 1] 1 e6) F
                  replace acc := a_q tabOk 6 [0, 1, 2, 3, 4, 5] acc
                  replace acc := a_q tabOk 7 [] acc
                  obtain ⟨v15, e16, h⟩ := of_bind h
                  replace acc := a_call tabOk 8 [7] [.val] acc (laws_markText_good _ e16)
                  replace acc := a_q tabOk 9 [0, 1, 2, 3, 4, 5, 6, 7, 8] acc
                  refine d_tail [] acc ?_
                  clear acc
                  refine d_done ?_
                  rcases of_bif h with ⟨e17, h⟩ | ⟨e17, h⟩
                  · replace F := fct e17 F
                    refine k_then ?_
                    refine k_seq tabOk ?_
                    obtain rfl := Option.some.inj h
                    refine tri_ret ?_
                    refine q_ret (fun e => ?_)
                    subst e
                    exact k_retE
                  · replace F := fct e17 F
                    refine k_else ?_
                    refine tri_skip ?_
                    refine thn_normal ?_
                    refine k_seq tabOk ?_
                    refine tri_seq ?_
                    refine k_draw mixed 10 ?_
                    refine d_begin [[], [], [1, 0], [0, 1, 2], [2, 1, 0, 3], [3, 0, 1, 2, 4], [4, 2, 1, 0, 3, 5], [], [7], [7, 8, 5, 3, 0, 1, 2, 4, 6]] ?_
                    intro acc
                    replace acc := a_q tabOk 0 [] acc
                    replace acc := a_q tabOk 1 [] acc
                    replace acc := a_q tabOk 2 [0, 1] acc
                    replace acc := a_q tabOk 3 [0, 1, 2] acc
                    replace acc := a_q tabOk 4 [0, 1, 2, 3] acc
                    replace acc := a_q tabOk 5 [0, 1, 2, 3, 4] acc
                    replace F := fct (at_fs E_impl_Step false 12 [4, 1, 2] 1 e6) F
                    replace acc := a_q tabOk 6 [0, 1, 2, 3, 4, 5] acc
                    replace acc := a_q tabOk 7 [] acc
                    obtain ⟨v18, e19, h⟩ := of_bind h
                    replace acc := a_call tabOk 8 [7] [.val] acc (laws_markText_good _ e19)
                    replace acc := a_q tabOk 9 [0, 1, 2, 3, 4, 5, 6, 7, 8] acc
                    refine d_tail [] acc ?_
                    clear acc
                    refine d_done ?_
                    rcases of_bif h with ⟨e20, h⟩ | ⟨e20, h⟩
                    · replace F := fct e20 F
                      refine k_then ?_
                      refine k_keep [] [] ?_
                      refine k_seq tabOk ?_
                      obtain rfl := Option.some.inj h
                      refine tri_ret ?_
                      refine q_ret (fun e => ?_)
                      subst e
                      exact k_retE
                    · replace F := fct e20 F
                      refine k_else ?_
                      refine tri_skip ?_
                      refine thn_normal ?_
                      refine k_keep [(0, 0), (1, 0), (5, 0)] [] ?_
                      refine k_seq tabOk ?_
                      refine tri_seq ?_
                      refine k_draw mixed 11 ?_
                      refine d_begin [[], [], [1, 0], [0, 1, 2], [2, 1, 0, 3], [3, 0, 1, 2, 4], [4, 2, 1, 0, 3, 5], [5, 3, 0, 1, 2, 4, 6], [], [8], [8, 9, 6, 4, 2, 1, 0, 3, 5, 7]] ?_
                      intro acc
                      replace acc := a_q tabOk 0 [] acc
                      replace acc := a_q tabOk 1 [] acc
                      replace acc := a_q tabOk 2 [0, 1] acc
                      replace acc := a_q tabOk 3 [0, 1, 2] acc
                      replace acc := a_q tabOk 4 [0, 1, 2, 3] acc
                      replace acc := a_q tabOk 5 [0, 1, 2, 3, 4] acc
                      replace acc := a_q tabOk 6 [0, 1, 2, 3, 4, 5] acc
                      replace F := fct (at_fs E_impl_Step false 12 [4, 1, 3] 1 e6) F
                      replace acc := a_q tabOk 7 [0, 1, 2, 3, 4, 5, 6] acc
                      replace acc := a_q tabOk 8 [] acc
                      obtain ⟨v21, e22, h⟩ := of_bind h
                      replace acc := a_call tabOk 9 [8] [.val] acc (laws_markText_good _ e22)
                      replace acc := a_q tabOk 10 [0, 1, 2, 3, 4, 5, 6, 7, 8, 9] acc
                      refine d_tail [] acc ?_
                      clear acc
                      refine d_done ?_
                      rcases of_bif h with ⟨e23, h⟩ | ⟨e23, h⟩
                      · replace F := fct e23 F
                        refine k_then ?_
                        refine k_seq tabOk ?_
                        obtain rfl := Option.some.inj h
                        refine tri_ret ?_
                        refine q_ret (fun e => ?_)
                        subst e
                        exact k_retE
                      · replace F := fct e23 F
                        refine k_else ?_
                        refine tri_skip ?_
                        refine thn_normal ?_
                        refine k_seq tabOk ?_
                        refine tri_seq ?_
                        refine k_draw mixed 11 ?_
                        refine d_begin [[], [], [1, 0], [0, 1, 2], [2, 1, 0, 3], [3, 0, 1, 2, 4], [4, 2, 1, 0, 3, 5], [5, 3, 0, 1, 2, 4, 6], [], [8], [8, 9, 6, 4, 2, 1, 0, 3, 5, 7]] ?_
                        intro acc
                        replace acc := a_q tabOk 0 [] acc
                        replace acc := a_q tabOk 1 [] acc
                        replace acc := a_q tabOk 2 [0, 1] acc
                        replace acc := a_q tabOk 3 [0, 1, 2] acc
                        replace acc := a_q tabOk 4 [0, 1, 2, 3] acc
                        replace acc := a_q tabOk 5 [0, 1, 2, 3, 4] acc
                        replace acc := a_q tabOk 6 [0, 1, 2, 3, 4, 5] acc
                        replace F := fct (at_fs E_impl_Step false 12 [4, 1, 3, 1] 1 e6) F
                        replace acc := a_q tabOk 7 [0, 1, 2, 3, 4, 5, 6] acc
                        replace acc := a_q tabOk 8 [] acc
                        obtain ⟨v24, e25, h⟩ := of_bind h
                        replace acc := a_call tabOk 9 [8] [.val] acc (laws_markText_good _ e25)
                        replace acc := a_q tabOk 10 [0, 1, 2, 3, 4, 5, 6, 7, 8, 9] acc
                        refine d_tail [] acc ?_
                        clear acc
                        refine d_done ?_
                        rcases of_bif h with ⟨e26, h⟩ | ⟨e26, h⟩
                        · replace F := fct e26 F
                          refine k_then ?_
                          refine k_keep [] [] ?_
                          refine k_seq tabOk ?_
                          obtain rfl := Option.some.inj h
                          refine tri_ret ?_
                          refine q_ret (fun e => ?_)
                          subst e
                          exact k_retE
                        · replace F := fct e26 F
                          refine k_else ?_
                          refine tri_skip ?_
                          refine thn_normal ?_
                          refine k_keep [(0, 0), (1, 0), (5, 0)] [] ?_
                          refine k_seq tabOk ?_
                          refine tri_seq ?_
                          replace F := fct (at_fs E_impl_Step false 12 [4, 1, 5] 1 e6) F
                          refine k_seq tabOk ?_
                          rcases of_bif h with ⟨e27, h⟩ | ⟨e27, h⟩
                          · replace F := fct e27 F
                            refine k_then ?_
                            refine k_seq tabOk ?_
                            obtain rfl := Option.some.inj h
                            refine tri_ret ?_
                            refine q_ret (fun e => ?_)
                            subst e
                            exact k_retE
                          · replace F := fct e27 F
                            refine k_else ?_
                            refine tri_skip ?_
                            refine thn_normal ?_
                            refine k_seq tabOk ?_
                            refine tri_seq ?_
                            replace F := fct (at_fs E_impl_Step false 12 [4, 1, 6] 1 e6) F
                            refine k_seq tabOk ?_
                            rcases of_bif h with ⟨e28, h⟩ | ⟨e28, h⟩
                            · replace F := fct e28 F
                              refine k_then ?_
                              refine k_keep [] [] ?_
                              refine k_seq tabOk ?_
                              obtain rfl := Option.some.inj h
                              refine tri_ret ?_
                              refine q_ret (fun e => ?_)
                              subst e
                              exact k_retE
                            · replace F := fct e28 F
                              refine k_else ?_
                              refine tri_skip ?_
                              refine thn_normal ?_
                              refine k_keep [(0, 0), (1, 0), (5, 0)] [] ?_
                              refine k_one tabOk ?_
                              refine inblk_normal ?_
                              refine thn_normal ?_
                              refine k_one tabOk ?_
                              obtain rfl := Option.some.inj h
                              exact and_rfl (i_to [(0, 0), (1, 0), (5, 0)] [])
    · replace F := fct e4 F
      refine k_else ?_
      refine tri_exit ?_
      refine thn_exit ?_
      obtain rfl := Option.some.inj h
      exact and_rfl (i_to [(1, 0)] [])
  · replace h := early_l h e30
    refine inblk_here ?_
    refine thn_normal ?_
    refine k_seq tabOk ?_
    obtain rfl := Option.some.inj h
    refine tri_ret ?_
    exact k_retE

noncomputable def laws_FnExactReadScript (a0 : List UInt8) : Option (Bool) :=
  (bif (decide ((1048576 : Int) < (a0.length : Int))) then (some true) else ((spec_ReadScript a0).bind fun v2 => ((impl_ReadScript a0).bind fun v4 => ((laws_eqStepS v4.1 v2.1).bind fun v6 => (bif ((!v6) || (v4.2 != v2.2)) then (some false) else ((laws_markStepS v4.1 (1 : Int)).bind fun v9 => ((laws_heldStepS v9.2 (1 : Int)).bind fun v11 => (bif (decide (v11 < (0 : Int))) then (some false) else (bif (v11 != v9.1) then (some false) else ((impl_ReadScript a0).bind fun v15 => ((laws_eqStepS v15.1 v2.1).bind fun v17 => (bif ((!v17) || (v15.2 != v2.2)) then (some false) else ((laws_heldStepS v9.2 (1 : Int)).bind fun v20 => (bif (decide (v20 < (0 : Int))) then (some false) else (bif (v20 != v9.1) then (some false) else (some true))))))))))))))))
theorem laws_FnExactReadScript_good (a0 : List UInt8) {r : Bool} (h : laws_FnExactReadScript a0 = some r) : GoodD Tryd.prog 4 [.val false (ES.row false a0)] [(false, EB.row false r)] [[]] := by
  have F : True := trivial
  unfold laws_FnExactReadScript at h
  refine good_body tabOk 66 [.tmp 2] Tryd.func4 rfl rfl rfl rfl ?_
  refine k_seq tabOk ?_
  refine tri_seq ?_
  refine k_seq tabOk ?_
  rcases of_bif h with ⟨e1, h⟩ | ⟨e1, h⟩
  · replace F := fct e1 F
    refine k_then ?_
    refine k_seq tabOk ?_
    obtain rfl := Option.some.inj h
    refine tri_ret ?_
    exact k_retE
  · replace F := fct e1 F
    refine k_else ?_
    refine tri_skip ?_
    refine thn_normal ?_
    refine k_runs 7 ?_
    refine r_ops tabOk 1 6 ?_
    obtain ⟨v2, e3, h⟩ := of_bind h
    refine r_call tabOk 5 [.val] (spec_ReadScript_good _ e3) ?_
    refine r_mov ?_
    refine r_ops tabOk 4 0 ?_
    refine run_end ?_
    refine k_runs 7 ?_
    refine r_ops tabOk 1 6 ?_
    obtain ⟨v4, e5, h⟩ := of_bind h
    refine r_call tabOk 5 [.val] (impl_ReadScript_good _ e5) ?_
    refine r_mov ?_
    refine r_ops tabOk 4 0 ?_
    refine run_end ?_
    refine tri_seq ?_
    refine k_runs 9 ?_
    refine r_ops tabOk 2 7 ?_
    obtain ⟨v6, e7, h⟩ := of_bind h
    refine r_call tabOk 6 [.val, .val] (laws_eqStepS_good _ _ e7) ?_
    refine r_ops tabOk 6 0 ?_
    refine run_end ?_
    rcases of_bif h with ⟨e8, h⟩ | ⟨e8, h⟩
    · replace F := fct e8 F
      refine k_then ?_
      refine k_keep [] [] ?_
      refine k_seq tabOk ?_
      obtain rfl := Option.some.inj h
      refine tri_ret ?_
      exact k_retE
    · replace F := fct e8 F
      refine k_else ?_
      refine tri_skip ?_
      refine thn_normal ?_
      refine k_keep [(0, 0), (3, 0), (4, 0), (5, 0)] [(3, 0), (5, 0)] ?_
      refine k_seq tabOk ?_
      refine k_runs 4 ?_
      refine r_ops tabOk 2 2 ?_
      obtain ⟨v9, e10, h⟩ := of_bind h
      refine r_call tabOk 1 [.ino, .val] (laws_markStepS_good _ _ e10) ?_
      refine r_ops tabOk 1 0 ?_
      refine run_end ?_
      refine k_seq tabOk ?_
      refine k_runs 4 ?_
      refine r_ops tabOk 2 2 ?_
      obtain ⟨v11, e12, h⟩ := of_bind h
      refine r_call tabOk 1 [.val, .val] (laws_heldStepS_good _ _ e12) ?_
      refine r_ops tabOk 1 0 ?_
      refine run_end ?_
      refine tri_seq ?_
      refine k_seq tabOk ?_
      rcases of_bif h with ⟨e13, h⟩ | ⟨e13, h⟩
      · replace F := fct e13 F
        refine k_then ?_
        refine k_seq tabOk ?_
        obtain rfl := Option.some.inj h
        refine tri_ret ?_
        exact k_retE
      · replace F := fct e13 F
        refine k_else ?_
        refine tri_skip ?_
        refine thn_normal ?_
        refine tri_seq ?_
        refine k_seq tabOk ?_
        rcases of_bif h with ⟨e14, h⟩ | ⟨e14, h⟩
        · replace F := fct e14 F
          refine k_then ?_
          refine k_seq tabOk ?_
          obtain rfl := Option.some.inj h
          refine tri_ret ?_
          exact k_retE
        · replace F := fct e14 F
          refine k_else ?_
          refine tri_skip ?_
          refine thn_normal ?_
          refine k_runs 7 ?_
          refine r_ops tabOk 1 6 ?_
          obtain ⟨v15, e16, h⟩ := of_bind h
          refine r_call tabOk 5 [.val] (impl_ReadScript_good _ e16) ?_
          refine r_mov ?_
          refine r_ops tabOk 4 0 ?_
          refine run_end ?_
          refine tri_seq ?_
          refine k_keep [(3, 0), (4, 0), (5, 0), (7, 0), (9, 0), (10, 0)] [(3, 0), (5, 0), (9, 0)] ?_
          refine k_runs 9 ?_
          refine r_ops tabOk 2 7 ?_
          obtain ⟨v17, e18, h⟩ := of_bind h
          refine r_call tabOk 6 [.val, .val] (laws_eqStepS_good _ _ e18) ?_
          refine r_ops tabOk 6 0 ?_
          refine run_end ?_
          rcases of_bif h with ⟨e19, h⟩ | ⟨e19, h⟩
          · replace F := fct e19 F
            refine k_then ?_
            refine k_seq tabOk ?_
            obtain rfl := Option.some.inj h
            refine tri_ret ?_
            exact k_retE
          · replace F := fct e19 F
            refine k_else ?_
            refine tri_skip ?_
            refine thn_normal ?_
            refine k_seq tabOk ?_
            refine k_runs 4 ?_
            refine r_ops tabOk 2 2 ?_
            obtain ⟨v20, e21, h⟩ := of_bind h
            refine r_call tabOk 1 [.val, .val] (laws_heldStepS_good _ _ e21) ?_
            refine r_ops tabOk 1 0 ?_
            refine run_end ?_
            refine tri_seq ?_
            refine k_seq tabOk ?_
            rcases of_bif h with ⟨e22, h⟩ | ⟨e22, h⟩
            · replace F := fct e22 F
              refine k_then ?_
              refine k_seq tabOk ?_
              obtain rfl := Option.some.inj h
              refine tri_ret ?_
              exact k_retE
            · replace F := fct e22 F
              refine k_else ?_
              refine tri_skip ?_
              refine thn_normal ?_
              refine tri_seq ?_
              refine k_seq tabOk ?_
              rcases of_bif h with ⟨e23, h⟩ | ⟨e23, h⟩
              · replace F := fct e23 F
                refine k_then ?_
                refine k_keep [] [] ?_
                refine k_seq tabOk ?_
                obtain rfl := Option.some.inj h
                refine tri_ret ?_
                exact k_retE
              · replace F := fct e23 F
                refine k_else ?_
                refine tri_skip ?_
                refine thn_normal ?_
                refine k_keep [] [] ?_
                refine k_seq tabOk ?_
                obtain rfl := Option.some.inj h
                refine tri_ret ?_
                exact k_retE

end Go.Proofs.YtddfcajdelfikaaDoor.Vm
