import Derived.Test.YtddfcajdelfikaaDoorEnc
import Derived.Test.YtddfcajdelfikaaDoorHand
import Derived.Test.YtddfcajdelfikaaDoorVm34
set_option maxRecDepth 100000
set_option maxHeartbeats 4000000
set_option linter.unusedSimpArgs false
set_option linter.unusedVariables false
namespace Go.Proofs.YtddfcajdelfikaaDoor.Vm
open Go

noncomputable def utf8_RuneCountInString (a0 : List UInt8) : Option (Int) := none
theorem utf8_RuneCountInString_good (a0 : List UInt8) {r : Int} (h : utf8_RuneCountInString a0 = some r) : GoodD Tryd.prog 65 [.val false (ES.row false a0)] [(false, (EI .i64).row false r)] [[]] := by cases h

noncomputable def strings_explode (a0 : List UInt8) (a1 : Int) : Option ((List (List UInt8))) := none
theorem strings_explode_good (a0 : List UInt8) (a1 : Int) {r : (List (List UInt8))} (h : strings_explode a0 a1 = some r) : GoodD Tryd.prog 51 [.val false (ES.row false a0), .val false ((EI .i64).row false a1)] [(false, (EL ES 1).row true r)] [[], []] := by cases h

noncomputable def bytealg_IndexString (a0 : List UInt8) (a1 : List UInt8) : Option (Int) := none
theorem bytealg_IndexString_good (a0 : List UInt8) (a1 : List UInt8) {r : Int} (h : bytealg_IndexString a0 a1 = some r) : GoodD Tryd.prog 81 [.val false (ES.row false a0), .val false (ES.row false a1)] [(false, (EI .i64).row false r)] [[], []] := by cases h

noncomputable def bytealg_Cutover (a0 : Int) : Option (Int) := none
theorem bytealg_Cutover_good (a0 : Int) {r : Int} (h : bytealg_Cutover a0 = some r) : GoodD Tryd.prog 82 [.val false ((EI .i64).row false a0)] [(false, (EI .i64).row false r)] [[]] := by cases h

noncomputable def bytealg_IndexRabinKarp_string_ (a0 : List UInt8) (a1 : List UInt8) : Option (Int) := none
theorem bytealg_IndexRabinKarp_string__good (a0 : List UInt8) (a1 : List UInt8) {r : Int} (h : bytealg_IndexRabinKarp_string_ a0 a1 = some r) : GoodD Tryd.prog 83 [.val false (ES.row false a0), .val false (ES.row false a1)] [(false, (EI .i64).row false r)] [[], []] := by cases h

noncomputable def spec_l07Parts_l1 (a0 : List UInt8) (a1 : UInt8) (s1 : Int × Int × (List (List UInt8))) : Option ((Int × Int × (List (List UInt8))) ⊕ (Int × (List (List UInt8)))) :=
  (bif (decide (s1.2.1 < (a0.length : Int))) then (Option.bind (bif inRange s1.2.1 a0.length then (bif (((a0.getD s1.2.1.toNat 0).toNat : Int) == (a1.toNat : Int)) then (bif (decide ((0 : Int) ≤ s1.1) && decide (s1.1 ≤ s1.2.1) && decide (s1.2.1 ≤ (a0.length : Int))) then (bif room 16 s1.2.2.length (([(List.drop s1.1.toNat (List.take s1.2.1.toNat a0))] : List (List UInt8)).length) then (some ((IntKind.i64.wrap (s1.2.1 + (1 : Int))), (s1.2.2 ++ [(List.drop s1.1.toNat (List.take s1.2.1.toNat a0))]))) else none) else none) else (some (s1.1, s1.2.2))) else none) fun (v5 : Int × (List (List UInt8))) => (some (Sum.inl (v5.1, (IntKind.i64.wrap (s1.2.1 + (1 : Int))), v5.2)))) else (some (Sum.inr (s1.1, s1.2.2))))
noncomputable def spec_l07Parts (a0 : List UInt8) (a1 : UInt8) : Option ((List (List UInt8))) :=
  (Option.bind (loopC (spec_l07Parts_l1 a0 a1) ((0 : Int), (0 : Int), [])) fun v2 => (bif (decide ((0 : Int) ≤ v2.1) && decide (v2.1 ≤ (a0.length : Int)) && decide ((a0.length : Int) ≤ (a0.length : Int))) then (bif room 16 v2.2.length (([(List.drop v2.1.toNat (List.take (a0.length : Int).toNat a0))] : List (List UInt8)).length) then (some (v2.2 ++ [(List.drop v2.1.toNat (List.take (a0.length : Int).toNat a0))])) else none) else none))
theorem spec_l07Parts_good (a0 : List UInt8) (a1 : UInt8) {r : (List (List UInt8))} (h : spec_l07Parts a0 a1 = some r) : GoodD Tryd.prog 15 [.val false (ES.row false a0), .val false (EU.row false a1)] [(false, (EL ES 1).row true r)] [[], []] := by
  have F : True := trivial
  unfold spec_l07Parts at h
  refine good_body tabOk 35 [.tmp 4] Tryd.func15 rfl rfl rfl rfl ?_
  refine k_seq tabOk ?_
  refine k_seq tabOk ?_
  refine k_seq tabOk ?_
  refine tri_seq ?_
  refine k_seq tabOk ?_
  refine tri_block ?_
  obtain ⟨v2, e11, h⟩ := of_bind h
  refine k_loopX (fun (s1 : Int × Int × (List (List UInt8))) => ⟨[((0, 0), .val false [.str a0]), ((1, 0), .val false [.int .u8 a1.toNat]), ((5, 0), .view false (5, 0) [0] 1), ((6, 0), .val false [.int .i64 s1.1]), ((7, 0), .val false [.int .i64 s1.2.1])], [⟨(5, 0), true, [.sl true 1 (s1.2.2 : List (List UInt8)).length (ES.L true s1.2.2)]⟩], 35, []⟩) 0 (fun (v2 : Int × (List (List UInt8))) => ⟨[((0, 0), .val false [.str a0]), ((5, 0), .view false (5, 0) [0] 1), ((6, 0), .val false [.int .i64 v2.1])], [⟨(5, 0), true, [.sl true 1 (v2.2 : List (List UInt8)).length (ES.L true v2.2)]⟩], 35, []⟩) e11 ?_ ?_ ?_
  · exact i_to [(0, 0), (1, 0), (5, 0), (6, 0), (7, 0)] [(5, 0)]
  · clear h e11
    intro s1 o3 h
    unfold spec_l07Parts_l1 at h
    refine tri_seq ?_
    refine k_seq tabOk ?_
    rcases of_bif h with ⟨e4, h⟩ | ⟨e4, h⟩
    · replace F := fct e4 F
      refine k_then ?_
      refine tri_skip ?_
      refine thn_normal ?_
      obtain ⟨v5, e10, h⟩ := of_bind h
      refine k_jn (fun (v5 : Int × (List (List UInt8))) => ⟨[((0, 0), .val false [.str a0]), ((1, 0), .val false [.int .u8 a1.toNat]), ((5, 0), .view false (5, 0) [0] 1), ((6, 0), .val false [.int .i64 v5.1]), ((7, 0), .val false [.int .i64 s1.2.1])], [⟨(5, 0), true, [.sl true 1 (v5.2 : List (List UInt8)).length (ES.L true v5.2)]⟩], 35, []⟩) v5 ?_ ?_
      · clear h
        have h := e10
        refine tri_block ?_
        obtain ⟨e6, h⟩ := of_chk h
        replace F := fct (e6) F
        refine k_seq tabOk ?_
        rcases of_bif h with ⟨e7, h⟩ | ⟨e7, h⟩
        · replace F := fct e7 F
          refine k_then ?_
          obtain ⟨e8, h⟩ := of_chk h
          replace F := fct (e8) F
          obtain ⟨e9, h⟩ := of_chk h
          replace F := fct (room_iff e9) F
          refine k_seq tabOk ?_
          refine k_one tabOk ?_
          refine inblk_normal ?_
          obtain rfl := Option.some.inj h
          exact and_rfl (i_to [(0, 0), (1, 0), (5, 0), (6, 0), (7, 0)] [(5, 0)])
        · replace F := fct e7 F
          refine k_else ?_
          refine tri_skip ?_
          refine inblk_normal ?_
          obtain rfl := Option.some.inj h
          exact and_rfl (i_to [(0, 0), (1, 0), (5, 0), (6, 0), (7, 0)] [(5, 0)])
      · refine k_one tabOk ?_
        obtain rfl := Option.some.inj h
        exact and_rfl (i_to [(0, 0), (1, 0), (5, 0), (6, 0), (7, 0)] [(5, 0)])
    · replace F := fct e4 F
      refine k_else ?_
      refine tri_exit ?_
      refine thn_exit ?_
      obtain rfl := Option.some.inj h
      exact and_rfl (i_to [(0, 0), (5, 0), (6, 0)] [(5, 0)])
  · refine inblk_here ?_
    refine thn_normal ?_
    obtain ⟨e13, h⟩ := of_chk h
    replace F := fct (e13) F
    obtain ⟨e14, h⟩ := of_chk h
    replace F := fct (room_iff e14) F
    refine k_seq tabOk ?_
    obtain rfl := Option.some.inj h
    refine tri_ret ?_
    exact k_retE

noncomputable def spec_l14Words  : Option ((List (List UInt8))) :=
  (some [[], [99, 97, 108, 108], [100, 101, 108, 105, 118, 101, 114], [108, 111, 115, 101], [100, 111, 117, 98, 108, 101], [116, 105, 99, 107], [100, 111, 119, 110], [116, 111, 114, 110], [117, 112], [99, 97, 108, 109]])
theorem spec_l14Words_good  {r : (List (List UInt8))} (h : spec_l14Words = some r) : GoodD Tryd.prog 16 [] [(false, (EL ES 1).row true r)] [] := by
  have F : True := trivial
  unfold spec_l14Words at h
  refine good_body tabOk 2 [.tmp 0] Tryd.func16 rfl rfl rfl rfl ?_
  refine k_seq tabOk ?_
  refine k_seq tabOk ?_
  obtain rfl := Option.some.inj h
  refine tri_ret ?_
  exact k_retE

noncomputable def spec_l01Num (a0 : Int) : Option (Bool) :=
  (some ((decide ((0 : Int) ≤ a0)) && (decide (a0 ≤ (1099511627775 : Int)))))
theorem spec_l01Num_good (a0 : Int) {r : Bool} (h : spec_l01Num a0 = some r) : GoodD Tryd.prog 36 [.val false ((EI .i64).row false a0)] [(false, EB.row false r)] [[]] := by
  have F : True := trivial
  unfold spec_l01Num at h
  refine good_body tabOk 9 [.tmp 2] Tryd.func36 rfl rfl rfl rfl ?_
  refine k_seq tabOk ?_
  refine k_seq tabOk ?_
  obtain rfl := Option.some.inj h
  refine tri_ret ?_
  exact k_retE

noncomputable def spec_NumText_n : Nat → Int → Option ((List UInt8))
  | 0, _ => none
  | n0 + 1, a0 =>
  ((spec_l01Num a0).bind fun v1 => (bif (!v1) then (some []) else (bif (decide (a0 < (10 : Int))) then (some [(U8 (IntKind.u8.wrap (IntKind.i64.wrap ((48 : Int) + a0))))]) else ((spec_NumText_n n0 (IntKind.i64.wrap (a0.tdiv (10 : Int)))).bind fun v5 => (bif decide (v5.length + ([(U8 (IntKind.u8.wrap (IntKind.i64.wrap ((48 : Int) + (a0.tmod (10 : Int))))))] : List UInt8).length ≤ 9223372036854775807) then (some (v5 ++ ([(U8 (IntKind.u8.wrap (IntKind.i64.wrap ((48 : Int) + (a0.tmod (10 : Int))))))] : List UInt8))) else none)))))
theorem spec_NumText_n_good : ∀ (n0 : Nat) (a0 : Int) {r : (List UInt8)} (h : spec_NumText_n n0 a0 = some r), GoodD Tryd.prog 37 [.val false ((EI .i64).row false a0)] [(false, ES.row false r)] [[]] := by
  intro n0
  induction n0 with
  | zero => intro a0 r h; cases h
  | succ n0 ih =>
    intro a0 r h
    have F : True := trivial
    rw [spec_NumText_n] at h
    refine good_body tabOk 23 [.tmp 2] Tryd.func37 rfl rfl rfl rfl ?_
    refine k_seq tabOk ?_
    refine tri_seq ?_
    refine k_runs 3 ?_
    refine r_ops tabOk 1 2 ?_
    obtain ⟨v1, e2, h⟩ := of_bind h
    refine r_call tabOk 1 [.val] (spec_l01Num_good _ e2) ?_
    refine r_ops tabOk 1 0 ?_
    refine run_end ?_
    rcases of_bif h with ⟨e3, h⟩ | ⟨e3, h⟩
    · replace F := fct e3 F
      refine k_then ?_
      refine k_seq tabOk ?_
      obtain rfl := Option.some.inj h
      refine tri_ret ?_
      exact k_retE
    · replace F := fct e3 F
      refine k_else ?_
      refine tri_skip ?_
      refine thn_normal ?_
      refine tri_seq ?_
      refine k_seq tabOk ?_
      rcases of_bif h with ⟨e4, h⟩ | ⟨e4, h⟩
      · replace F := fct e4 F
        refine k_then ?_
        refine k_seq tabOk ?_
        obtain rfl := Option.some.inj h
        refine tri_ret ?_
        exact k_retE
      · replace F := fct e4 F
        refine k_else ?_
        refine tri_skip ?_
        refine thn_normal ?_
        refine k_del [2] ?_
        refine k_draw mixed 11 ?_
        refine d_begin [[], [0], [0, 1], [], [3], [3, 4], [4, 3, 5], [5, 3, 4, 6], [6, 4, 3, 5, 7], [7, 5, 3, 4, 6, 8, 1, 0, 2], [2, 0, 1, 8, 6, 4, 3, 5, 7, 9]] ?_
        intro acc
        replace acc := a_q tabOk 0 [] acc
        replace acc := a_q tabOk 1 [0] acc
        obtain ⟨v5, e6, h⟩ := of_bind h
        replace acc := a_call tabOk 2 [0, 1] [.val] acc (ih _ e6)
        replace acc := a_q tabOk 3 [] acc
        replace acc := a_q tabOk 4 [3] acc
        replace acc := a_q tabOk 5 [3, 4] acc
        replace acc := a_q tabOk 6 [3, 4, 5] acc
        replace acc := a_bslice tabOk 7 [3, 4, 5, 6] acc
        replace acc := a_bytes tabOk 8 [3, 4, 5, 6, 7] acc
        obtain ⟨e7, h⟩ := of_chk h
        replace F := fct (of_decide_eq_true e7) F
        replace acc := a_q tabOk 9 [0, 1, 2, 3, 4, 5, 6, 7, 8] acc
        replace acc := a_asg tabOk 10 [0, 1, 2, 3, 4, 5, 6, 7, 8, 9] acc
        refine d_tail [] acc ?_
        clear acc
        refine d_done ?_
        obtain rfl := Option.some.inj h
        refine tri_ret ?_
        exact k_retE
noncomputable def spec_NumText (a0 : Int) : Option ((List UInt8)) := spec_NumText_n 1099511627776 a0
theorem spec_NumText_good (a0 : Int) {r : (List UInt8)} (h : spec_NumText a0 = some r) : GoodD Tryd.prog 37 [.val false ((EI .i64).row false a0)] [(false, ES.row false r)] [[]] := spec_NumText_n_good _ a0 h

noncomputable def spec_TextNum_l1 (a0 : List UInt8) (s2 : Int × Int) : Option ((Int × Int) ⊕ ((Int) ⊕ (Int × Bool))) :=
  (bif (decide (s2.2 < (a0.length : Int))) then (Option.bind (bif inRange s2.2 a0.length then (bif (decide (((a0.getD s2.2.toNat 0).toNat : Int) < (48 : Int))) then (some true) else (some (decide ((57 : Int) < ((a0.getD s2.2.toNat 0).toNat : Int))))) else none) fun (v6 : Bool) => (bif v6 then (some (Sum.inr (Sum.inr ((0 : Int), false)))) else (bif inRange s2.2 a0.length then (some (Sum.inl ((IntKind.i64.wrap ((IntKind.i64.wrap (s2.1 * (10 : Int))) + (IntKind.i64.wrap (IntKind.u8.wrap (((a0.getD s2.2.toNat 0).toNat : Int) - (48 : Int)))))), (IntKind.i64.wrap (s2.2 + (1 : Int)))))) else none))) else (some (Sum.inr (Sum.inl s2.1))))
noncomputable def spec_TextNum (a0 : List UInt8) : Option (Int × Bool) :=
  (bif ((decide ((a0.length : Int) < (1 : Int))) || (decide ((13 : Int) < (a0.length : Int)))) then (some ((0 : Int), false)) else (Option.bind (loopC (spec_TextNum_l1 a0) ((0 : Int), (0 : Int))) (early fun (v3 : Int) => (Option.bind ((spec_l01Num v3).bind fun v15 => (bif (!v15) then (some true) else ((spec_NumText v3).bind fun v18 => (some (!(v18 == a0)))))) fun (v14 : Bool) => (bif v14 then (some ((0 : Int), false)) else (some (v3, true)))))))
theorem spec_TextNum_good (a0 : List UInt8) {r : Int × Bool} (h : spec_TextNum a0 = some r) : GoodD Tryd.prog 34 [.val false (ES.row false a0)] [(false, (EI .i64).row false r.1), (false, EB.row false r.2)] [[]] := by
  have F : True := trivial
  unfold spec_TextNum at h
  refine good_body tabOk 48 [.tmp 2, .tmp 3] Tryd.func34 rfl rfl rfl rfl ?_
  refine k_seq tabOk ?_
  refine tri_seq ?_
  refine k_seq tabOk ?_
  rcases of_bif h with ⟨e1, h⟩ | ⟨e1, h⟩
  · replace F := fct e1 F
    refine k_then ?_
    refine k_seq tabOk ?_
    obtain rfl := Option.some.inj h
    refine tri_ret ?_
    exact k_retE
  · replace F := fct e1 F
    refine k_else ?_
    refine tri_skip ?_
    refine thn_normal ?_
    refine k_seq tabOk ?_
    refine tri_seq ?_
    refine k_seq tabOk ?_
    refine tri_block ?_
    obtain ⟨o22, e12, h⟩ := of_bind h
    refine k_loopE (fun (s2 : Int × Int) => ⟨[((0, 0), .val false [.str a0]), ((4, 0), .val false [.int .i64 s2.1]), ((5, 0), .val false [.int .i64 s2.2])], [], 48, []⟩) 0 (fun (v3 : Int) => ⟨[((0, 0), .val false [.str a0]), ((4, 0), .val false [.int .i64 v3])], [], 48, []⟩) r e12 ?_ ?_ (fun _ e13 => early_r h e13) (fun v3 e13 => ?_)
    · exact i_to [(0, 0), (4, 0), (5, 0)] []
    · clear h e12
      intro s2 o4 h
      unfold spec_TextNum_l1 at h
      refine tri_seq ?_
      refine k_seq tabOk ?_
      rcases of_bif h with ⟨e5, h⟩ | ⟨e5, h⟩
      · replace F := fct e5 F
        refine k_then ?_
        refine tri_skip ?_
        refine thn_normal ?_
        refine tri_seq ?_
        refine tri_block ?_
        refine tri_seq ?_
        obtain ⟨v6, e11, h⟩ := of_bind h
        refine r_join (n := 10) (fun (v6 : Bool) => ⟨[((0, 0), .val false [.str a0]), ((4, 0), .val false [.int .i64 s2.1]), ((5, 0), .val false [.int .i64 s2.2]), ((29, 0), .val false [.bool v6])], [], 48, []⟩) v6 ?_ ?_
        · clear h
          have h := e11
          obtain ⟨e7, h⟩ := of_chk h
          replace F := fct (e7) F
          refine r_ops tabOk 7 3 ?_
          rcases of_bif h with ⟨e8, h⟩ | ⟨e8, h⟩
          · replace F := fct e8 F
            refine r_skip 2 1 ?_
            refine r_ops tabOk 1 0 ?_
            refine run_end ?_
            obtain rfl := Option.some.inj h
            exact i_to [(0, 0), (4, 0), (5, 0), (29, 0)] []
          · replace F := fct e8 F
            refine r_ops tabOk 3 0 ?_
            refine run_end ?_
            obtain rfl := Option.some.inj h
            exact i_to [(0, 0), (4, 0), (5, 0), (29, 0)] []
        · rcases of_bif h with ⟨e9, h⟩ | ⟨e9, h⟩
          · replace F := fct e9 F
            refine k_then ?_
            refine k_seq tabOk ?_
            obtain rfl := Option.some.inj h
            refine tri_ret ?_
            refine q_ret (fun e => ?_)
            subst e
            exact k_retE
          · replace F := fct e9 F
            refine k_else ?_
            refine tri_skip ?_
            refine thn_normal ?_
            obtain ⟨e10, h⟩ := of_chk h
            replace F := fct (e10) F
            refine k_one tabOk ?_
            refine inblk_normal ?_
            refine thn_normal ?_
            refine k_one tabOk ?_
            obtain rfl := Option.some.inj h
            exact and_rfl (i_to [(0, 0), (4, 0), (5, 0)] [])
      · replace F := fct e5 F
        refine k_else ?_
        refine tri_exit ?_
        refine thn_exit ?_
        obtain rfl := Option.some.inj h
        exact and_rfl (i_to [(0, 0), (4, 0)] [])
    · replace h := early_l h e13
      refine inblk_here ?_
      refine thn_normal ?_
      refine tri_seq ?_
      obtain ⟨v14, e21, h⟩ := of_bind h
      refine r_join (n := 9) (fun (v14 : Bool) => ⟨[((4, 0), .val false [.int .i64 v3]), ((46, 0), .val false [.bool v14])], [], 48, []⟩) v14 ?_ ?_
      · clear h
        have h := e21
        refine r_ops tabOk 1 8 ?_
        obtain ⟨v15, e16, h⟩ := of_bind h
        refine r_call tabOk 7 [.val] (spec_l01Num_good _ e16) ?_
        refine r_ops tabOk 3 4 ?_
        rcases of_bif h with ⟨e17, h⟩ | ⟨e17, h⟩
        · replace F := fct e17 F
          refine r_skip 3 1 ?_
          refine r_ops tabOk 1 0 ?_
          refine run_end ?_
          obtain rfl := Option.some.inj h
          exact i_to [(4, 0), (46, 0)] []
        · replace F := fct e17 F
          obtain ⟨v18, e19, h⟩ := of_bind h
          refine r_call tabOk 3 [.val] (spec_NumText_good _ e19) ?_
          refine r_ops tabOk 3 0 ?_
          refine run_end ?_
          obtain rfl := Option.some.inj h
          exact i_to [(4, 0), (46, 0)] []
      · rcases of_bif h with ⟨e20, h⟩ | ⟨e20, h⟩
        · replace F := fct e20 F
          refine k_then ?_
          refine k_seq tabOk ?_
          obtain rfl := Option.some.inj h
          refine tri_ret ?_
          exact k_retE
        · replace F := fct e20 F
          refine k_else ?_
          refine tri_skip ?_
          refine thn_normal ?_
          refine k_seq tabOk ?_
          obtain rfl := Option.some.inj h
          refine tri_ret ?_
          exact k_retE

noncomputable def spec_l14Num (a0 : List (List UInt8)) (a1 : Int) : Option (Int) :=
  (bif (decide ((a0.length : Int) ≤ a1)) then (some (0 : Int)) else ((at? a0 a1).bind fun x2 => ((spec_TextNum x2).bind fun v4 => (some v4.1))))
theorem spec_l14Num_good (a0 : List (List UInt8)) (a1 : Int) {r : Int} (h : spec_l14Num a0 a1 = some r) : GoodD Tryd.prog 17 [.val false ((EL ES 1).row false a0), .val false ((EI .i64).row false a1)] [(false, (EI .i64).row false r)] [[], []] := by
  have F : True := trivial
  unfold spec_l14Num at h
  refine good_body tabOk 20 [.tmp 4] Tryd.func17 rfl rfl rfl rfl ?_
  refine k_seq tabOk ?_
  refine tri_seq ?_
  refine k_seq tabOk ?_
  rcases of_bif h with ⟨e1, h⟩ | ⟨e1, h⟩
  · replace F := fct e1 F
    refine k_then ?_
    refine k_seq tabOk ?_
    obtain rfl := Option.some.inj h
    refine tri_ret ?_
    exact k_retE
  · replace F := fct e1 F
    refine k_else ?_
    refine tri_skip ?_
    refine thn_normal ?_
    refine k_runs 10 ?_
    obtain ⟨x2, e3, h⟩ := of_bind h
    replace F := fct (at_range e3) F
    replace F := fct (at_fs ES false 1 [] 1 e3) F
    refine r_ops tabOk 4 6 ?_
    obtain ⟨v4, e5, h⟩ := of_bind h
    refine r_call tabOk 5 [.val] (spec_TextNum_good _ e5) ?_
    refine r_mov ?_
    refine r_ops tabOk 4 0 ?_
    refine run_end ?_
    refine k_seq tabOk ?_
    obtain rfl := Option.some.inj h
    refine tri_ret ?_
    exact k_retE

noncomputable def spec_l01Digit (a0 : Int) : Option (UInt8) :=
  (bif (decide (a0 < (10 : Int))) then (some (U8 (IntKind.u8.wrap (IntKind.i64.wrap ((48 : Int) + a0))))) else (some (U8 (IntKind.u8.wrap (IntKind.i64.wrap ((IntKind.i64.wrap ((65 : Int) + a0)) - (10 : Int)))))))
theorem spec_l01Digit_good (a0 : Int) {r : UInt8} (h : spec_l01Digit a0 = some r) : GoodD Tryd.prog 64 [.val false ((EI .i64).row false a0)] [(false, EU.row false r)] [[]] := by
  have F : True := trivial
  unfold spec_l01Digit at h
  refine good_body tabOk 12 [.tmp 2] Tryd.func64 rfl rfl rfl rfl ?_
  refine k_seq tabOk ?_
  refine tri_seq ?_
  refine k_seq tabOk ?_
  rcases of_bif h with ⟨e1, h⟩ | ⟨e1, h⟩
  · replace F := fct e1 F
    refine k_then ?_
    refine k_seq tabOk ?_
    obtain rfl := Option.some.inj h
    refine tri_ret ?_
    exact k_retE
  · replace F := fct e1 F
    refine k_else ?_
    refine tri_skip ?_
    refine thn_normal ?_
    refine k_seq tabOk ?_
    obtain rfl := Option.some.inj h
    refine tri_ret ?_
    exact k_retE

noncomputable def spec_Quote_l1 (a0 : List UInt8) (s2 : Int × (List UInt8)) : Option ((Int × (List UInt8)) ⊕ ((List UInt8))) :=
  (bif (decide (s2.1 < (a0.length : Int))) then (Option.bind (bif inRange s2.1 a0.length then (bif ((((decide ((33 : Int) ≤ ((a0.getD s2.1.toNat 0).toNat : Int))) && (decide (((a0.getD s2.1.toNat 0).toNat : Int) ≤ (126 : Int)))) && (((a0.getD s2.1.toNat 0).toNat : Int) != (34 : Int))) && (((a0.getD s2.1.toNat 0).toNat : Int) != (37 : Int))) then (bif room 1 s2.2.length (([(a0.getD s2.1.toNat 0)] : List UInt8).length) then (some (s2.2 ++ [(a0.getD s2.1.toNat 0)])) else none) else ((spec_l01Digit (IntKind.i64.wrap ((IntKind.i64.wrap ((a0.getD s2.1.toNat 0).toNat : Int)).tdiv (16 : Int)))).bind fun v10 => ((spec_l01Digit ((IntKind.i64.wrap ((a0.getD s2.1.toNat 0).toNat : Int)).tmod (16 : Int))).bind fun v12 => (bif room 1 s2.2.length (([(37 : UInt8), v10, v12] : List UInt8).length) then (some (s2.2 ++ [(37 : UInt8), v10, v12])) else none)))) else none) fun (v6 : (List UInt8)) => (some (Sum.inl ((IntKind.i64.wrap (s2.1 + (1 : Int))), v6)))) else (some (Sum.inr s2.2)))
noncomputable def spec_Quote (a0 : List UInt8) : Option ((List UInt8)) :=
  (bif (decide ((4096 : Int) < (a0.length : Int))) then (some []) else (Option.bind (loopC (spec_Quote_l1 a0) ((0 : Int), [(34 : UInt8)])) fun v3 => (bif room 1 v3.length (([(34 : UInt8)] : List UInt8).length) then (some (v3 ++ [(34 : UInt8)])) else none)))
theorem spec_Quote_good (a0 : List UInt8) {r : (List UInt8)} (h : spec_Quote a0 = some r) : GoodD Tryd.prog 50 [.val false (ES.row false a0)] [(false, ES.row false r)] [[]] := by
  have F : True := trivial
  unfold spec_Quote at h
  refine good_body tabOk 52 [.tmp 2] Tryd.func50 rfl rfl rfl rfl ?_
  refine k_seq tabOk ?_
  refine tri_seq ?_
  refine k_seq tabOk ?_
  rcases of_bif h with ⟨e1, h⟩ | ⟨e1, h⟩
  · replace F := fct e1 F
    refine k_then ?_
    refine k_seq tabOk ?_
    obtain rfl := Option.some.inj h
    refine tri_ret ?_
    exact k_retE
  · replace F := fct e1 F
    refine k_else ?_
    refine tri_skip ?_
    refine thn_normal ?_
    refine k_seq tabOk ?_
    refine tri_seq ?_
    refine k_seq tabOk ?_
    refine tri_block ?_
    obtain ⟨v3, e16, h⟩ := of_bind h
    refine k_loopX (fun (s2 : Int × (List UInt8)) => ⟨[((0, 0), .val false [.str a0]), ((3, 0), .view false (3, 0) [0] 1), ((4, 0), .val false [.int .i64 s2.1])], [⟨(3, 0), true, [.sl true 1 (s2.2 : List UInt8).length (EU.L true s2.2)]⟩], 52, []⟩) 0 (fun (v3 : (List UInt8)) => ⟨[((3, 0), .view false (3, 0) [0] 1)], [⟨(3, 0), true, [.sl true 1 (v3 : List UInt8).length (EU.L true v3)]⟩], 52, []⟩) e16 ?_ ?_ ?_
    · exact i_to [(0, 0), (3, 0), (4, 0)] [(3, 0)]
    · clear h e16
      intro s2 o4 h
      unfold spec_Quote_l1 at h
      refine tri_seq ?_
      refine k_seq tabOk ?_
      rcases of_bif h with ⟨e5, h⟩ | ⟨e5, h⟩
      · replace F := fct e5 F
        refine k_then ?_
        refine tri_skip ?_
        refine thn_normal ?_
        obtain ⟨v6, e15, h⟩ := of_bind h
        refine k_jn (fun (v6 : (List UInt8)) => ⟨[((0, 0), .val false [.str a0]), ((3, 0), .view false (3, 0) [0] 1), ((4, 0), .val false [.int .i64 s2.1])], [⟨(3, 0), true, [.sl true 1 (v6 : List UInt8).length (EU.L true v6)]⟩], 52, []⟩) v6 ?_ ?_
        · clear h
          have h := e15
          refine tri_block ?_
          obtain ⟨e7, h⟩ := of_chk h
          replace F := fct (e7) F
          refine k_seq tabOk ?_
          refine k_seq tabOk ?_
          rcases of_bif h with ⟨e8, h⟩ | ⟨e8, h⟩
          · replace F := fct e8 F
            refine k_then ?_
            refine k_keep [(0, 0), (3, 0), (4, 0), (5, 0)] [(3, 0)] ?_
            obtain ⟨e9, h⟩ := of_chk h
            replace F := fct (room_iff e9) F
            refine k_one tabOk ?_
            refine inblk_normal ?_
            obtain rfl := Option.some.inj h
            exact and_rfl (i_to [(0, 0), (3, 0), (4, 0)] [(3, 0)])
          · replace F := fct e8 F
            refine k_else ?_
            refine k_keep [(0, 0), (3, 0), (4, 0), (5, 0)] [(3, 0)] ?_
            refine k_run1 12 ?_
            refine r_ops tabOk 4 8 ?_
            obtain ⟨v10, e11, h⟩ := of_bind h
            refine r_call tabOk 7 [.val] (spec_l01Digit_good _ e11) ?_
            refine r_ops tabOk 3 4 ?_
            obtain ⟨v12, e13, h⟩ := of_bind h
            refine r_call tabOk 3 [.val] (spec_l01Digit_good _ e13) ?_
            obtain ⟨e14, h⟩ := of_chk h
            replace F := fct (room_iff e14) F
            refine r_ops tabOk 3 0 ?_
            refine run_end ?_
            refine inblk_normal ?_
            obtain rfl := Option.some.inj h
            exact and_rfl (i_to [(0, 0), (3, 0), (4, 0)] [(3, 0)])
        · refine k_one tabOk ?_
          obtain rfl := Option.some.inj h
          exact and_rfl (i_to [(0, 0), (3, 0), (4, 0)] [(3, 0)])
      · replace F := fct e5 F
        refine k_else ?_
        refine tri_exit ?_
        refine thn_exit ?_
        obtain rfl := Option.some.inj h
        exact and_rfl (i_to [(3, 0)] [(3, 0)])
    · refine inblk_here ?_
      refine thn_normal ?_
      obtain ⟨e18, h⟩ := of_chk h
      replace F := fct (room_iff e18) F
      refine k_seq tabOk ?_
      obtain rfl := Option.some.inj h
      refine tri_ret ?_
      exact k_retE

noncomputable def spec_l01Half_l1 (a0 : UInt8) (s1 : Int) : Option ((Int) ⊕ (Int)) :=
  (Option.bind (bif (decide (s1 < (16 : Int))) then ((spec_l01Digit s1).bind fun v6 => (some ((v6.toNat : Int) != (a0.toNat : Int)))) else (some false)) fun (v4 : Bool) => (bif v4 then (some (Sum.inl (IntKind.i64.wrap (s1 + (1 : Int))))) else (some (Sum.inr s1))))
noncomputable def spec_l01Half (a0 : UInt8) : Option (Int) :=
  (Option.bind (loopC (spec_l01Half_l1 a0) (0 : Int)) fun v2 => (some v2))
theorem spec_l01Half_good (a0 : UInt8) {r : Int} (h : spec_l01Half a0 = some r) : GoodD Tryd.prog 62 [.val false (EU.row false a0)] [(false, (EI .i64).row false r)] [[]] := by
  have F : True := trivial
  unfold spec_l01Half at h
  refine good_body tabOk 15 [.tmp 2] Tryd.func62 rfl rfl rfl rfl ?_
  refine k_seq tabOk ?_
  refine k_seq tabOk ?_
  refine tri_seq ?_
  refine tri_block ?_
  obtain ⟨v2, e10, h⟩ := of_bind h
  refine k_loopX (fun (s1 : Int) => ⟨[((0, 0), .val false [.int .u8 a0.toNat]), ((3, 0), .val false [.int .i64 s1])], [], 15, []⟩) 0 (fun (v2 : Int) => ⟨[((3, 0), .val false [.int .i64 v2])], [], 15, []⟩) e10 ?_ ?_ ?_
  · exact i_to [(0, 0), (3, 0)] []
  · clear h e10
    intro s1 o3 h
    unfold spec_l01Half_l1 at h
    refine tri_seq ?_
    obtain ⟨v4, e9, h⟩ := of_bind h
    refine r_join (n := 8) (fun (v4 : Bool) => ⟨[((0, 0), .val false [.int .u8 a0.toNat]), ((3, 0), .val false [.int .i64 s1]), ((11, 0), .val false [.bool v4])], [], 15, []⟩) v4 ?_ ?_
    · clear h
      have h := e9
      refine r_ops tabOk 4 4 ?_
      rcases of_bif h with ⟨e5, h⟩ | ⟨e5, h⟩
      · replace F := fct e5 F
        obtain ⟨v6, e7, h⟩ := of_bind h
        refine r_call tabOk 3 [.val] (spec_l01Digit_good _ e7) ?_
        refine r_ops tabOk 3 0 ?_
        refine run_end ?_
        obtain rfl := Option.some.inj h
        exact i_to [(0, 0), (3, 0), (11, 0)] []
      · replace F := fct e5 F
        refine r_skip 3 1 ?_
        refine r_ops tabOk 1 0 ?_
        refine run_end ?_
        obtain rfl := Option.some.inj h
        exact i_to [(0, 0), (3, 0), (11, 0)] []
    · rcases of_bif h with ⟨e8, h⟩ | ⟨e8, h⟩
      · replace F := fct e8 F
        refine k_then ?_
        refine tri_skip ?_
        refine thn_normal ?_
        refine tri_block ?_
        refine k_one tabOk ?_
        refine inblk_normal ?_
        obtain rfl := Option.some.inj h
        exact and_rfl (i_to [(0, 0), (3, 0)] [])
      · replace F := fct e8 F
        refine k_else ?_
        refine tri_exit ?_
        refine thn_exit ?_
        obtain rfl := Option.some.inj h
        exact and_rfl (i_to [(3, 0)] [])
  · refine inblk_here ?_
    refine thn_normal ?_
    refine k_seq tabOk ?_
    obtain rfl := Option.some.inj h
    refine tri_ret ?_
    exact k_retE

noncomputable def spec_Unquote_l1 (a0 : List UInt8) (s2 : Int × (List UInt8)) : Option ((Int × (List UInt8)) ⊕ ((List UInt8))) :=
  (bif (decide (s2.1 < (IntKind.i64.wrap ((a0.length : Int) - (1 : Int))))) then (Option.bind (bif inRange s2.1 a0.length then (bif ((((a0.getD s2.1.toNat 0).toNat : Int) == (37 : Int)) && (decide ((IntKind.i64.wrap (s2.1 + (2 : Int))) < (a0.length : Int)))) then (bif inRange (IntKind.i64.wrap (s2.1 + (1 : Int))) a0.length then ((spec_l01Half (a0.getD (IntKind.i64.wrap (s2.1 + (1 : Int))).toNat 0)).bind fun v10 => (bif inRange (IntKind.i64.wrap (s2.1 + (2 : Int))) a0.length then ((spec_l01Half (a0.getD (IntKind.i64.wrap (s2.1 + (2 : Int))).toNat 0)).bind fun v13 => (bif room 1 s2.2.length (([(U8 (IntKind.u8.wrap (IntKind.i64.wrap ((IntKind.i64.wrap ((v10.tmod (16 : Int)) * (16 : Int))) + (v13.tmod (16 : Int))))))] : List UInt8).length) then (some ((IntKind.i64.wrap (s2.1 + (2 : Int))), (s2.2 ++ [(U8 (IntKind.u8.wrap (IntKind.i64.wrap ((IntKind.i64.wrap ((v10.tmod (16 : Int)) * (16 : Int))) + (v13.tmod (16 : Int))))))]))) else none)) else none)) else none) else (bif room 1 s2.2.length (([(a0.getD s2.1.toNat 0)] : List UInt8).length) then (some (s2.1, (s2.2 ++ [(a0.getD s2.1.toNat 0)]))) else none)) else none) fun (v6 : Int × (List UInt8)) => (some (Sum.inl ((IntKind.i64.wrap (v6.1 + (1 : Int))), v6.2)))) else (some (Sum.inr s2.2)))
noncomputable def spec_Unquote (a0 : List UInt8) : Option ((List UInt8) × Bool) :=
  (bif ((decide ((a0.length : Int) < (2 : Int))) || (decide ((12290 : Int) < (a0.length : Int)))) then (some ([], false)) else (Option.bind (loopC (spec_Unquote_l1 a0) ((1 : Int), [])) fun v3 => ((spec_Quote v3).bind fun v20 => (bif (!(v20 == a0)) then (some ([], false)) else (some (v3, true))))))
theorem spec_Unquote_good (a0 : List UInt8) {r : (List UInt8) × Bool} (h : spec_Unquote a0 = some r) : GoodD Tryd.prog 48 [.val false (ES.row false a0)] [(false, ES.row false r.1), (false, EB.row false r.2)] [[]] := by
  have F : True := trivial
  unfold spec_Unquote at h
  refine good_body tabOk 66 [.tmp 2, .tmp 3] Tryd.func48 rfl rfl rfl rfl ?_
  refine k_seq tabOk ?_
  refine tri_seq ?_
  refine k_seq tabOk ?_
  rcases of_bif h with ⟨e1, h⟩ | ⟨e1, h⟩
  · replace F := fct e1 F
    refine k_then ?_
    refine k_seq tabOk ?_
    obtain rfl := Option.some.inj h
    refine tri_ret ?_
    exact k_retE
  · replace F := fct e1 F
    refine k_else ?_
    refine tri_skip ?_
    refine thn_normal ?_
    refine k_seq tabOk ?_
    refine tri_seq ?_
    refine k_seq tabOk ?_
    refine tri_block ?_
    obtain ⟨v3, e18, h⟩ := of_bind h
    refine k_loopX (fun (s2 : Int × (List UInt8)) => ⟨[((0, 0), .val false [.str a0]), ((4, 0), .view false (4, 0) [0] 1), ((5, 0), .val false [.int .i64 s2.1])], [⟨(4, 0), true, [.sl true 1 (s2.2 : List UInt8).length (EU.L true s2.2)]⟩], 66, []⟩) 0 (fun (v3 : (List UInt8)) => ⟨[((0, 0), .val false [.str a0]), ((4, 0), .view false (4, 0) [0] 1)], [⟨(4, 0), true, [.sl true 1 (v3 : List UInt8).length (EU.L true v3)]⟩], 66, []⟩) e18 ?_ ?_ ?_
    · exact i_to [(0, 0), (4, 0), (5, 0)] [(4, 0)]
    · clear h e18
      intro s2 o4 h
      unfold spec_Unquote_l1 at h
      refine tri_seq ?_
      refine k_seq tabOk ?_
      rcases of_bif h with ⟨e5, h⟩ | ⟨e5, h⟩
      · replace F := fct e5 F
        refine k_then ?_
        refine tri_skip ?_
        refine thn_normal ?_
        obtain ⟨v6, e17, h⟩ := of_bind h
        refine k_jn (fun (v6 : Int × (List UInt8)) => ⟨[((0, 0), .val false [.str a0]), ((4, 0), .view false (4, 0) [0] 1), ((5, 0), .val false [.int .i64 v6.1])], [⟨(4, 0), true, [.sl true 1 (v6.2 : List UInt8).length (EU.L true v6.2)]⟩], 66, []⟩) v6 ?_ ?_
        · clear h
          have h := e17
          refine tri_block ?_
          obtain ⟨e7, h⟩ := of_chk h
          replace F := fct (e7) F
          refine k_seq tabOk ?_
          rcases of_bif h with ⟨e8, h⟩ | ⟨e8, h⟩
          · replace F := fct e8 F
            refine k_then ?_
            refine k_draw mixed 19 ?_
            refine d_begin [[], [], [], [2], [2, 3, 1], [1, 3, 2, 4], [4, 2, 3, 1, 5], [5, 1, 3, 2, 4, 6], [], [], [9], [9, 10, 8], [4, 2, 3, 1, 5, 8, 10, 9, 11], [11, 9, 10, 8, 5, 1, 3, 2, 4, 12], [12, 8, 10, 9, 11, 13, 6, 4, 2, 3, 1, 5, 7], [7, 5, 1, 3, 2, 4, 6, 13, 11, 9, 10, 8, 12, 14], [14, 12, 8, 10, 9, 11, 13, 6, 4, 2, 3, 1, 5, 7, 15], [15, 7, 5, 1, 3, 2, 4, 6, 13, 11, 9, 10, 8, 12, 14, 16, 0], [0, 16, 14, 12, 8, 10, 9, 11, 13, 6, 4, 2, 3, 1, 5, 7, 15, 17]] ?_
            intro acc
            replace acc := a_q tabOk 0 [] acc
            replace acc := a_q tabOk 1 [] acc
            replace acc := a_q tabOk 2 [] acc
            replace acc := a_q tabOk 3 [2] acc
            obtain ⟨e9, h⟩ := of_chk h
            replace F := fct (e9) F
            replace acc := a_q tabOk 4 [1, 2, 3] acc
            obtain ⟨v10, e11, h⟩ := of_bind h
            replace acc := a_call tabOk 5 [1, 2, 3, 4] [.val] acc (spec_l01Half_good _ e11)
            replace acc := a_q tabOk 6 [1, 2, 3, 4, 5] acc
            replace acc := a_q tabOk 7 [1, 2, 3, 4, 5, 6] acc
            replace acc := a_q tabOk 8 [] acc
            replace acc := a_q tabOk 9 [] acc
            replace acc := a_q tabOk 10 [9] acc
            obtain ⟨e12, h⟩ := of_chk h
            replace F := fct (e12) F
            replace acc := a_q tabOk 11 [8, 9, 10] acc
            obtain ⟨v13, e14, h⟩ := of_bind h
            replace acc := a_call tabOk 12 [1, 2, 3, 4, 5, 8, 9, 10, 11] [.val] acc (spec_l01Half_good _ e14)
            replace acc := a_q tabOk 13 [1, 2, 3, 4, 5, 8, 9, 10, 11, 12] acc
            replace acc := a_q tabOk 14 [1, 2, 3, 4, 5, 6, 7, 8, 9, 10, 11, 12, 13] acc
            replace acc := a_q tabOk 15 [1, 2, 3, 4, 5, 6, 7, 8, 9, 10, 11, 12, 13, 14] acc
            replace acc := a_bslice tabOk 16 [1, 2, 3, 4, 5, 6, 7, 8, 9, 10, 11, 12, 13, 14, 15] acc
            refine d_tail [] acc ?_
            clear acc
            obtain ⟨e15, h⟩ := of_chk h
            replace F := fct (room_iff e15) F
            refine d_one tabOk 17 ?_
            refine d_one tabOk 18 ?_
            refine d_done ?_
            refine k_keep [(0, 0), (4, 0), (5, 0)] [(4, 0)] ?_
            refine k_one tabOk ?_
            refine inblk_normal ?_
            obtain rfl := Option.some.inj h
            exact and_rfl (i_to [(0, 0), (4, 0), (5, 0)] [(4, 0)])
          · replace F := fct e8 F
            refine k_else ?_
            obtain ⟨e16, h⟩ := of_chk h
            replace F := fct (room_iff e16) F
            refine k_one tabOk ?_
            refine inblk_normal ?_
            obtain rfl := Option.some.inj h
            exact and_rfl (i_to [(0, 0), (4, 0), (5, 0)] [(4, 0)])
        · refine k_one tabOk ?_
          obtain rfl := Option.some.inj h
          exact and_rfl (i_to [(0, 0), (4, 0), (5, 0)] [(4, 0)])
      · replace F := fct e5 F
        refine k_else ?_
        refine tri_exit ?_
        refine thn_exit ?_
        obtain rfl := Option.some.inj h
        exact and_rfl (i_to [(0, 0), (4, 0)] [(4, 0)])
    · refine inblk_here ?_
      refine thn_normal ?_
      refine tri_seq ?_
      refine k_runs 5 ?_
      refine r_ops tabOk 2 3 ?_
      obtain ⟨v20, e21, h⟩ := of_bind h
      refine r_call tabOk 2 [.val] (spec_Quote_good _ e21) ?_
      refine r_ops tabOk 2 0 ?_
      refine run_end ?_
      rcases of_bif h with ⟨e22, h⟩ | ⟨e22, h⟩
      · replace F := fct e22 F
        refine k_then ?_
        refine k_seq tabOk ?_
        obtain rfl := Option.some.inj h
        refine tri_ret ?_
        exact k_retE
      · replace F := fct e22 F
        refine k_else ?_
        refine tri_skip ?_
        refine thn_normal ?_
        refine k_seq tabOk ?_
        obtain rfl := Option.some.inj h
        refine tri_ret ?_
        exact k_retE

noncomputable def spec_l14Text (a0 : List (List UInt8)) (a1 : Int) : Option ((List UInt8)) :=
  (bif (decide ((a0.length : Int) ≤ a1)) then (some []) else ((at? a0 a1).bind fun x2 => ((spec_Unquote x2).bind fun v4 => (some v4.1))))
theorem spec_l14Text_good (a0 : List (List UInt8)) (a1 : Int) {r : (List UInt8)} (h : spec_l14Text a0 a1 = some r) : GoodD Tryd.prog 35 [.val false ((EL ES 1).row false a0), .val false ((EI .i64).row false a1)] [(false, ES.row false r)] [[], []] := by
  have F : True := trivial
  unfold spec_l14Text at h
  refine good_body tabOk 20 [.tmp 4] Tryd.func35 rfl rfl rfl rfl ?_
  refine k_seq tabOk ?_
  refine tri_seq ?_
  refine k_seq tabOk ?_
  rcases of_bif h with ⟨e1, h⟩ | ⟨e1, h⟩
  · replace F := fct e1 F
    refine k_then ?_
    refine k_seq tabOk ?_
    obtain rfl := Option.some.inj h
    refine tri_ret ?_
    exact k_retE
  · replace F := fct e1 F
    refine k_else ?_
    refine tri_skip ?_
    refine thn_normal ?_
    refine k_runs 10 ?_
    obtain ⟨x2, e3, h⟩ := of_bind h
    replace F := fct (at_range e3) F
    replace F := fct (at_fs ES false 1 [] 1 e3) F
    refine r_ops tabOk 4 6 ?_
    obtain ⟨v4, e5, h⟩ := of_bind h
    refine r_call tabOk 5 [.val] (spec_Unquote_good _ e5) ?_
    refine r_mov ?_
    refine r_ops tabOk 4 0 ?_
    refine run_end ?_
    refine k_seq tabOk ?_
    obtain rfl := Option.some.inj h
    refine tri_ret ?_
    exact k_retE

noncomputable def spec_l14ReadCall (a0 : List (List UInt8)) : Option (S_impl_Call) :=
  (bif ((a0.length : Int) == (0 : Int)) then (some (S_impl_Call.mk (0 : Int) (S_impl_Ask.mk (0 : Int) [] [] (S_impl_Range.mk [] []) (0 : Int) false))) else ((spec_l14Text a0 (1 : Int)).bind fun v2 => ((spec_l14Text a0 (2 : Int)).bind fun v4 => ((at? a0 (0 : Int)).bind fun x6 => (bif (x6 == ([98, 101, 103, 105, 110] : List UInt8)) then (some (S_impl_Call.mk (1 : Int) (S_impl_Ask.mk (0 : Int) [] [] (S_impl_Range.mk [] []) (0 : Int) false))) else (bif (x6 == ([99, 111, 109, 109, 105, 116] : List UInt8)) then (some (S_impl_Call.mk (3 : Int) (S_impl_Ask.mk (0 : Int) [] [] (S_impl_Range.mk [] []) (0 : Int) false))) else (bif (x6 == ([97, 98, 111, 114, 116] : List UInt8)) then (some (S_impl_Call.mk (4 : Int) (S_impl_Ask.mk (0 : Int) [] [] (S_impl_Range.mk [] []) (0 : Int) false))) else (bif (x6 == ([103, 101, 116] : List UInt8)) then (some (S_impl_Call.mk (2 : Int) (S_impl_Ask.mk (1 : Int) v2 [] (S_impl_Range.mk [] []) (0 : Int) false))) else (bif (x6 == ([112, 117, 116] : List UInt8)) then (some (S_impl_Call.mk (2 : Int) (S_impl_Ask.mk (2 : Int) v2 v4 (S_impl_Range.mk [] []) (0 : Int) false))) else (bif (x6 == ([100, 101, 108] : List UInt8)) then (some (S_impl_Call.mk (2 : Int) (S_impl_Ask.mk (3 : Int) v2 [] (S_impl_Range.mk [] []) (0 : Int) false))) else (bif (x6 == ([115, 99, 97, 110] : List UInt8)) then ((spec_l14Num a0 (3 : Int)).bind fun v15 => (some (S_impl_Call.mk (2 : Int) (S_impl_Ask.mk (4 : Int) [] [] (S_impl_Range.mk v2 v4) v15 (x6 == ([98, 97, 99, 107] : List UInt8)))))) else (bif (x6 == ([98, 97, 99, 107] : List UInt8)) then ((spec_l14Num a0 (3 : Int)).bind fun v18 => (some (S_impl_Call.mk (2 : Int) (S_impl_Ask.mk (4 : Int) [] [] (S_impl_Range.mk v2 v4) v18 (x6 == ([98, 97, 99, 107] : List UInt8)))))) else (some (S_impl_Call.mk (0 : Int) (S_impl_Ask.mk (0 : Int) [] [] (S_impl_Range.mk [] []) (0 : Int) false)))))))))))))))
theorem spec_l14ReadCall_good (a0 : List (List UInt8)) {r : S_impl_Call} (h : spec_l14ReadCall a0 = some r) : GoodD Tryd.prog 18 [.val false ((EL ES 1).row false a0)] [(true, E_impl_Call.row false r)] [[]] := by
  have F : True := trivial
  unfold spec_l14ReadCall at h
  refine good_body tabOk 56 [.cell 2 28] Tryd.func18 rfl rfl rfl rfl ?_
  refine k_seq tabOk ?_
  refine tri_seq ?_
  refine k_seq tabOk ?_
  rcases of_bif h with ⟨e1, h⟩ | ⟨e1, h⟩
  · replace F := fct e1 F
    refine k_then ?_
    refine k_seq tabOk ?_
    obtain rfl := Option.some.inj h
    refine tri_ret ?_
    exact k_retE
  · replace F := fct e1 F
    refine k_else ?_
    refine tri_skip ?_
    refine thn_normal ?_
    refine k_runs 3 ?_
    refine r_ops tabOk 1 2 ?_
    obtain ⟨v2, e3, h⟩ := of_bind h
    refine r_call tabOk 1 [.val, .val] (spec_l14Text_good _ _ e3) ?_
    refine r_ops tabOk 1 0 ?_
    refine run_end ?_
    refine k_runs 3 ?_
    refine r_ops tabOk 1 2 ?_
    obtain ⟨v4, e5, h⟩ := of_bind h
    refine r_call tabOk 1 [.val, .val] (spec_l14Text_good _ _ e5) ?_
    refine r_ops tabOk 1 0 ?_
    refine run_end ?_
    refine tri_seq ?_
    obtain ⟨x6, e7, h⟩ := of_bind h
    replace F := fct (at_range e7) F
    replace F := fct (at_fs ES false 1 [] 1 e7) F
    refine k_seq tabOk ?_
    refine tri_block ?_
    refine k_seq tabOk ?_
    rcases of_bif h with ⟨e8, h⟩ | ⟨e8, h⟩
    · replace F := fct e8 F
      refine k_then ?_
      refine k_seq tabOk ?_
      obtain rfl := Option.some.inj h
      refine tri_ret ?_
      exact k_retE
    · replace F := fct e8 F
      refine k_else ?_
      refine k_seq tabOk ?_
      rcases of_bif h with ⟨e9, h⟩ | ⟨e9, h⟩
      · replace F := fct e9 F
        refine k_then ?_
        refine k_seq tabOk ?_
        obtain rfl := Option.some.inj h
        refine tri_ret ?_
        exact k_retE
      · replace F := fct e9 F
        refine k_else ?_
        refine k_seq tabOk ?_
        rcases of_bif h with ⟨e10, h⟩ | ⟨e10, h⟩
        · replace F := fct e10 F
          refine k_then ?_
          refine k_seq tabOk ?_
          obtain rfl := Option.some.inj h
          refine tri_ret ?_
          exact k_retE
        · replace F := fct e10 F
          refine k_else ?_
          refine k_seq tabOk ?_
          rcases of_bif h with ⟨e11, h⟩ | ⟨e11, h⟩
          · replace F := fct e11 F
            refine k_then ?_
            refine k_seq tabOk ?_
            obtain rfl := Option.some.inj h
            refine tri_ret ?_
            exact k_retE
          · replace F := fct e11 F
            refine k_else ?_
            refine k_seq tabOk ?_
            rcases of_bif h with ⟨e12, h⟩ | ⟨e12, h⟩
            · replace F := fct e12 F
              refine k_then ?_
              refine k_keep [(2, 0), (3, 0), (4, 0)] [(2, 0)] ?_
              refine k_seq tabOk ?_
              obtain rfl := Option.some.inj h
              refine tri_ret ?_
              exact k_retE
            · replace F := fct e12 F
              refine k_else ?_
              refine k_keep [(0, 0), (2, 0), (3, 0), (4, 0), (15, 0)] [(2, 0)] ?_
              refine k_seq tabOk ?_
              rcases of_bif h with ⟨e13, h⟩ | ⟨e13, h⟩
              · replace F := fct e13 F
                refine k_then ?_
                refine k_seq tabOk ?_
                obtain rfl := Option.some.inj h
                refine tri_ret ?_
                exact k_retE
              · replace F := fct e13 F
                refine k_else ?_
                refine tri_seq ?_
                refine k_seq tabOk ?_
                rcases of_bif h with ⟨e14, h⟩ | ⟨e14, h⟩
                · replace F := fct e14 F
                  refine k_then ?_
                  refine tri_skip ?_
                  refine thn_normal ?_
                  refine k_then ?_
                  refine k_draw mixed 12 ?_
                  refine d_begin [[], [], [1, 0], [], [3], [], [5], [5, 6], [6, 5, 7], [7, 5, 6, 8, 3, 4, 0, 1, 2], [2, 1, 0, 4, 3, 8, 6, 5, 7, 9], [9, 7, 5, 6, 8, 3, 4, 0, 1, 2, 10]] ?_
                  intro acc
                  replace acc := a_q tabOk 0 [] acc
                  replace acc := a_q tabOk 1 [] acc
                  replace acc := a_build tabOk 2 [0, 1] acc
                  replace acc := a_q tabOk 3 [] acc
                  obtain ⟨v15, e16, h⟩ := of_bind h
                  replace acc := a_call tabOk 4 [3] [.val, .val] acc (spec_l14Num_good _ _ e16)
                  replace acc := a_q tabOk 5 [] acc
                  replace acc := a_q tabOk 6 [5] acc
                  replace acc := a_q tabOk 7 [5, 6] acc
                  replace acc := a_q tabOk 8 [5, 6, 7] acc
                  replace acc := a_build tabOk 9 [0, 1, 2, 3, 4, 5, 6, 7, 8] acc
                  replace acc := a_build tabOk 10 [0, 1, 2, 3, 4, 5, 6, 7, 8, 9] acc
                  refine d_tail [] acc ?_
                  clear acc
                  refine d_one tabOk 11 ?_
                  refine d_done ?_
                  obtain rfl := Option.some.inj h
                  refine tri_ret ?_
                  exact k_retE
                · replace F := fct e14 F
                  refine k_else ?_
                  refine k_one tabOk ?_
                  refine thn_normal ?_
                  rcases of_bif h with ⟨e17, h⟩ | ⟨e17, h⟩
                  · replace F := fct e17 F
                    refine k_then ?_
                    refine k_draw mixed 12 ?_
                    refine d_begin [[], [], [1, 0], [], [3], [], [5], [5, 6], [6, 5, 7], [7, 5, 6, 8, 3, 4, 0, 1, 2], [2, 1, 0, 4, 3, 8, 6, 5, 7, 9], [9, 7, 5, 6, 8, 3, 4, 0, 1, 2, 10]] ?_
                    intro acc
                    replace acc := a_q tabOk 0 [] acc
                    replace acc := a_q tabOk 1 [] acc
                    replace acc := a_build tabOk 2 [0, 1] acc
                    replace acc := a_q tabOk 3 [] acc
                    obtain ⟨v18, e19, h⟩ := of_bind h
                    replace acc := a_call tabOk 4 [3] [.val, .val] acc (spec_l14Num_good _ _ e19)
                    replace acc := a_q tabOk 5 [] acc
                    replace acc := a_q tabOk 6 [5] acc
                    replace acc := a_q tabOk 7 [5, 6] acc
                    replace acc := a_q tabOk 8 [5, 6, 7] acc
                    replace acc := a_build tabOk 9 [0, 1, 2, 3, 4, 5, 6, 7, 8] acc
                    replace acc := a_build tabOk 10 [0, 1, 2, 3, 4, 5, 6, 7, 8, 9] acc
                    refine d_tail [] acc ?_
                    clear acc
                    refine d_one tabOk 11 ?_
                    refine d_done ?_
                    obtain rfl := Option.some.inj h
                    refine tri_ret ?_
                    exact k_retE
                  · replace F := fct e17 F
                    refine k_else ?_
                    refine tri_skip ?_
                    refine inblk_normal ?_
                    refine thn_normal ?_
                    refine k_seq tabOk ?_
                    obtain rfl := Option.some.inj h
                    refine tri_ret ?_
                    exact k_retE

noncomputable def spec_RangeOk (a0 : S_impl_Range) : Option (Bool) :=
  (bif ((decide ((17 : Int) < (a0.f_Lo.length : Int))) || (decide ((17 : Int) < (a0.f_Hi.length : Int)))) then (some false) else (some ((a0.f_Hi == ([] : List UInt8)) || (Op.bytesLess a0.f_Lo a0.f_Hi))))
theorem spec_RangeOk_good (a0 : S_impl_Range) {r : Bool} (h : spec_RangeOk a0 = some r) : GoodD Tryd.prog 87 [.val true (E_impl_Range.row false a0)] [(false, EB.row false r)] [[]] := by
  have F : True := trivial
  unfold spec_RangeOk at h
  refine good_body tabOk 23 [.tmp 2] Tryd.func87 rfl rfl rfl rfl ?_
  refine k_seq tabOk ?_
  refine tri_seq ?_
  refine k_seq tabOk ?_
  rcases of_bif h with ⟨e1, h⟩ | ⟨e1, h⟩
  · replace F := fct e1 F
    refine k_then ?_
    refine k_seq tabOk ?_
    obtain rfl := Option.some.inj h
    refine tri_ret ?_
    exact k_retE
  · replace F := fct e1 F
    refine k_else ?_
    refine tri_skip ?_
    refine thn_normal ?_
    refine k_seq tabOk ?_
    obtain rfl := Option.some.inj h
    refine tri_ret ?_
    exact k_retE

noncomputable def spec_ReachOk (a0 : S_impl_Range) : Option (Bool) :=
  ((spec_RangeOk a0).bind fun v1 => (some ((v1 && (decide ((a0.f_Lo.length : Int) ≤ (9 : Int)))) && (decide ((a0.f_Hi.length : Int) ≤ (9 : Int))))))
theorem spec_ReachOk_good (a0 : S_impl_Range) {r : Bool} (h : spec_ReachOk a0 = some r) : GoodD Tryd.prog 76 [.val true (E_impl_Range.row false a0)] [(false, EB.row false r)] [[]] := by
  have F : True := trivial
  unfold spec_ReachOk at h
  refine good_body tabOk 17 [.tmp 2] Tryd.func76 rfl rfl rfl rfl ?_
  refine k_seq tabOk ?_
  refine k_runs 15 ?_
  refine r_ops tabOk 1 14 ?_
  obtain ⟨v1, e2, h⟩ := of_bind h
  refine r_call tabOk 13 [.val] (spec_RangeOk_good _ e2) ?_
  refine r_ops tabOk 13 0 ?_
  refine run_end ?_
  obtain rfl := Option.some.inj h
  refine tri_ret ?_
  exact k_retE

noncomputable def spec_UserOk (a0 : List UInt8) : Option (Bool) :=
  (some ((decide ((1 : Int) ≤ (a0.length : Int))) && (decide ((a0.length : Int) ≤ (8 : Int)))))
theorem spec_UserOk_good (a0 : List UInt8) {r : Bool} (h : spec_UserOk a0 = some r) : GoodD Tryd.prog 77 [.val false (ES.row false a0)] [(false, EB.row false r)] [[]] := by
  have F : True := trivial
  unfold spec_UserOk at h
  refine good_body tabOk 11 [.tmp 2] Tryd.func77 rfl rfl rfl rfl ?_
  refine k_seq tabOk ?_
  refine k_seq tabOk ?_
  obtain rfl := Option.some.inj h
  refine tri_ret ?_
  exact k_retE

noncomputable def spec_UvalOk (a0 : List UInt8) : Option (Bool) :=
  (some (decide ((a0.length : Int) ≤ (20 : Int))))
theorem spec_UvalOk_good (a0 : List UInt8) {r : Bool} (h : spec_UvalOk a0 = some r) : GoodD Tryd.prog 78 [.val false (ES.row false a0)] [(false, EB.row false r)] [[]] := by
  have F : True := trivial
  unfold spec_UvalOk at h
  refine good_body tabOk 6 [.tmp 2] Tryd.func78 rfl rfl rfl rfl ?_
  refine k_seq tabOk ?_
  refine k_seq tabOk ?_
  obtain rfl := Option.some.inj h
  refine tri_ret ?_
  exact k_retE

noncomputable def spec_AskOk (a0 : S_impl_Ask) : Option (Bool) :=
  (bif (a0.f_Kind == (4 : Int)) then (Option.bind (bif ((a0.f_Key == ([] : List UInt8)) && (a0.f_Val == ([] : List UInt8))) then ((spec_ReachOk a0.f_Range).bind fun v4 => (some ((v4 && (decide ((1 : Int) ≤ a0.f_Most))) && (decide (a0.f_Most ≤ (8 : Int)))))) else (some false)) fun (v2 : Bool) => (some v2)) else (bif ((a0.f_Kind != (2 : Int)) && (!(a0.f_Val == ([] : List UInt8)))) then (some false) else (Option.bind (bif ((decide ((1 : Int) ≤ a0.f_Kind)) && (decide (a0.f_Kind ≤ (3 : Int)))) then ((spec_UserOk a0.f_Key).bind fun v10 => (bif v10 then ((spec_UvalOk a0.f_Val).bind fun v13 => (some (((v13 && ((a0.f_Range.f_Lo == ([] : List UInt8)) && (a0.f_Range.f_Hi == ([] : List UInt8)))) && (a0.f_Most == (0 : Int))) && (!a0.f_Back)))) else (some false))) else (some false)) fun (v8 : Bool) => (some v8))))
theorem spec_AskOk_good (a0 : S_impl_Ask) {r : Bool} (h : spec_AskOk a0 = some r) : GoodD Tryd.prog 63 [.val true (E_impl_Ask.row false a0)] [(false, EB.row false r)] [[]] := by
  have F : True := trivial
  unfold spec_AskOk at h
  refine good_body tabOk 73 [.tmp 2] Tryd.func63 rfl rfl rfl rfl ?_
  refine k_seq tabOk ?_
  refine k_seq tabOk ?_
  refine tri_seq ?_
  refine k_seq tabOk ?_
  rcases of_bif h with ⟨e1, h⟩ | ⟨e1, h⟩
  · replace F := fct e1 F
    refine k_then ?_
    obtain ⟨v2, e6, h⟩ := of_bind h
    refine r_join (n := 24) (fun (v2 : Bool) => ⟨[((2, 0), .val false [.bool v2])], [], 73, []⟩) v2 ?_ ?_
    · clear h
      have h := e6
      refine r_ops tabOk 11 13 ?_
      rcases of_bif h with ⟨e3, h⟩ | ⟨e3, h⟩
      · replace F := fct e3 F
        obtain ⟨v4, e5, h⟩ := of_bind h
        refine r_call tabOk 12 [.val] (spec_ReachOk_good _ e5) ?_
        refine r_ops tabOk 12 0 ?_
        refine run_end ?_
        obtain rfl := Option.some.inj h
        exact i_to [(2, 0)] []
      · replace F := fct e3 F
        refine r_skip 1 12 ?_
        refine r_ops tabOk 2 10 ?_
        refine r_skip 3 7 ?_
        refine r_ops tabOk 2 5 ?_
        refine r_skip 3 2 ?_
        refine r_ops tabOk 2 0 ?_
        refine run_end ?_
        obtain rfl := Option.some.inj h
        exact i_to [(2, 0)] []
    · obtain rfl := Option.some.inj h
      refine tri_ret ?_
      exact k_retE
  · replace F := fct e1 F
    refine k_else ?_
    refine tri_skip ?_
    refine thn_normal ?_
    refine tri_seq ?_
    refine k_seq tabOk ?_
    rcases of_bif h with ⟨e7, h⟩ | ⟨e7, h⟩
    · replace F := fct e7 F
      refine k_then ?_
      refine k_seq tabOk ?_
      obtain rfl := Option.some.inj h
      refine tri_ret ?_
      exact k_retE
    · replace F := fct e7 F
      refine k_else ?_
      refine tri_skip ?_
      refine thn_normal ?_
      obtain ⟨v8, e15, h⟩ := of_bind h
      refine r_join (n := 35) (fun (v8 : Bool) => ⟨[((2, 0), .val false [.bool v8])], [], 73, []⟩) v8 ?_ ?_
      · clear h
        have h := e15
        refine r_ops tabOk 11 24 ?_
        rcases of_bif h with ⟨e9, h⟩ | ⟨e9, h⟩
        · replace F := fct e9 F
          obtain ⟨v10, e11, h⟩ := of_bind h
          refine r_call tabOk 23 [.val] (spec_UserOk_good _ e11) ?_
          refine r_ops tabOk 4 19 ?_
          rcases of_bif h with ⟨e12, h⟩ | ⟨e12, h⟩
          · replace F := fct e12 F
            obtain ⟨v13, e14, h⟩ := of_bind h
            refine r_call tabOk 18 [.val] (spec_UvalOk_good _ e14) ?_
            refine r_ops tabOk 18 0 ?_
            refine run_end ?_
            obtain rfl := Option.some.inj h
            exact i_to [(2, 0)] []
          · replace F := fct e12 F
            refine r_skip 1 18 ?_
            refine r_ops tabOk 2 16 ?_
            refine r_skip 4 12 ?_
            refine r_ops tabOk 2 10 ?_
            refine r_skip 3 7 ?_
            refine r_ops tabOk 2 5 ?_
            refine r_skip 3 2 ?_
            refine r_ops tabOk 2 0 ?_
            refine run_end ?_
            obtain rfl := Option.some.inj h
            exact i_to [(2, 0)] []
        · replace F := fct e9 F
          refine r_skip 1 23 ?_
          refine r_ops tabOk 2 21 ?_
          refine r_skip 3 18 ?_
          refine r_ops tabOk 2 16 ?_
          refine r_skip 4 12 ?_
          refine r_ops tabOk 2 10 ?_
          refine r_skip 3 7 ?_
          refine r_ops tabOk 2 5 ?_
          refine r_skip 3 2 ?_
          refine r_ops tabOk 2 0 ?_
          refine run_end ?_
          obtain rfl := Option.some.inj h
          exact i_to [(2, 0)] []
      · obtain rfl := Option.some.inj h
        refine tri_ret ?_
        exact k_retE

noncomputable def spec_CallOk (a0 : S_impl_Call) : Option (Bool) :=
  (bif (a0.f_Kind == (2 : Int)) then ((spec_AskOk a0.f_Ask).bind fun v2 => (some v2)) else (some (((decide ((1 : Int) ≤ a0.f_Kind)) && (decide (a0.f_Kind ≤ (4 : Int)))) && ((a0.f_Ask.f_Kind == (0 : Int)) && ((a0.f_Ask.f_Key == ([] : List UInt8)) && ((a0.f_Ask.f_Val == ([] : List UInt8)) && ((a0.f_Ask.f_Range.f_Lo == ([] : List UInt8)) && ((a0.f_Ask.f_Range.f_Hi == ([] : List UInt8)) && ((a0.f_Ask.f_Most == (0 : Int)) && (a0.f_Ask.f_Back == false))))))))))
theorem spec_CallOk_good (a0 : S_impl_Call) {r : Bool} (h : spec_CallOk a0 = some r) : GoodD Tryd.prog 49 [.val true (E_impl_Call.row false a0)] [(false, EB.row false r)] [[]] := by
  have F : True := trivial
  unfold spec_CallOk at h
  refine good_body tabOk 25 [.tmp 2] Tryd.func49 rfl rfl rfl rfl ?_
  refine k_seq tabOk ?_
  refine k_seq tabOk ?_
  refine tri_seq ?_
  refine k_seq tabOk ?_
  rcases of_bif h with ⟨e1, h⟩ | ⟨e1, h⟩
  · replace F := fct e1 F
    refine k_then ?_
    refine k_runs 4 ?_
    refine r_ops tabOk 2 2 ?_
    obtain ⟨v2, e3, h⟩ := of_bind h
    refine r_call tabOk 1 [.val] (spec_AskOk_good _ e3) ?_
    refine r_ops tabOk 1 0 ?_
    refine run_end ?_
    obtain rfl := Option.some.inj h
    refine tri_ret ?_
    exact k_retE
  · replace F := fct e1 F
    refine k_else ?_
    refine tri_skip ?_
    refine thn_normal ?_
    refine k_seq tabOk ?_
    obtain rfl := Option.some.inj h
    refine tri_ret ?_
    exact k_retE

noncomputable def spec_l14Call (a0 : S_impl_Call) : Option ((List UInt8)) :=
  ((spec_CallOk a0).bind fun v1 => (bif (!v1) then (some []) else (bif (a0.f_Kind == (1 : Int)) then (some [98, 101, 103, 105, 110]) else (bif (a0.f_Kind == (3 : Int)) then (some [99, 111, 109, 109, 105, 116]) else (bif (a0.f_Kind == (4 : Int)) then (some [97, 98, 111, 114, 116]) else (bif (a0.f_Ask.f_Kind == (1 : Int)) then ((spec_Quote a0.f_Ask.f_Key).bind fun v8 => (bif decide (([103, 101, 116, 32] : List UInt8).length + v8.length ≤ 9223372036854775807) then (some (([103, 101, 116, 32] : List UInt8) ++ v8)) else none)) else (bif (a0.f_Ask.f_Kind == (2 : Int)) then ((spec_Quote a0.f_Ask.f_Key).bind fun v12 => (bif decide (([112, 117, 116, 32] : List UInt8).length + v12.length ≤ 9223372036854775807) then (bif decide ((([112, 117, 116, 32] : List UInt8) ++ v12).length + ([32] : List UInt8).length ≤ 9223372036854775807) then ((spec_Quote a0.f_Ask.f_Val).bind fun v16 => (bif decide (((([112, 117, 116, 32] : List UInt8) ++ v12) ++ ([32] : List UInt8)).length + v16.length ≤ 9223372036854775807) then (some (((([112, 117, 116, 32] : List UInt8) ++ v12) ++ ([32] : List UInt8)) ++ v16)) else none)) else none) else none)) else (bif (a0.f_Ask.f_Kind == (3 : Int)) then ((spec_Quote a0.f_Ask.f_Key).bind fun v20 => (bif decide (([100, 101, 108, 32] : List UInt8).length + v20.length ≤ 9223372036854775807) then (some (([100, 101, 108, 32] : List UInt8) ++ v20)) else none)) else (bif a0.f_Ask.f_Back then ((spec_Quote a0.f_Ask.f_Range.f_Lo).bind fun v24 => (bif decide (([98, 97, 99, 107, 32] : List UInt8).length + v24.length ≤ 9223372036854775807) then (bif decide ((([98, 97, 99, 107, 32] : List UInt8) ++ v24).length + ([32] : List UInt8).length ≤ 9223372036854775807) then ((spec_Quote a0.f_Ask.f_Range.f_Hi).bind fun v28 => (bif decide (((([98, 97, 99, 107, 32] : List UInt8) ++ v24) ++ ([32] : List UInt8)).length + v28.length ≤ 9223372036854775807) then (bif decide ((((([98, 97, 99, 107, 32] : List UInt8) ++ v24) ++ ([32] : List UInt8)) ++ v28).length + ([32] : List UInt8).length ≤ 9223372036854775807) then ((spec_NumText a0.f_Ask.f_Most).bind fun v32 => (bif decide (((((([98, 97, 99, 107, 32] : List UInt8) ++ v24) ++ ([32] : List UInt8)) ++ v28) ++ ([32] : List UInt8)).length + v32.length ≤ 9223372036854775807) then (some (((((([98, 97, 99, 107, 32] : List UInt8) ++ v24) ++ ([32] : List UInt8)) ++ v28) ++ ([32] : List UInt8)) ++ v32)) else none)) else none) else none)) else none) else none)) else ((spec_Quote a0.f_Ask.f_Range.f_Lo).bind fun v35 => (bif decide (([115, 99, 97, 110, 32] : List UInt8).length + v35.length ≤ 9223372036854775807) then (bif decide ((([115, 99, 97, 110, 32] : List UInt8) ++ v35).length + ([32] : List UInt8).length ≤ 9223372036854775807) then ((spec_Quote a0.f_Ask.f_Range.f_Hi).bind fun v39 => (bif decide (((([115, 99, 97, 110, 32] : List UInt8) ++ v35) ++ ([32] : List UInt8)).length + v39.length ≤ 9223372036854775807) then (bif decide ((((([115, 99, 97, 110, 32] : List UInt8) ++ v35) ++ ([32] : List UInt8)) ++ v39).length + ([32] : List UInt8).length ≤ 9223372036854775807) then ((spec_NumText a0.f_Ask.f_Most).bind fun v43 => (bif decide (((((([115, 99, 97, 110, 32] : List UInt8) ++ v35) ++ ([32] : List UInt8)) ++ v39) ++ ([32] : List UInt8)).length + v43.length ≤ 9223372036854775807) then (some (((((([115, 99, 97, 110, 32] : List UInt8) ++ v35) ++ ([32] : List UInt8)) ++ v39) ++ ([32] : List UInt8)) ++ v43)) else none)) else none) else none)) else none) else none)))))))))))
theorem spec_l14Call_good (a0 : S_impl_Call) {r : (List UInt8)} (h : spec_l14Call a0 = some r) : GoodD Tryd.prog 38 [.val true (E_impl_Call.row false a0)] [(false, ES.row false r)] [[]] := by
  have F : True := trivial
  unfold spec_l14Call at h
  refine good_body tabOk 62 [.tmp 2] Tryd.func38 rfl rfl rfl rfl ?_
  refine k_seq tabOk ?_
  refine tri_seq ?_
  refine k_runs 3 ?_
  refine r_ops tabOk 1 2 ?_
  obtain ⟨v1, e2, h⟩ := of_bind h
  refine r_call tabOk 1 [.val] (spec_CallOk_good _ e2) ?_
  refine r_ops tabOk 1 0 ?_
  refine run_end ?_
  rcases of_bif h with ⟨e3, h⟩ | ⟨e3, h⟩
  · replace F := fct e3 F
    refine k_then ?_
    refine k_seq tabOk ?_
    obtain rfl := Option.some.inj h
    refine tri_ret ?_
    exact k_retE
  · replace F := fct e3 F
    refine k_else ?_
    refine tri_skip ?_
    refine thn_normal ?_
    refine tri_seq ?_
    refine k_seq tabOk ?_
    refine tri_block ?_
    refine k_seq tabOk ?_
    rcases of_bif h with ⟨e4, h⟩ | ⟨e4, h⟩
    · replace F := fct e4 F
      refine k_then ?_
      refine k_seq tabOk ?_
      obtain rfl := Option.some.inj h
      refine tri_ret ?_
      exact k_retE
    · replace F := fct e4 F
      refine k_else ?_
      refine k_seq tabOk ?_
      rcases of_bif h with ⟨e5, h⟩ | ⟨e5, h⟩
      · replace F := fct e5 F
        refine k_then ?_
        refine k_seq tabOk ?_
        obtain rfl := Option.some.inj h
        refine tri_ret ?_
        exact k_retE
      · replace F := fct e5 F
        refine k_else ?_
        refine k_seq tabOk ?_
        rcases of_bif h with ⟨e6, h⟩ | ⟨e6, h⟩
        · replace F := fct e6 F
          refine k_then ?_
          refine k_seq tabOk ?_
          obtain rfl := Option.some.inj h
          refine tri_ret ?_
          exact k_retE
        · replace F := fct e6 F
          refine k_else ?_
          refine tri_skip ?_
          refine inblk_normal ?_
          refine thn_normal ?_
          refine k_seq tabOk ?_
          refine tri_seq ?_
          refine k_seq tabOk ?_
          refine tri_block ?_
          refine k_seq tabOk ?_
          rcases of_bif h with ⟨e7, h⟩ | ⟨e7, h⟩
          · replace F := fct e7 F
            refine k_then ?_
            refine k_runs 5 ?_
            refine r_ops tabOk 2 3 ?_
            obtain ⟨v8, e9, h⟩ := of_bind h
            refine r_call tabOk 2 [.val] (spec_Quote_good _ e9) ?_
            obtain ⟨e10, h⟩ := of_chk h
            replace F := fct (of_decide_eq_true e10) F
            refine r_ops tabOk 2 0 ?_
            refine run_end ?_
            obtain rfl := Option.some.inj h
            refine tri_ret ?_
            exact k_retE
          · replace F := fct e7 F
            refine k_else ?_
            refine k_seq tabOk ?_
            rcases of_bif h with ⟨e11, h⟩ | ⟨e11, h⟩
            · replace F := fct e11 F
              refine k_then ?_
              refine k_keep [(3, 0)] [(3, 0)] ?_
              refine k_draw mixed 10 ?_
              refine d_begin [[], [0], [0, 1], [1, 0, 2], [2, 0, 1, 3], [], [5], [1, 0, 2, 5, 6], [6, 5, 7, 3, 1, 0, 2, 4], [4, 2, 0, 1, 3, 7, 5, 6, 8]] ?_
              intro acc
              replace acc := a_q tabOk 0 [] acc
              replace acc := a_q tabOk 1 [0] acc
              obtain ⟨v12, e13, h⟩ := of_bind h
              replace acc := a_call tabOk 2 [0, 1] [.val] acc (spec_Quote_good _ e13)
              obtain ⟨e14, h⟩ := of_chk h
              replace F := fct (of_decide_eq_true e14) F
              replace acc := a_q tabOk 3 [0, 1, 2] acc
              obtain ⟨e15, h⟩ := of_chk h
              replace F := fct (of_decide_eq_true e15) F
              replace acc := a_q tabOk 4 [0, 1, 2, 3] acc
              replace acc := a_q tabOk 5 [] acc
              replace acc := a_q tabOk 6 [5] acc
              obtain ⟨v16, e17, h⟩ := of_bind h
              replace acc := a_call tabOk 7 [0, 1, 2, 5, 6] [.val] acc (spec_Quote_good _ e17)
              obtain ⟨e18, h⟩ := of_chk h
              replace F := fct (of_decide_eq_true e18) F
              replace acc := a_q tabOk 8 [0, 1, 2, 3, 4, 5, 6, 7] acc
              replace acc := a_asg tabOk 9 [0, 1, 2, 3, 4, 5, 6, 7, 8] acc
              refine d_tail [] acc ?_
              clear acc
              refine d_done ?_
              obtain rfl := Option.some.inj h
              refine tri_ret ?_
              exact k_retE
            · replace F := fct e11 F
              refine k_else ?_
              refine k_keep [(3, 0), (19, 0)] [(3, 0)] ?_
              refine k_seq tabOk ?_
              rcases of_bif h with ⟨e19, h⟩ | ⟨e19, h⟩
              · replace F := fct e19 F
                refine k_then ?_
                refine k_runs 5 ?_
                refine r_ops tabOk 2 3 ?_
                obtain ⟨v20, e21, h⟩ := of_bind h
                refine r_call tabOk 2 [.val] (spec_Quote_good _ e21) ?_
                obtain ⟨e22, h⟩ := of_chk h
                replace F := fct (of_decide_eq_true e22) F
                refine r_ops tabOk 2 0 ?_
                refine run_end ?_
                obtain rfl := Option.some.inj h
                refine tri_ret ?_
                exact k_retE
              · replace F := fct e19 F
                refine k_else ?_
                refine tri_skip ?_
                refine inblk_normal ?_
                refine thn_normal ?_
                refine k_seq tabOk ?_
                refine tri_seq ?_
                refine k_seq tabOk ?_
                rcases of_bif h with ⟨e23, h⟩ | ⟨e23, h⟩
                · replace F := fct e23 F
                  refine k_then ?_
                  refine k_one tabOk ?_
                  refine thn_normal ?_
                  refine k_draw mixed 18 ?_
                  refine d_begin [[], [], [1], [1, 2], [2, 1, 3], [3, 1, 2, 4, 0], [0, 4, 2, 1, 3, 5], [], [7], [7, 8], [3, 1, 2, 4, 8, 7, 9], [9, 7, 8, 10, 5, 3, 1, 2, 4, 0, 6], [6, 0, 4, 2, 1, 3, 5, 10, 8, 7, 9, 11], [], [13], [9, 7, 8, 4, 2, 1, 3, 10, 13, 14], [14, 13, 15, 11, 9, 7, 8, 10, 5, 3, 1, 2, 4, 0, 6, 12], [12, 6, 0, 4, 2, 1, 3, 5, 10, 8, 7, 9, 11, 15, 13, 14, 16]] ?_
                  intro acc
                  replace acc := a_q tabOk 0 [] acc
                  replace acc := a_q tabOk 1 [] acc
                  replace acc := a_q tabOk 2 [1] acc
                  replace acc := a_q tabOk 3 [1, 2] acc
                  obtain ⟨v24, e25, h⟩ := of_bind h
                  replace acc := a_call tabOk 4 [1, 2, 3] [.val] acc (spec_Quote_good _ e25)
                  obtain ⟨e26, h⟩ := of_chk h
                  replace F := fct (of_decide_eq_true e26) F
                  replace acc := a_q tabOk 5 [0, 1, 2, 3, 4] acc
                  obtain ⟨e27, h⟩ := of_chk h
                  replace F := fct (of_decide_eq_true e27) F
                  replace acc := a_q tabOk 6 [0, 1, 2, 3, 4, 5] acc
                  replace acc := a_q tabOk 7 [] acc
                  replace acc := a_q tabOk 8 [7] acc
                  replace acc := a_q tabOk 9 [7, 8] acc
                  obtain ⟨v28, e29, h⟩ := of_bind h
                  replace acc := a_call tabOk 10 [1, 2, 3, 4, 7, 8, 9] [.val] acc (spec_Quote_good _ e29)
                  obtain ⟨e30, h⟩ := of_chk h
                  replace F := fct (of_decide_eq_true e30) F
                  replace acc := a_q tabOk 11 [0, 1, 2, 3, 4, 5, 6, 7, 8, 9, 10] acc
                  obtain ⟨e31, h⟩ := of_chk h
                  replace F := fct (of_decide_eq_true e31) F
                  replace acc := a_q tabOk 12 [0, 1, 2, 3, 4, 5, 6, 7, 8, 9, 10, 11] acc
                  replace acc := a_q tabOk 13 [] acc
                  replace acc := a_q tabOk 14 [13] acc
                  obtain ⟨v32, e33, h⟩ := of_bind h
                  replace acc := a_call tabOk 15 [1, 2, 3, 4, 7, 8, 9, 10, 13, 14] [.val] acc (spec_NumText_good _ e33)
                  obtain ⟨e34, h⟩ := of_chk h
                  replace F := fct (of_decide_eq_true e34) F
                  replace acc := a_q tabOk 16 [0, 1, 2, 3, 4, 5, 6, 7, 8, 9, 10, 11, 12, 13, 14, 15] acc
                  replace acc := a_asg tabOk 17 [0, 1, 2, 3, 4, 5, 6, 7, 8, 9, 10, 11, 12, 13, 14, 15, 16] acc
                  refine d_tail [] acc ?_
                  clear acc
                  refine d_done ?_
                  obtain rfl := Option.some.inj h
                  refine tri_ret ?_
                  exact k_retE
                · replace F := fct e23 F
                  refine k_else ?_
                  refine tri_skip ?_
                  refine thn_normal ?_
                  refine k_draw mixed 18 ?_
                  refine d_begin [[], [], [1], [1, 2], [2, 1, 3], [3, 1, 2, 4, 0], [0, 4, 2, 1, 3, 5], [], [7], [7, 8], [3, 1, 2, 4, 8, 7, 9], [9, 7, 8, 10, 5, 3, 1, 2, 4, 0, 6], [6, 0, 4, 2, 1, 3, 5, 10, 8, 7, 9, 11], [], [13], [9, 7, 8, 4, 2, 1, 3, 10, 13, 14], [14, 13, 15, 11, 9, 7, 8, 10, 5, 3, 1, 2, 4, 0, 6, 12], [12, 6, 0, 4, 2, 1, 3, 5, 10, 8, 7, 9, 11, 15, 13, 14, 16]] ?_
                  intro acc
                  replace acc := a_q tabOk 0 [] acc
                  replace acc := a_q tabOk 1 [] acc
                  replace acc := a_q tabOk 2 [1] acc
                  replace acc := a_q tabOk 3 [1, 2] acc
                  obtain ⟨v35, e36, h⟩ := of_bind h
                  replace acc := a_call tabOk 4 [1, 2, 3] [.val] acc (spec_Quote_good _ e36)
                  obtain ⟨e37, h⟩ := of_chk h
                  replace F := fct (of_decide_eq_true e37) F
                  replace acc := a_q tabOk 5 [0, 1, 2, 3, 4] acc
                  obtain ⟨e38, h⟩ := of_chk h
                  replace F := fct (of_decide_eq_true e38) F
                  replace acc := a_q tabOk 6 [0, 1, 2, 3, 4, 5] acc
                  replace acc := a_q tabOk 7 [] acc
                  replace acc := a_q tabOk 8 [7] acc
                  replace acc := a_q tabOk 9 [7, 8] acc
                  obtain ⟨v39, e40, h⟩ := of_bind h
                  replace acc := a_call tabOk 10 [1, 2, 3, 4, 7, 8, 9] [.val] acc (spec_Quote_good _ e40)
                  obtain ⟨e41, h⟩ := of_chk h
                  replace F := fct (of_decide_eq_true e41) F
                  replace acc := a_q tabOk 11 [0, 1, 2, 3, 4, 5, 6, 7, 8, 9, 10] acc
                  obtain ⟨e42, h⟩ := of_chk h
                  replace F := fct (of_decide_eq_true e42) F
                  replace acc := a_q tabOk 12 [0, 1, 2, 3, 4, 5, 6, 7, 8, 9, 10, 11] acc
                  replace acc := a_q tabOk 13 [] acc
                  replace acc := a_q tabOk 14 [13] acc
                  obtain ⟨v43, e44, h⟩ := of_bind h
                  replace acc := a_call tabOk 15 [1, 2, 3, 4, 7, 8, 9, 10, 13, 14] [.val] acc (spec_NumText_good _ e44)
                  obtain ⟨e45, h⟩ := of_chk h
                  replace F := fct (of_decide_eq_true e45) F
                  replace acc := a_q tabOk 16 [0, 1, 2, 3, 4, 5, 6, 7, 8, 9, 10, 11, 12, 13, 14, 15] acc
                  replace acc := a_asg tabOk 17 [0, 1, 2, 3, 4, 5, 6, 7, 8, 9, 10, 11, 12, 13, 14, 15, 16] acc
                  refine d_tail [] acc ?_
                  clear acc
                  refine d_done ?_
                  obtain rfl := Option.some.inj h
                  refine tri_ret ?_
                  exact k_retE

noncomputable def spec_StepText_l1 (a0 : S_impl_Step) (s24 : (List UInt8) × Int) : Option (((List UInt8) × Int) ⊕ (((List UInt8)) ⊕ ((List UInt8)))) :=
  (bif (decide (s24.2 < (a0.f_Keep.length : Int))) then ((at? a0.f_Keep s24.2).bind fun x28 => ((spec_l01Num x28).bind fun v30 => (bif (!v30) then (some (Sum.inr (Sum.inr []))) else (bif decide (s24.1.length + ([32] : List UInt8).length ≤ 9223372036854775807) then ((spec_NumText x28).bind fun v34 => (bif decide ((s24.1 ++ ([32] : List UInt8)).length + v34.length ≤ 9223372036854775807) then (some (Sum.inl (((s24.1 ++ ([32] : List UInt8)) ++ v34), (IntKind.i64.wrap (s24.2 + (1 : Int)))))) else none)) else none)))) else (some (Sum.inr (Sum.inl s24.1))))
noncomputable def spec_StepText_l2 (a0 : S_impl_Step) (s46 : (List UInt8) × Int) : Option (((List UInt8) × Int) ⊕ (((List UInt8)) ⊕ ((List UInt8)))) :=
  (bif (decide (s46.2 < (a0.f_Keep.length : Int))) then ((at? a0.f_Keep s46.2).bind fun x50 => ((spec_l01Num x50).bind fun v52 => (bif (!v52) then (some (Sum.inr (Sum.inr []))) else (bif decide (s46.1.length + ([32] : List UInt8).length ≤ 9223372036854775807) then ((spec_NumText x50).bind fun v56 => (bif decide ((s46.1 ++ ([32] : List UInt8)).length + v56.length ≤ 9223372036854775807) then (some (Sum.inl (((s46.1 ++ ([32] : List UInt8)) ++ v56), (IntKind.i64.wrap (s46.2 + (1 : Int)))))) else none)) else none)))) else (some (Sum.inr (Sum.inl s46.1))))
noncomputable def spec_StepText_l3 (a0 : S_impl_Step) (s73 : (List UInt8) × Int) : Option (((List UInt8) × Int) ⊕ (((List UInt8)) ⊕ ((List UInt8)))) :=
  (bif (decide (s73.2 < (a0.f_Keep.length : Int))) then ((at? a0.f_Keep s73.2).bind fun x77 => ((spec_l01Num x77).bind fun v79 => (bif (!v79) then (some (Sum.inr (Sum.inr []))) else (bif decide (s73.1.length + ([32] : List UInt8).length ≤ 9223372036854775807) then ((spec_NumText x77).bind fun v83 => (bif decide ((s73.1 ++ ([32] : List UInt8)).length + v83.length ≤ 9223372036854775807) then (some (Sum.inl (((s73.1 ++ ([32] : List UInt8)) ++ v83), (IntKind.i64.wrap (s73.2 + (1 : Int)))))) else none)) else none)))) else (some (Sum.inr (Sum.inl s73.1))))
noncomputable def spec_StepText_l4 (a0 : S_impl_Step) (s95 : (List UInt8) × Int) : Option (((List UInt8) × Int) ⊕ (((List UInt8)) ⊕ ((List UInt8)))) :=
  (bif (decide (s95.2 < (a0.f_Keep.length : Int))) then ((at? a0.f_Keep s95.2).bind fun x99 => ((spec_l01Num x99).bind fun v101 => (bif (!v101) then (some (Sum.inr (Sum.inr []))) else (bif decide (s95.1.length + ([32] : List UInt8).length ≤ 9223372036854775807) then ((spec_NumText x99).bind fun v105 => (bif decide ((s95.1 ++ ([32] : List UInt8)).length + v105.length ≤ 9223372036854775807) then (some (Sum.inl (((s95.1 ++ ([32] : List UInt8)) ++ v105), (IntKind.i64.wrap (s95.2 + (1 : Int)))))) else none)) else none)))) else (some (Sum.inr (Sum.inl s95.1))))
noncomputable def spec_StepText (a0 : S_impl_Step) : Option ((List UInt8)) :=
  (Option.bind (bif ((decide (a0.f_Kind < (1 : Int))) || (decide ((9 : Int) < a0.f_Kind))) then (some true) else ((spec_l01Num a0.f_A).bind fun v3 => (bif (!v3) then (some true) else ((spec_l01Num a0.f_B).bind fun v6 => (some (!v6)))))) fun (v1 : Bool) => (bif v1 then (some []) else (bif ((((a0.f_Kind != (1 : Int)) && ((a0.f_Call.f_Kind != (0 : Int)) || (!((a0.f_Call.f_Ask.f_Kind == (0 : Int)) && ((a0.f_Call.f_Ask.f_Key == ([] : List UInt8)) && ((a0.f_Call.f_Ask.f_Val == ([] : List UInt8)) && ((a0.f_Call.f_Ask.f_Range.f_Lo == ([] : List UInt8)) && ((a0.f_Call.f_Ask.f_Range.f_Hi == ([] : List UInt8)) && ((a0.f_Call.f_Ask.f_Most == (0 : Int)) && (a0.f_Call.f_Ask.f_Back == false)))))))))) || ((a0.f_Kind != (7 : Int)) && ((a0.f_B != (0 : Int)) || (decide ((0 : Int) < (a0.f_Keep.length : Int)))))) || ((a0.f_Kind == (5 : Int)) && (a0.f_A != (0 : Int)))) then (some []) else ((spec_l14Words).bind fun v10 => ((at? v10 a0.f_Kind).bind fun x12 => (bif (a0.f_Kind != (5 : Int)) then (bif decide (x12.length + ([32] : List UInt8).length ≤ 9223372036854775807) then ((spec_NumText a0.f_A).bind fun v16 => (bif decide ((x12 ++ ([32] : List UInt8)).length + v16.length ≤ 9223372036854775807) then (bif (a0.f_Kind == (7 : Int)) then (bif decide (((x12 ++ ([32] : List UInt8)) ++ v16).length + ([32] : List UInt8).length ≤ 9223372036854775807) then ((spec_NumText a0.f_B).bind fun v21 => (bif decide ((((x12 ++ ([32] : List UInt8)) ++ v16) ++ ([32] : List UInt8)).length + v21.length ≤ 9223372036854775807) then (Option.bind (loopC (spec_StepText_l1 a0) (((((x12 ++ ([32] : List UInt8)) ++ v16) ++ ([32] : List UInt8)) ++ v21), (0 : Int))) (early fun (v25 : (List UInt8)) => (bif (a0.f_Kind == (1 : Int)) then ((spec_l14Call a0.f_Call).bind fun v40 => (bif (v40 == ([] : List UInt8)) then (some []) else (bif decide (v25.length + ([32] : List UInt8).length ≤ 9223372036854775807) then (bif decide ((v25 ++ ([32] : List UInt8)).length + v40.length ≤ 9223372036854775807) then (some ((v25 ++ ([32] : List UInt8)) ++ v40)) else none) else none))) else (some v25)))) else none)) else none) else (Option.bind (loopC (spec_StepText_l2 a0) (((x12 ++ ([32] : List UInt8)) ++ v16), (0 : Int))) (early fun (v47 : (List UInt8)) => (bif (a0.f_Kind == (1 : Int)) then ((spec_l14Call a0.f_Call).bind fun v62 => (bif (v62 == ([] : List UInt8)) then (some []) else (bif decide (v47.length + ([32] : List UInt8).length ≤ 9223372036854775807) then (bif decide ((v47 ++ ([32] : List UInt8)).length + v62.length ≤ 9223372036854775807) then (some ((v47 ++ ([32] : List UInt8)) ++ v62)) else none) else none))) else (some v47))))) else none)) else none) else (bif (a0.f_Kind == (7 : Int)) then (bif decide (x12.length + ([32] : List UInt8).length ≤ 9223372036854775807) then ((spec_NumText a0.f_B).bind fun v70 => (bif decide ((x12 ++ ([32] : List UInt8)).length + v70.length ≤ 9223372036854775807) then (Option.bind (loopC (spec_StepText_l3 a0) (((x12 ++ ([32] : List UInt8)) ++ v70), (0 : Int))) (early fun (v74 : (List UInt8)) => (bif (a0.f_Kind == (1 : Int)) then ((spec_l14Call a0.f_Call).bind fun v89 => (bif (v89 == ([] : List UInt8)) then (some []) else (bif decide (v74.length + ([32] : List UInt8).length ≤ 9223372036854775807) then (bif decide ((v74 ++ ([32] : List UInt8)).length + v89.length ≤ 9223372036854775807) then (some ((v74 ++ ([32] : List UInt8)) ++ v89)) else none) else none))) else (some v74)))) else none)) else none) else (Option.bind (loopC (spec_StepText_l4 a0) (x12, (0 : Int))) (early fun (v96 : (List UInt8)) => (bif (a0.f_Kind == (1 : Int)) then ((spec_l14Call a0.f_Call).bind fun v111 => (bif (v111 == ([] : List UInt8)) then (some []) else (bif decide (v96.length + ([32] : List UInt8).length ≤ 9223372036854775807) then (bif decide ((v96 ++ ([32] : List UInt8)).length + v111.length ≤ 9223372036854775807) then (some ((v96 ++ ([32] : List UInt8)) ++ v111)) else none) else none))) else (some v96)))))))))))
theorem spec_StepText_good (a0 : S_impl_Step) {r : (List UInt8)} (h : spec_StepText a0 = some r) : GoodD Tryd.prog 19 [.val true (E_impl_Step.row false a0)] [(false, ES.row false r)] [[]] := by
  have F : True := trivial
  unfold spec_StepText at h
  refine good_body tabOk 123 [.tmp 2] Tryd.func19 rfl rfl rfl rfl ?_
  refine k_seq tabOk ?_
  refine k_seq tabOk ?_
  refine tri_seq ?_
  obtain ⟨v1, e117, h⟩ := of_bind h
  refine r_join (n := 20) (fun (v1 : Bool) => ⟨[((1, 0), .adr (1, 0) [0]), ((3, 0), .adr (3, 0) [0]), ((28, 0), .val false [.bool v1])], [⟨(1, 0), false, [.int .i64 a0.f_Kind, .int .i64 a0.f_A, .int .i64 a0.f_B, .sl false 1 (a0.f_Keep : List Int).length ((EI .i64).L false a0.f_Keep), .int .i64 a0.f_Call.f_Kind, .int .i64 a0.f_Call.f_Ask.f_Kind, .str a0.f_Call.f_Ask.f_Key, .str a0.f_Call.f_Ask.f_Val, .str a0.f_Call.f_Ask.f_Range.f_Lo, .str a0.f_Call.f_Ask.f_Range.f_Hi, .int .i64 a0.f_Call.f_Ask.f_Most, .bool a0.f_Call.f_Ask.f_Back]⟩, ⟨(3, 0), false, [.int .i64 (0 : Int), .str [], .str [], .str [], .str [], .int .i64 (0 : Int), .bool false]⟩], 123, []⟩) v1 ?_ ?_
  · clear h
    have h := e117
    refine r_ops tabOk 11 9 ?_
    rcases of_bif h with ⟨e2, h⟩ | ⟨e2, h⟩
    · replace F := fct e2 F
      refine r_skip 2 7 ?_
      refine r_ops tabOk 2 5 ?_
      refine r_skip 4 1 ?_
      refine r_ops tabOk 1 0 ?_
      refine run_end ?_
      obtain rfl := Option.some.inj h
      exact i_to [(1, 0), (3, 0), (28, 0)] [(1, 0), (3, 0)]
    · replace F := fct e2 F
      obtain ⟨v3, e4, h⟩ := of_bind h
      refine r_call tabOk 8 [.val] (spec_l01Num_good _ e4) ?_
      refine r_ops tabOk 5 3 ?_
      rcases of_bif h with ⟨e5, h⟩ | ⟨e5, h⟩
      · replace F := fct e5 F
        refine r_skip 2 1 ?_
        refine r_ops tabOk 1 0 ?_
        refine run_end ?_
        obtain rfl := Option.some.inj h
        exact i_to [(1, 0), (3, 0), (28, 0)] [(1, 0), (3, 0)]
      · replace F := fct e5 F
        obtain ⟨v6, e7, h⟩ := of_bind h
        refine r_call tabOk 2 [.val] (spec_l01Num_good _ e7) ?_
        refine r_ops tabOk 2 0 ?_
        refine run_end ?_
        obtain rfl := Option.some.inj h
        exact i_to [(1, 0), (3, 0), (28, 0)] [(1, 0), (3, 0)]
  · rcases of_bif h with ⟨e8, h⟩ | ⟨e8, h⟩
    · replace F := fct e8 F
      refine k_then ?_
      refine k_seq tabOk ?_
      obtain rfl := Option.some.inj h
      refine tri_ret ?_
      exact k_retE
    · replace F := fct e8 F
      refine k_else ?_
      refine tri_skip ?_
      refine thn_normal ?_
      refine tri_seq ?_
      refine k_seq tabOk ?_
      rcases of_bif h with ⟨e9, h⟩ | ⟨e9, h⟩
      · replace F := fct e9 F
        refine k_then ?_
        refine k_keep [] [] ?_
        refine k_seq tabOk ?_
        obtain rfl := Option.some.inj h
        refine tri_ret ?_
        exact k_retE
      · replace F := fct e9 F
        refine k_else ?_
        refine tri_skip ?_
        refine thn_normal ?_
        refine k_keep [(1, 0)] [(1, 0)] ?_
        refine k_draw mixed 6 ?_
        refine d_begin [[], [], [1], [1, 2, 0], [0, 2, 1, 3], [3, 1, 2, 0, 4]] ?_
        intro acc
        obtain ⟨v10, e11, h⟩ := of_bind h
        replace acc := a_call tabOk 0 [] [] acc (spec_l14Words_good e11)
        replace acc := a_q tabOk 1 [] acc
        replace acc := a_q tabOk 2 [1] acc
        obtain ⟨x12, e13, h⟩ := of_bind h
        replace F := fct (at_range e13) F
        replace acc := a_q tabOk 3 [0, 1, 2] acc
        replace F := fct (at_ow ES true 1 1 e13) F
        replace acc := a_q tabOk 4 [0, 1, 2, 3] acc
        replace acc := a_asg tabOk 5 [0, 1, 2, 3, 4] acc
        refine d_tail [] acc ?_
        clear acc
        refine d_done ?_
        refine tri_seq ?_
        refine k_seq tabOk ?_
        rcases of_bif h with ⟨e14, h⟩ | ⟨e14, h⟩
        · replace F := fct e14 F
          refine k_then ?_
          refine k_run1 7 ?_
          obtain ⟨e15, h⟩ := of_chk h
          replace F := fct (of_decide_eq_true e15) F
          refine r_ops tabOk 4 3 ?_
          obtain ⟨v16, e17, h⟩ := of_bind h
          refine r_call tabOk 2 [.val] (spec_NumText_good _ e17) ?_
          obtain ⟨e18, h⟩ := of_chk h
          replace F := fct (of_decide_eq_true e18) F
          refine r_ops tabOk 2 0 ?_
          refine run_end ?_
          refine thn_normal ?_
          refine tri_seq ?_
          refine k_seq tabOk ?_
          rcases of_bif h with ⟨e19, h⟩ | ⟨e19, h⟩
          · replace F := fct e19 F
            refine k_then ?_
            refine k_run1 7 ?_
            obtain ⟨e20, h⟩ := of_chk h
            replace F := fct (of_decide_eq_true e20) F
            refine r_ops tabOk 4 3 ?_
            obtain ⟨v21, e22, h⟩ := of_bind h
            refine r_call tabOk 2 [.val] (spec_NumText_good _ e22) ?_
            obtain ⟨e23, h⟩ := of_chk h
            replace F := fct (of_decide_eq_true e23) F
            refine r_ops tabOk 2 0 ?_
            refine run_end ?_
            refine thn_normal ?_
            refine tri_seq ?_
            refine k_keep [(1, 0), (4, 0)] [(1, 0)] ?_
            refine k_seq tabOk ?_
            refine tri_block ?_
            obtain ⟨o45, e37, h⟩ := of_bind h
            refine k_loopE (fun (s24 : (List UInt8) × Int) => ⟨[((1, 0), .adr (1, 0) [0]), ((4, 0), .val false [.str s24.1]), ((95, 0), .val false [.sl false 1 (a0.f_Keep : List Int).length ((EI .i64).L false a0.f_Keep)]), ((96, 0), .val false [.int .i64 (a0.f_Keep.length : Int)]), ((97, 0), .val false [.int .i64 s24.2])], [⟨(1, 0), false, [.int .i64 a0.f_Kind, .int .i64 a0.f_A, .int .i64 a0.f_B, .sl false 1 (a0.f_Keep : List Int).length ((EI .i64).L false a0.f_Keep), .int .i64 a0.f_Call.f_Kind, .int .i64 a0.f_Call.f_Ask.f_Kind, .str a0.f_Call.f_Ask.f_Key, .str a0.f_Call.f_Ask.f_Val, .str a0.f_Call.f_Ask.f_Range.f_Lo, .str a0.f_Call.f_Ask.f_Range.f_Hi, .int .i64 a0.f_Call.f_Ask.f_Most, .bool a0.f_Call.f_Ask.f_Back]⟩], 123, []⟩) 0 (fun (v25 : (List UInt8)) => ⟨[((1, 0), .adr (1, 0) [0]), ((4, 0), .val false [.str v25])], [⟨(1, 0), false, [.int .i64 a0.f_Kind, .int .i64 a0.f_A, .int .i64 a0.f_B, .sl false 1 (a0.f_Keep : List Int).length ((EI .i64).L false a0.f_Keep), .int .i64 a0.f_Call.f_Kind, .int .i64 a0.f_Call.f_Ask.f_Kind, .str a0.f_Call.f_Ask.f_Key, .str a0.f_Call.f_Ask.f_Val, .str a0.f_Call.f_Ask.f_Range.f_Lo, .str a0.f_Call.f_Ask.f_Range.f_Hi, .int .i64 a0.f_Call.f_Ask.f_Most, .bool a0.f_Call.f_Ask.f_Back]⟩], 123, []⟩) r e37 ?_ ?_ (fun _ e38 => early_r h e38) (fun v25 e38 => ?_)
            · exact i_to [(1, 0), (4, 0), (95, 0), (96, 0), (97, 0)] [(1, 0)]
            · clear h e37
              intro s24 o26 h
              unfold spec_StepText_l1 at h
              refine k_seq tabOk ?_
              refine tri_seq ?_
              rcases of_bif h with ⟨e27, h⟩ | ⟨e27, h⟩
              · replace F := fct e27 F
                refine k_then ?_
                refine tri_skip ?_
                refine thn_normal ?_
                refine tri_seq ?_
                refine tri_block ?_
                obtain ⟨x28, e29, h⟩ := of_bind h
                replace F := fct (at_range e29) F
                replace F := fct (at_fs (EI .i64) false 1 [] 1 e29) F
                refine k_seq tabOk ?_
                refine tri_seq ?_
                refine k_runs 3 ?_
                refine r_ops tabOk 1 2 ?_
                obtain ⟨v30, e31, h⟩ := of_bind h
                refine r_call tabOk 1 [.val] (spec_l01Num_good _ e31) ?_
                refine r_ops tabOk 1 0 ?_
                refine run_end ?_
                rcases of_bif h with ⟨e32, h⟩ | ⟨e32, h⟩
                · replace F := fct e32 F
                  refine k_then ?_
                  refine k_seq tabOk ?_
                  obtain rfl := Option.some.inj h
                  refine tri_ret ?_
                  refine q_ret (fun e => ?_)
                  subst e
                  exact k_retE
                · replace F := fct e32 F
                  refine k_else ?_
                  refine tri_skip ?_
                  refine thn_normal ?_
                  refine k_run1 6 ?_
                  obtain ⟨e33, h⟩ := of_chk h
                  replace F := fct (of_decide_eq_true e33) F
                  refine r_ops tabOk 3 3 ?_
                  obtain ⟨v34, e35, h⟩ := of_bind h
                  refine r_call tabOk 2 [.val] (spec_NumText_good _ e35) ?_
                  obtain ⟨e36, h⟩ := of_chk h
                  replace F := fct (of_decide_eq_true e36) F
                  refine r_ops tabOk 2 0 ?_
                  refine run_end ?_
                  refine inblk_normal ?_
                  refine thn_normal ?_
                  refine k_one tabOk ?_
                  obtain rfl := Option.some.inj h
                  exact and_rfl (i_to [(1, 0), (4, 0), (95, 0), (96, 0), (97, 0)] [(1, 0)])
              · replace F := fct e27 F
                refine k_else ?_
                refine tri_exit ?_
                refine thn_exit ?_
                obtain rfl := Option.some.inj h
                exact and_rfl (i_to [(1, 0), (4, 0)] [(1, 0)])
            · replace h := early_l h e38
              refine inblk_here ?_
              refine thn_normal ?_
              refine tri_seq ?_
              refine k_seq tabOk ?_
              rcases of_bif h with ⟨e39, h⟩ | ⟨e39, h⟩
              · replace F := fct e39 F
                refine k_then ?_
                refine k_runs 4 ?_
                refine r_ops tabOk 2 2 ?_
                obtain ⟨v40, e41, h⟩ := of_bind h
                refine r_call tabOk 1 [.val] (spec_l14Call_good _ e41) ?_
                refine r_ops tabOk 1 0 ?_
                refine run_end ?_
                refine tri_seq ?_
                refine k_seq tabOk ?_
                rcases of_bif h with ⟨e42, h⟩ | ⟨e42, h⟩
                · replace F := fct e42 F
                  refine k_then ?_
                  refine k_seq tabOk ?_
                  obtain rfl := Option.some.inj h
                  refine tri_ret ?_
                  exact k_retE
                · replace F := fct e42 F
                  refine k_else ?_
                  refine tri_skip ?_
                  refine thn_normal ?_
                  obtain ⟨e43, h⟩ := of_chk h
                  replace F := fct (of_decide_eq_true e43) F
                  obtain ⟨e44, h⟩ := of_chk h
                  replace F := fct (of_decide_eq_true e44) F
                  refine k_one tabOk ?_
                  refine thn_normal ?_
                  refine k_seq tabOk ?_
                  obtain rfl := Option.some.inj h
                  refine tri_ret ?_
                  exact k_retE
              · replace F := fct e39 F
                refine k_else ?_
                refine tri_skip ?_
                refine thn_normal ?_
                refine k_seq tabOk ?_
                obtain rfl := Option.some.inj h
                refine tri_ret ?_
                exact k_retE
          · replace F := fct e19 F
            refine k_else ?_
            refine tri_skip ?_
            refine thn_normal ?_
            refine tri_seq ?_
            refine k_seq tabOk ?_
            refine tri_block ?_
            obtain ⟨o67, e59, h⟩ := of_bind h
            refine k_loopE (fun (s46 : (List UInt8) × Int) => ⟨[((1, 0), .adr (1, 0) [0]), ((4, 0), .val false [.str s46.1]), ((95, 0), .val false [.sl false 1 (a0.f_Keep : List Int).length ((EI .i64).L false a0.f_Keep)]), ((96, 0), .val false [.int .i64 (a0.f_Keep.length : Int)]), ((97, 0), .val false [.int .i64 s46.2])], [⟨(1, 0), false, [.int .i64 a0.f_Kind, .int .i64 a0.f_A, .int .i64 a0.f_B, .sl false 1 (a0.f_Keep : List Int).length ((EI .i64).L false a0.f_Keep), .int .i64 a0.f_Call.f_Kind, .int .i64 a0.f_Call.f_Ask.f_Kind, .str a0.f_Call.f_Ask.f_Key, .str a0.f_Call.f_Ask.f_Val, .str a0.f_Call.f_Ask.f_Range.f_Lo, .str a0.f_Call.f_Ask.f_Range.f_Hi, .int .i64 a0.f_Call.f_Ask.f_Most, .bool a0.f_Call.f_Ask.f_Back]⟩], 123, []⟩) 0 (fun (v47 : (List UInt8)) => ⟨[((1, 0), .adr (1, 0) [0]), ((4, 0), .val false [.str v47])], [⟨(1, 0), false, [.int .i64 a0.f_Kind, .int .i64 a0.f_A, .int .i64 a0.f_B, .sl false 1 (a0.f_Keep : List Int).length ((EI .i64).L false a0.f_Keep), .int .i64 a0.f_Call.f_Kind, .int .i64 a0.f_Call.f_Ask.f_Kind, .str a0.f_Call.f_Ask.f_Key, .str a0.f_Call.f_Ask.f_Val, .str a0.f_Call.f_Ask.f_Range.f_Lo, .str a0.f_Call.f_Ask.f_Range.f_Hi, .int .i64 a0.f_Call.f_Ask.f_Most, .bool a0.f_Call.f_Ask.f_Back]⟩], 123, []⟩) r e59 ?_ ?_ (fun _ e60 => early_r h e60) (fun v47 e60 => ?_)
            · exact i_to [(1, 0), (4, 0), (95, 0), (96, 0), (97, 0)] [(1, 0)]
            · clear h e59
              intro s46 o48 h
              unfold spec_StepText_l2 at h
              refine k_seq tabOk ?_
              refine tri_seq ?_
              rcases of_bif h with ⟨e49, h⟩ | ⟨e49, h⟩
              · replace F := fct e49 F
                refine k_then ?_
                refine tri_skip ?_
                refine thn_normal ?_
                refine tri_seq ?_
                refine tri_block ?_
                obtain ⟨x50, e51, h⟩ := of_bind h
                replace F := fct (at_range e51) F
                replace F := fct (at_fs (EI .i64) false 1 [] 1 e51) F
                refine k_seq tabOk ?_
                refine tri_seq ?_
                refine k_runs 3 ?_
                refine r_ops tabOk 1 2 ?_
                obtain ⟨v52, e53, h⟩ := of_bind h
                refine r_call tabOk 1 [.val] (spec_l01Num_good _ e53) ?_
                refine r_ops tabOk 1 0 ?_
                refine run_end ?_
                rcases of_bif h with ⟨e54, h⟩ | ⟨e54, h⟩
                · replace F := fct e54 F
                  refine k_then ?_
                  refine k_seq tabOk ?_
                  obtain rfl := Option.some.inj h
                  refine tri_ret ?_
                  refine q_ret (fun e => ?_)
                  subst e
                  exact k_retE
                · replace F := fct e54 F
                  refine k_else ?_
                  refine tri_skip ?_
                  refine thn_normal ?_
                  refine k_run1 6 ?_
                  obtain ⟨e55, h⟩ := of_chk h
                  replace F := fct (of_decide_eq_true e55) F
                  refine r_ops tabOk 3 3 ?_
                  obtain ⟨v56, e57, h⟩ := of_bind h
                  refine r_call tabOk 2 [.val] (spec_NumText_good _ e57) ?_
                  obtain ⟨e58, h⟩ := of_chk h
                  replace F := fct (of_decide_eq_true e58) F
                  refine r_ops tabOk 2 0 ?_
                  refine run_end ?_
                  refine inblk_normal ?_
                  refine thn_normal ?_
                  refine k_one tabOk ?_
                  obtain rfl := Option.some.inj h
                  exact and_rfl (i_to [(1, 0), (4, 0), (95, 0), (96, 0), (97, 0)] [(1, 0)])
              · replace F := fct e49 F
                refine k_else ?_
                refine tri_exit ?_
                refine thn_exit ?_
                obtain rfl := Option.some.inj h
                exact and_rfl (i_to [(1, 0), (4, 0)] [(1, 0)])
            · replace h := early_l h e60
              refine inblk_here ?_
              refine thn_normal ?_
              refine tri_seq ?_
              refine k_seq tabOk ?_
              rcases of_bif h with ⟨e61, h⟩ | ⟨e61, h⟩
              · replace F := fct e61 F
                refine k_then ?_
                refine k_runs 4 ?_
                refine r_ops tabOk 2 2 ?_
                obtain ⟨v62, e63, h⟩ := of_bind h
                refine r_call tabOk 1 [.val] (spec_l14Call_good _ e63) ?_
                refine r_ops tabOk 1 0 ?_
                refine run_end ?_
                refine tri_seq ?_
                refine k_seq tabOk ?_
                rcases of_bif h with ⟨e64, h⟩ | ⟨e64, h⟩
                · replace F := fct e64 F
                  refine k_then ?_
                  refine k_seq tabOk ?_
                  obtain rfl := Option.some.inj h
                  refine tri_ret ?_
                  exact k_retE
                · replace F := fct e64 F
                  refine k_else ?_
                  refine tri_skip ?_
                  refine thn_normal ?_
                  obtain ⟨e65, h⟩ := of_chk h
                  replace F := fct (of_decide_eq_true e65) F
                  obtain ⟨e66, h⟩ := of_chk h
                  replace F := fct (of_decide_eq_true e66) F
                  refine k_one tabOk ?_
                  refine thn_normal ?_
                  refine k_seq tabOk ?_
                  obtain rfl := Option.some.inj h
                  refine tri_ret ?_
                  exact k_retE
              · replace F := fct e61 F
                refine k_else ?_
                refine tri_skip ?_
                refine thn_normal ?_
                refine k_seq tabOk ?_
                obtain rfl := Option.some.inj h
                refine tri_ret ?_
                exact k_retE
        · replace F := fct e14 F
          refine k_else ?_
          refine tri_skip ?_
          refine thn_normal ?_
          refine tri_seq ?_
          refine k_seq tabOk ?_
          rcases of_bif h with ⟨e68, h⟩ | ⟨e68, h⟩
          · replace F := fct e68 F
            refine k_then ?_
            refine k_run1 7 ?_
            obtain ⟨e69, h⟩ := of_chk h
            replace F := fct (of_decide_eq_true e69) F
            refine r_ops tabOk 4 3 ?_
            obtain ⟨v70, e71, h⟩ := of_bind h
            refine r_call tabOk 2 [.val] (spec_NumText_good _ e71) ?_
            obtain ⟨e72, h⟩ := of_chk h
            replace F := fct (of_decide_eq_true e72) F
            refine r_ops tabOk 2 0 ?_
            refine run_end ?_
            refine thn_normal ?_
            refine tri_seq ?_
            refine k_seq tabOk ?_
            refine tri_block ?_
            obtain ⟨o94, e86, h⟩ := of_bind h
            refine k_loopE (fun (s73 : (List UInt8) × Int) => ⟨[((1, 0), .adr (1, 0) [0]), ((4, 0), .val false [.str s73.1]), ((95, 0), .val false [.sl false 1 (a0.f_Keep : List Int).length ((EI .i64).L false a0.f_Keep)]), ((96, 0), .val false [.int .i64 (a0.f_Keep.length : Int)]), ((97, 0), .val false [.int .i64 s73.2])], [⟨(1, 0), false, [.int .i64 a0.f_Kind, .int .i64 a0.f_A, .int .i64 a0.f_B, .sl false 1 (a0.f_Keep : List Int).length ((EI .i64).L false a0.f_Keep), .int .i64 a0.f_Call.f_Kind, .int .i64 a0.f_Call.f_Ask.f_Kind, .str a0.f_Call.f_Ask.f_Key, .str a0.f_Call.f_Ask.f_Val, .str a0.f_Call.f_Ask.f_Range.f_Lo, .str a0.f_Call.f_Ask.f_Range.f_Hi, .int .i64 a0.f_Call.f_Ask.f_Most, .bool a0.f_Call.f_Ask.f_Back]⟩], 123, []⟩) 0 (fun (v74 : (List UInt8)) => ⟨[((1, 0), .adr (1, 0) [0]), ((4, 0), .val false [.str v74])], [⟨(1, 0), false, [.int .i64 a0.f_Kind, .int .i64 a0.f_A, .int .i64 a0.f_B, .sl false 1 (a0.f_Keep : List Int).length ((EI .i64).L false a0.f_Keep), .int .i64 a0.f_Call.f_Kind, .int .i64 a0.f_Call.f_Ask.f_Kind, .str a0.f_Call.f_Ask.f_Key, .str a0.f_Call.f_Ask.f_Val, .str a0.f_Call.f_Ask.f_Range.f_Lo, .str a0.f_Call.f_Ask.f_Range.f_Hi, .int .i64 a0.f_Call.f_Ask.f_Most, .bool a0.f_Call.f_Ask.f_Back]⟩], 123, []⟩) r e86 ?_ ?_ (fun _ e87 => early_r h e87) (fun v74 e87 => ?_)
            · exact i_to [(1, 0), (4, 0), (95, 0), (96, 0), (97, 0)] [(1, 0)]
            · clear h e86
              intro s73 o75 h
              unfold spec_StepText_l3 at h
              refine k_seq tabOk ?_
              refine tri_seq ?_
              rcases of_bif h with ⟨e76, h⟩ | ⟨e76, h⟩
              · replace F := fct e76 F
                refine k_then ?_
                refine tri_skip ?_
                refine thn_normal ?_
                refine tri_seq ?_
                refine tri_block ?_
                obtain ⟨x77, e78, h⟩ := of_bind h
                replace F := fct (at_range e78) F
                replace F := fct (at_fs (EI .i64) false 1 [] 1 e78) F
                refine k_seq tabOk ?_
                refine tri_seq ?_
                refine k_runs 3 ?_
                refine r_ops tabOk 1 2 ?_
                obtain ⟨v79, e80, h⟩ := of_bind h
                refine r_call tabOk 1 [.val] (spec_l01Num_good _ e80) ?_
                refine r_ops tabOk 1 0 ?_
                refine run_end ?_
                rcases of_bif h with ⟨e81, h⟩ | ⟨e81, h⟩
                · replace F := fct e81 F
                  refine k_then ?_
                  refine k_seq tabOk ?_
                  obtain rfl := Option.some.inj h
                  refine tri_ret ?_
                  refine q_ret (fun e => ?_)
                  subst e
                  exact k_retE
                · replace F := fct e81 F
                  refine k_else ?_
                  refine tri_skip ?_
                  refine thn_normal ?_
                  refine k_run1 6 ?_
                  obtain ⟨e82, h⟩ := of_chk h
                  replace F := fct (of_decide_eq_true e82) F
                  refine r_ops tabOk 3 3 ?_
                  obtain ⟨v83, e84, h⟩ := of_bind h
                  refine r_call tabOk 2 [.val] (spec_NumText_good _ e84) ?_
                  obtain ⟨e85, h⟩ := of_chk h
                  replace F := fct (of_decide_eq_true e85) F
                  refine r_ops tabOk 2 0 ?_
                  refine run_end ?_
                  refine inblk_normal ?_
                  refine thn_normal ?_
                  refine k_one tabOk ?_
                  obtain rfl := Option.some.inj h
                  exact and_rfl (i_to [(1, 0), (4, 0), (95, 0), (96, 0), (97, 0)] [(1, 0)])
              · replace F := fct e76 F
                refine k_else ?_
                refine tri_exit ?_
                refine thn_exit ?_
                obtain rfl := Option.some.inj h
                exact and_rfl (i_to [(1, 0), (4, 0)] [(1, 0)])
            · replace h := early_l h e87
              refine inblk_here ?_
              refine thn_normal ?_
              refine tri_seq ?_
              refine k_seq tabOk ?_
              rcases of_bif h with ⟨e88, h⟩ | ⟨e88, h⟩
              · replace F := fct e88 F
                refine k_then ?_
                refine k_runs 4 ?_
                refine r_ops tabOk 2 2 ?_
                obtain ⟨v89, e90, h⟩ := of_bind h
                refine r_call tabOk 1 [.val] (spec_l14Call_good _ e90) ?_
                refine r_ops tabOk 1 0 ?_
                refine run_end ?_
                refine tri_seq ?_
                refine k_seq tabOk ?_
                rcases of_bif h with ⟨e91, h⟩ | ⟨e91, h⟩
                · replace F := fct e91 F
                  refine k_then ?_
                  refine k_seq tabOk ?_
                  obtain rfl := Option.some.inj h
                  refine tri_ret ?_
                  exact k_retE
                · replace F := fct e91 F
                  refine k_else ?_
                  refine tri_skip ?_
                  refine thn_normal ?_
                  obtain ⟨e92, h⟩ := of_chk h
                  replace F := fct (of_decide_eq_true e92) F
                  obtain ⟨e93, h⟩ := of_chk h
                  replace F := fct (of_decide_eq_true e93) F
                  refine k_one tabOk ?_
                  refine thn_normal ?_
                  refine k_seq tabOk ?_
                  obtain rfl := Option.some.inj h
                  refine tri_ret ?_
                  exact k_retE
              · replace F := fct e88 F
                refine k_else ?_
                refine tri_skip ?_
                refine thn_normal ?_
                refine k_seq tabOk ?_
                obtain rfl := Option.some.inj h
                refine tri_ret ?_
                exact k_retE
          · replace F := fct e68 F
            refine k_else ?_
            refine tri_skip ?_
            refine thn_normal ?_
            refine tri_seq ?_
            refine k_seq tabOk ?_
            refine tri_block ?_
            obtain ⟨o116, e108, h⟩ := of_bind h
            refine k_loopE (fun (s95 : (List UInt8) × Int) => ⟨[((1, 0), .adr (1, 0) [0]), ((4, 0), .val false [.str s95.1]), ((95, 0), .val false [.sl false 1 (a0.f_Keep : List Int).length ((EI .i64).L false a0.f_Keep)]), ((96, 0), .val false [.int .i64 (a0.f_Keep.length : Int)]), ((97, 0), .val false [.int .i64 s95.2])], [⟨(1, 0), false, [.int .i64 a0.f_Kind, .int .i64 a0.f_A, .int .i64 a0.f_B, .sl false 1 (a0.f_Keep : List Int).length ((EI .i64).L false a0.f_Keep), .int .i64 a0.f_Call.f_Kind, .int .i64 a0.f_Call.f_Ask.f_Kind, .str a0.f_Call.f_Ask.f_Key, .str a0.f_Call.f_Ask.f_Val, .str a0.f_Call.f_Ask.f_Range.f_Lo, .str a0.f_Call.f_Ask.f_Range.f_Hi, .int .i64 a0.f_Call.f_Ask.f_Most, .bool a0.f_Call.f_Ask.f_Back]⟩], 123, []⟩) 0 (fun (v96 : (List UInt8)) => ⟨[((1, 0), .adr (1, 0) [0]), ((4, 0), .val false [.str v96])], [⟨(1, 0), false, [.int .i64 a0.f_Kind, .int .i64 a0.f_A, .int .i64 a0.f_B, .sl false 1 (a0.f_Keep : List Int).length ((EI .i64).L false a0.f_Keep), .int .i64 a0.f_Call.f_Kind, .int .i64 a0.f_Call.f_Ask.f_Kind, .str a0.f_Call.f_Ask.f_Key, .str a0.f_Call.f_Ask.f_Val, .str a0.f_Call.f_Ask.f_Range.f_Lo, .str a0.f_Call.f_Ask.f_Range.f_Hi, .int .i64 a0.f_Call.f_Ask.f_Most, .bool a0.f_Call.f_Ask.f_Back]⟩], 123, []⟩) r e108 ?_ ?_ (fun _ e109 => early_r h e109) (fun v96 e109 => ?_)
            · exact i_to [(1, 0), (4, 0), (95, 0), (96, 0), (97, 0)] [(1, 0)]
            · clear h e108
              intro s95 o97 h
              unfold spec_StepText_l4 at h
              refine k_seq tabOk ?_
              refine tri_seq ?_
              rcases of_bif h with ⟨e98, h⟩ | ⟨e98, h⟩
              · replace F := fct e98 F
                refine k_then ?_
                refine tri_skip ?_
                refine thn_normal ?_
                refine tri_seq ?_
                refine tri_block ?_
                obtain ⟨x99, e100, h⟩ := of_bind h
                replace F := fct (at_range e100) F
                replace F := fct (at_fs (EI .i64) false 1 [] 1 e100) F
                refine k_seq tabOk ?_
                refine tri_seq ?_
                refine k_runs 3 ?_
                refine r_ops tabOk 1 2 ?_
                obtain ⟨v101, e102, h⟩ := of_bind h
                refine r_call tabOk 1 [.val] (spec_l01Num_good _ e102) ?_
                refine r_ops tabOk 1 0 ?_
                refine run_end ?_
                rcases of_bif h with ⟨e103, h⟩ | ⟨e103, h⟩
                · replace F := fct e103 F
                  refine k_then ?_
                  refine k_seq tabOk ?_
                  obtain rfl := Option.some.inj h
                  refine tri_ret ?_
                  refine q_ret (fun e => ?_)
                  subst e
                  exact k_retE
                · replace F := fct e103 F
                  refine k_else ?_
                  refine tri_skip ?_
                  refine thn_normal ?_
                  refine k_run1 6 ?_
                  obtain ⟨e104, h⟩ := of_chk h
                  replace F := fct (of_decide_eq_true e104) F
                  refine r_ops tabOk 3 3 ?_
                  obtain ⟨v105, e106, h⟩ := of_bind h
                  refine r_call tabOk 2 [.val] (spec_NumText_good _ e106) ?_
                  obtain ⟨e107, h⟩ := of_chk h
                  replace F := fct (of_decide_eq_true e107) F
                  refine r_ops tabOk 2 0 ?_
                  refine run_end ?_
                  refine inblk_normal ?_
                  refine thn_normal ?_
                  refine k_one tabOk ?_
                  obtain rfl := Option.some.inj h
                  exact and_rfl (i_to [(1, 0), (4, 0), (95, 0), (96, 0), (97, 0)] [(1, 0)])
              · replace F := fct e98 F
                refine k_else ?_
                refine tri_exit ?_
                refine thn_exit ?_
                obtain rfl := Option.some.inj h
                exact and_rfl (i_to [(1, 0), (4, 0)] [(1, 0)])
            · replace h := early_l h e109
              refine inblk_here ?_
              refine thn_normal ?_
              refine tri_seq ?_
              refine k_seq tabOk ?_
              rcases of_bif h with ⟨e110, h⟩ | ⟨e110, h⟩
              · replace F := fct e110 F
                refine k_then ?_
                refine k_runs 4 ?_
                refine r_ops tabOk 2 2 ?_
                obtain ⟨v111, e112, h⟩ := of_bind h
                refine r_call tabOk 1 [.val] (spec_l14Call_good _ e112) ?_
                refine r_ops tabOk 1 0 ?_
                refine run_end ?_
                refine tri_seq ?_
                refine k_seq tabOk ?_
                rcases of_bif h with ⟨e113, h⟩ | ⟨e113, h⟩
                · replace F := fct e113 F
                  refine k_then ?_
                  refine k_seq tabOk ?_
                  obtain rfl := Option.some.inj h
                  refine tri_ret ?_
                  exact k_retE
                · replace F := fct e113 F
                  refine k_else ?_
                  refine tri_skip ?_
                  refine thn_normal ?_
                  obtain ⟨e114, h⟩ := of_chk h
                  replace F := fct (of_decide_eq_true e114) F
                  obtain ⟨e115, h⟩ := of_chk h
                  replace F := fct (of_decide_eq_true e115) F
                  refine k_one tabOk ?_
                  refine thn_normal ?_
                  refine k_seq tabOk ?_
                  obtain rfl := Option.some.inj h
                  refine tri_ret ?_
                  exact k_retE
              · replace F := fct e110 F
                refine k_else ?_
                refine tri_skip ?_
                refine thn_normal ?_
                refine k_seq tabOk ?_
                obtain rfl := Option.some.inj h
                refine tri_ret ?_
                exact k_retE

noncomputable def spec_TextStep_l1 (v3 : (List (List UInt8))) (v1 : (List (List UInt8))) (s5 : Int × Int) : Option ((Int × Int) ⊕ (Int)) :=
  (bif (decide (s5.1 < (v3.length : Int))) then (Option.bind ((at? v3 s5.1).bind fun x10 => (Option.bind (bif (decide ((0 : Int) < s5.1)) then ((at? v1 (0 : Int)).bind fun x14 => (some (x10 == x14))) else (some false)) fun (v12 : Bool) => (bif v12 then (some s5.1) else (some s5.2)))) fun (v9 : Int) => (some (Sum.inl ((IntKind.i64.wrap (s5.1 + (1 : Int))), v9)))) else (some (Sum.inr s5.2)))
noncomputable def spec_TextStep_l2 (v1 : (List (List UInt8))) (s30 : Int × (List Int)) : Option ((Int × (List Int)) ⊕ ((List Int))) :=
  (bif (decide (s30.1 < (v1.length : Int))) then ((spec_l14Num v1 s30.1).bind fun v34 => (bif room 8 s30.2.length (([v34] : List Int).length) then (some (Sum.inl ((IntKind.i64.wrap (s30.1 + (1 : Int))), (s30.2 ++ [v34])))) else none)) else (some (Sum.inr s30.2)))
noncomputable def spec_TextStep_l3 (v1 : (List (List UInt8))) (s54 : Int × (List Int)) : Option ((Int × (List Int)) ⊕ ((List Int))) :=
  (bif (decide (s54.1 < (v1.length : Int))) then ((spec_l14Num v1 s54.1).bind fun v58 => (bif room 8 s54.2.length (([v58] : List Int).length) then (some (Sum.inl ((IntKind.i64.wrap (s54.1 + (1 : Int))), (s54.2 ++ [v58])))) else none)) else (some (Sum.inr s54.2)))
noncomputable def spec_TextStep (a0 : List UInt8) : Option (S_impl_Step × Bool) :=
  ((spec_l07Parts a0 (32 : UInt8)).bind fun v1 => ((spec_l14Words).bind fun v3 => (Option.bind (loopC (spec_TextStep_l1 v3 v1) ((0 : Int), (0 : Int))) fun v6 => ((spec_l14Num v1 (1 : Int)).bind fun v21 => (bif ((v6 == (1 : Int)) && (decide ((2 : Int) < (v1.length : Int)))) then (bif (decide ((0 : Int) ≤ (2 : Int)) && decide ((2 : Int) ≤ (v1.length : Int)) && decide ((v1.length : Int) ≤ (v1.length : Int))) then ((spec_l14ReadCall (List.take ((v1.length : Int).toNat - (2 : Int).toNat) (List.drop ((2 : Int).toNat) v1))).bind fun v25 => (bif (v6 == (7 : Int)) then ((spec_l14Num v1 (2 : Int)).bind fun v28 => (Option.bind (loopC (spec_TextStep_l2 v1) ((3 : Int), [])) fun v31 => (Option.bind (bif (a0 == ([] : List UInt8)) then (some true) else ((spec_StepText (S_impl_Step.mk v6 v21 v28 v31 v25)).bind fun v41 => (some (!(v41 == a0))))) fun (v39 : Bool) => (bif v39 then (some ((S_impl_Step.mk (0 : Int) (0 : Int) (0 : Int) [] (S_impl_Call.mk (0 : Int) (S_impl_Ask.mk (0 : Int) [] [] (S_impl_Range.mk [] []) (0 : Int) false))), false)) else (some ((S_impl_Step.mk v6 v21 v28 v31 v25), true)))))) else (Option.bind (bif (a0 == ([] : List UInt8)) then (some true) else ((spec_StepText (S_impl_Step.mk v6 v21 (0 : Int) [] v25)).bind fun v47 => (some (!(v47 == a0))))) fun (v45 : Bool) => (bif v45 then (some ((S_impl_Step.mk (0 : Int) (0 : Int) (0 : Int) [] (S_impl_Call.mk (0 : Int) (S_impl_Ask.mk (0 : Int) [] [] (S_impl_Range.mk [] []) (0 : Int) false))), false)) else (some ((S_impl_Step.mk v6 v21 (0 : Int) [] v25), true)))))) else none) else (bif (v6 == (7 : Int)) then ((spec_l14Num v1 (2 : Int)).bind fun v52 => (Option.bind (loopC (spec_TextStep_l3 v1) ((3 : Int), [])) fun v55 => (Option.bind (bif (a0 == ([] : List UInt8)) then (some true) else ((spec_StepText (S_impl_Step.mk v6 v21 v52 v55 (S_impl_Call.mk (0 : Int) (S_impl_Ask.mk (0 : Int) [] [] (S_impl_Range.mk [] []) (0 : Int) false)))).bind fun v65 => (some (!(v65 == a0))))) fun (v63 : Bool) => (bif v63 then (some ((S_impl_Step.mk (0 : Int) (0 : Int) (0 : Int) [] (S_impl_Call.mk (0 : Int) (S_impl_Ask.mk (0 : Int) [] [] (S_impl_Range.mk [] []) (0 : Int) false))), false)) else (some ((S_impl_Step.mk v6 v21 v52 v55 (S_impl_Call.mk (0 : Int) (S_impl_Ask.mk (0 : Int) [] [] (S_impl_Range.mk [] []) (0 : Int) false))), true)))))) else (Option.bind (bif (a0 == ([] : List UInt8)) then (some true) else ((spec_StepText (S_impl_Step.mk v6 v21 (0 : Int) [] (S_impl_Call.mk (0 : Int) (S_impl_Ask.mk (0 : Int) [] [] (S_impl_Range.mk [] []) (0 : Int) false)))).bind fun v71 => (some (!(v71 == a0))))) fun (v69 : Bool) => (bif v69 then (some ((S_impl_Step.mk (0 : Int) (0 : Int) (0 : Int) [] (S_impl_Call.mk (0 : Int) (S_impl_Ask.mk (0 : Int) [] [] (S_impl_Range.mk [] []) (0 : Int) false))), false)) else (some ((S_impl_Step.mk v6 v21 (0 : Int) [] (S_impl_Call.mk (0 : Int) (S_impl_Ask.mk (0 : Int) [] [] (S_impl_Range.mk [] []) (0 : Int) false))), true))))))))))
theorem spec_TextStep_good (a0 : List UInt8) {r : S_impl_Step × Bool} (h : spec_TextStep a0 = some r) : GoodD Tryd.prog 5 [.val false (ES.row false a0)] [(true, E_impl_Step.row true r.1), (false, EB.row false r.2)] [[]] := by
  have F : True := trivial
  unfold spec_TextStep at h
  refine good_body tabOk 76 [.cell 2 30, .tmp 3] Tryd.func5 rfl rfl rfl rfl ?_
  refine k_seq tabOk ?_
  refine k_seq tabOk ?_
  refine k_runs 3 ?_
  refine r_ops tabOk 1 2 ?_
  obtain ⟨v1, e2, h⟩ := of_bind h
  refine r_call tabOk 1 [.val, .val] (spec_l07Parts_good _ _ e2) ?_
  refine r_ops tabOk 1 0 ?_
  refine run_end ?_
  refine tri_seq ?_
  refine k_runs 3 ?_
  obtain ⟨v3, e4, h⟩ := of_bind h
  refine r_call tabOk 2 [] (spec_l14Words_good e4) ?_
  refine r_ops tabOk 2 0 ?_
  refine run_end ?_
  refine tri_block ?_
  obtain ⟨v6, e19, h⟩ := of_bind h
  refine k_loopX (fun (s5 : Int × Int) => ⟨[((0, 0), .val false [.str a0]), ((2, 0), .adr (2, 0) [0]), ((4, 0), .adr (4, 0) [0]), ((5, 0), .view false (5, 0) [0] 1), ((12, 0), .view false (12, 0) [0] 1), ((13, 0), .val false [.int .i64 (v3.length : Int)]), ((14, 0), .val false [.int .i64 s5.1])], [⟨(2, 0), false, [.int .i64 (0 : Int), .int .i64 (0 : Int), .int .i64 (0 : Int), .sl true 1 ([] : List Int).length ((EI .i64).L true []), .int .i64 (0 : Int), .int .i64 (0 : Int), .str [], .str [], .str [], .str [], .int .i64 (0 : Int), .bool false]⟩, ⟨(4, 0), false, [.int .i64 s5.2, .int .i64 (0 : Int), .int .i64 (0 : Int), .sl true 1 ([] : List Int).length ((EI .i64).L true []), .int .i64 (0 : Int), .int .i64 (0 : Int), .str [], .str [], .str [], .str [], .int .i64 (0 : Int), .bool false]⟩, ⟨(5, 0), true, [.sl true 1 (v1 : List (List UInt8)).length (ES.L true v1)]⟩, ⟨(12, 0), true, [.sl true 1 (v3 : List (List UInt8)).length (ES.L true v3)]⟩], 76, []⟩) 0 (fun (v6 : Int) => ⟨[((0, 0), .val false [.str a0]), ((2, 0), .adr (2, 0) [0]), ((4, 0), .adr (4, 0) [0]), ((5, 0), .view false (5, 0) [0] 1)], [⟨(2, 0), false, [.int .i64 (0 : Int), .int .i64 (0 : Int), .int .i64 (0 : Int), .sl true 1 ([] : List Int).length ((EI .i64).L true []), .int .i64 (0 : Int), .int .i64 (0 : Int), .str [], .str [], .str [], .str [], .int .i64 (0 : Int), .bool false]⟩, ⟨(4, 0), false, [.int .i64 v6, .int .i64 (0 : Int), .int .i64 (0 : Int), .sl true 1 ([] : List Int).length ((EI .i64).L true []), .int .i64 (0 : Int), .int .i64 (0 : Int), .str [], .str [], .str [], .str [], .int .i64 (0 : Int), .bool false]⟩, ⟨(5, 0), true, [.sl true 1 (v1 : List (List UInt8)).length (ES.L true v1)]⟩], 76, []⟩) e19 ?_ ?_ ?_
  · exact i_to [(0, 0), (2, 0), (4, 0), (5, 0), (12, 0), (13, 0), (14, 0)] [(2, 0), (4, 0), (5, 0), (12, 0)]
  · clear h e19
    intro s5 o7 h
    unfold spec_TextStep_l1 at h
    refine k_seq tabOk ?_
    refine tri_seq ?_
    rcases of_bif h with ⟨e8, h⟩ | ⟨e8, h⟩
    · replace F := fct e8 F
      refine k_then ?_
      refine tri_skip ?_
      refine thn_normal ?_
      obtain ⟨v9, e18, h⟩ := of_bind h
      refine k_jn (fun (v9 : Int) => ⟨[((0, 0), .val false [.str a0]), ((2, 0), .adr (2, 0) [0]), ((4, 0), .adr (4, 0) [0]), ((5, 0), .view false (5, 0) [0] 1), ((12, 0), .view false (12, 0) [0] 1), ((13, 0), .val false [.int .i64 (v3.length : Int)]), ((14, 0), .val false [.int .i64 s5.1])], [⟨(2, 0), false, [.int .i64 (0 : Int), .int .i64 (0 : Int), .int .i64 (0 : Int), .sl true 1 ([] : List Int).length ((EI .i64).L true []), .int .i64 (0 : Int), .int .i64 (0 : Int), .str [], .str [], .str [], .str [], .int .i64 (0 : Int), .bool false]⟩, ⟨(4, 0), false, [.int .i64 v9, .int .i64 (0 : Int), .int .i64 (0 : Int), .sl true 1 ([] : List Int).length ((EI .i64).L true []), .int .i64 (0 : Int), .int .i64 (0 : Int), .str [], .str [], .str [], .str [], .int .i64 (0 : Int), .bool false]⟩, ⟨(5, 0), true, [.sl true 1 (v1 : List (List UInt8)).length (ES.L true v1)]⟩, ⟨(12, 0), true, [.sl true 1 (v3 : List (List UInt8)).length (ES.L true v3)]⟩], 76, []⟩) v9 ?_ ?_
      · clear h
        have h := e18
        refine tri_block ?_
        obtain ⟨x10, e11, h⟩ := of_bind h
        replace F := fct (at_range e11) F
        replace F := fct (at_ow ES true 1 1 e11) F
        refine k_seq tabOk ?_
        obtain ⟨v12, e17, h⟩ := of_bind h
        refine r_join (n := 9) (fun (v12 : Bool) => ⟨[((0, 0), .val false [.str a0]), ((2, 0), .adr (2, 0) [0]), ((4, 0), .adr (4, 0) [0]), ((5, 0), .view false (5, 0) [0] 1), ((6, 0), .val false [.int .i64 s5.1]), ((12, 0), .view false (12, 0) [0] 1), ((13, 0), .val false [.int .i64 (v3.length : Int)]), ((14, 0), .val false [.int .i64 s5.1]), ((27, 0), .val false [.bool v12])], [⟨(2, 0), false, [.int .i64 (0 : Int), .int .i64 (0 : Int), .int .i64 (0 : Int), .sl true 1 ([] : List Int).length ((EI .i64).L true []), .int .i64 (0 : Int), .int .i64 (0 : Int), .str [], .str [], .str [], .str [], .int .i64 (0 : Int), .bool false]⟩, ⟨(4, 0), false, [.int .i64 s5.2, .int .i64 (0 : Int), .int .i64 (0 : Int), .sl true 1 ([] : List Int).length ((EI .i64).L true []), .int .i64 (0 : Int), .int .i64 (0 : Int), .str [], .str [], .str [], .str [], .int .i64 (0 : Int), .bool false]⟩, ⟨(5, 0), true, [.sl true 1 (v1 : List (List UInt8)).length (ES.L true v1)]⟩, ⟨(12, 0), true, [.sl true 1 (v3 : List (List UInt8)).length (ES.L true v3)]⟩], 76, []⟩) v12 ?_ ?_
        · clear h
          have h := e17
          refine r_ops tabOk 5 4 ?_
          rcases of_bif h with ⟨e13, h⟩ | ⟨e13, h⟩
          · replace F := fct e13 F
            obtain ⟨x14, e15, h⟩ := of_bind h
            replace F := fct (at_range e15) F
            replace F := fct (at_ow ES true 1 1 e15) F
            refine r_ops tabOk 4 0 ?_
            refine run_end ?_
            obtain rfl := Option.some.inj h
            exact i_to [(0, 0), (2, 0), (4, 0), (5, 0), (6, 0), (12, 0), (13, 0), (14, 0), (27, 0)] [(2, 0), (4, 0), (5, 0), (12, 0)]
          · replace F := fct e13 F
            refine r_skip 3 1 ?_
            refine r_ops tabOk 1 0 ?_
            refine run_end ?_
            obtain rfl := Option.some.inj h
            exact i_to [(0, 0), (2, 0), (4, 0), (5, 0), (6, 0), (12, 0), (13, 0), (14, 0), (27, 0)] [(2, 0), (4, 0), (5, 0), (12, 0)]
        · rcases of_bif h with ⟨e16, h⟩ | ⟨e16, h⟩
          · replace F := fct e16 F
            refine k_then ?_
            refine k_one tabOk ?_
            refine inblk_normal ?_
            obtain rfl := Option.some.inj h
            exact and_rfl (i_to [(0, 0), (2, 0), (4, 0), (5, 0), (12, 0), (13, 0), (14, 0)] [(2, 0), (4, 0), (5, 0), (12, 0)])
          · replace F := fct e16 F
            refine k_else ?_
            refine tri_skip ?_
            refine inblk_normal ?_
            obtain rfl := Option.some.inj h
            exact and_rfl (i_to [(0, 0), (2, 0), (4, 0), (5, 0), (12, 0), (13, 0), (14, 0)] [(2, 0), (4, 0), (5, 0), (12, 0)])
      · refine k_one tabOk ?_
        obtain rfl := Option.some.inj h
        exact and_rfl (i_to [(0, 0), (2, 0), (4, 0), (5, 0), (12, 0), (13, 0), (14, 0)] [(2, 0), (4, 0), (5, 0), (12, 0)])
    · replace F := fct e8 F
      refine k_else ?_
      refine tri_exit ?_
      refine thn_exit ?_
      obtain rfl := Option.some.inj h
      exact and_rfl (i_to [(0, 0), (2, 0), (4, 0), (5, 0)] [(2, 0), (4, 0), (5, 0)])
  · refine inblk_here ?_
    refine thn_normal ?_
    refine k_runs 4 ?_
    refine r_ops tabOk 1 3 ?_
    obtain ⟨v21, e22, h⟩ := of_bind h
    refine r_call tabOk 2 [.val, .val] (spec_l14Num_good _ _ e22) ?_
    refine r_ops tabOk 2 0 ?_
    refine run_end ?_
    refine tri_seq ?_
    refine k_seq tabOk ?_
    rcases of_bif h with ⟨e23, h⟩ | ⟨e23, h⟩
    · replace F := fct e23 F
      refine k_then ?_
      refine k_run1 5 ?_
      obtain ⟨e24, h⟩ := of_chk h
      replace F := fct (e24) F
      replace F := fct (sub_b ES true 1 v1 e24) F
      refine r_ops tabOk 2 3 ?_
      obtain ⟨v25, e26, h⟩ := of_bind h
      refine r_call tabOk 2 [.val] (spec_l14ReadCall_good _ e26) ?_
      refine r_ops tabOk 2 0 ?_
      refine run_end ?_
      refine thn_normal ?_
      refine tri_seq ?_
      refine k_seq tabOk ?_
      rcases of_bif h with ⟨e27, h⟩ | ⟨e27, h⟩
      · replace F := fct e27 F
        refine k_then ?_
        refine k_runs 4 ?_
        refine r_ops tabOk 1 3 ?_
        obtain ⟨v28, e29, h⟩ := of_bind h
        refine r_call tabOk 2 [.val, .val] (spec_l14Num_good _ _ e29) ?_
        refine r_ops tabOk 2 0 ?_
        refine run_end ?_
        refine k_keep [(0, 0), (2, 0), (4, 0), (5, 0)] [(2, 0), (4, 0), (5, 0)] ?_
        refine k_seq tabOk ?_
        refine tri_block ?_
        obtain ⟨v31, e37, h⟩ := of_bind h
        refine k_loopX (fun (s30 : Int × (List Int)) => ⟨[((0, 0), .val false [.str a0]), ((2, 0), .adr (2, 0) [0]), ((4, 0), .adr (4, 0) [0]), ((5, 0), .view false (5, 0) [0] 1), ((8, 0), .val false [.int .i64 s30.1])], [⟨(2, 0), false, [.int .i64 (0 : Int), .int .i64 (0 : Int), .int .i64 (0 : Int), .sl true 1 ([] : List Int).length ((EI .i64).L true []), .int .i64 (0 : Int), .int .i64 (0 : Int), .str [], .str [], .str [], .str [], .int .i64 (0 : Int), .bool false]⟩, ⟨(4, 0), false, [.int .i64 v6, .int .i64 v21, .int .i64 v28, .sl true 1 (s30.2 : List Int).length ((EI .i64).L true s30.2), .int .i64 v25.f_Kind, .int .i64 v25.f_Ask.f_Kind, .str v25.f_Ask.f_Key, .str v25.f_Ask.f_Val, .str v25.f_Ask.f_Range.f_Lo, .str v25.f_Ask.f_Range.f_Hi, .int .i64 v25.f_Ask.f_Most, .bool v25.f_Ask.f_Back]⟩, ⟨(5, 0), true, [.sl true 1 (v1 : List (List UInt8)).length (ES.L true v1)]⟩], 76, []⟩) 2 (fun (v31 : (List Int)) => ⟨[((0, 0), .val false [.str a0]), ((2, 0), .adr (2, 0) [0]), ((4, 0), .adr (4, 0) [0])], [⟨(2, 0), false, [.int .i64 (0 : Int), .int .i64 (0 : Int), .int .i64 (0 : Int), .sl true 1 ([] : List Int).length ((EI .i64).L true []), .int .i64 (0 : Int), .int .i64 (0 : Int), .str [], .str [], .str [], .str [], .int .i64 (0 : Int), .bool false]⟩, ⟨(4, 0), false, [.int .i64 v6, .int .i64 v21, .int .i64 v28, .sl true 1 (v31 : List Int).length ((EI .i64).L true v31), .int .i64 v25.f_Kind, .int .i64 v25.f_Ask.f_Kind, .str v25.f_Ask.f_Key, .str v25.f_Ask.f_Val, .str v25.f_Ask.f_Range.f_Lo, .str v25.f_Ask.f_Range.f_Hi, .int .i64 v25.f_Ask.f_Most, .bool v25.f_Ask.f_Back]⟩], 76, []⟩) e37 ?_ ?_ ?_
        · exact i_to [(0, 0), (2, 0), (4, 0), (5, 0), (8, 0)] [(2, 0), (4, 0), (5, 0)]
        · clear h e37
          intro s30 o32 h
          unfold spec_TextStep_l2 at h
          refine tri_seq ?_
          refine k_seq tabOk ?_
          rcases of_bif h with ⟨e33, h⟩ | ⟨e33, h⟩
          · replace F := fct e33 F
            refine k_then ?_
            refine tri_skip ?_
            refine thn_normal ?_
            refine tri_seq ?_
            refine tri_block ?_
            refine k_draw1 mixed 9 ?_
            refine d_begin [[], [0], [], [], [3, 2], [2, 3, 4], [4, 3, 2, 5, 0, 1], [6, 5, 4, 3, 2, 1, 0], [0, 1, 2, 3, 4, 5, 6, 7]] ?_
            intro acc
            replace acc := a_q tabOk 0 [] acc
            replace acc := a_q tabOk 1 [0] acc
            replace acc := a_q tabOk 2 [] acc
            replace acc := a_q tabOk 3 [] acc
            obtain ⟨v34, e35, h⟩ := of_bind h
            replace acc := a_call tabOk 4 [2, 3] [.val, .val] acc (spec_l14Num_good _ _ e35)
            replace acc := a_bslice tabOk 5 [2, 3, 4] acc
            refine d_tail [] acc ?_
            clear acc
            obtain ⟨e36, h⟩ := of_chk h
            replace F := fct (room_iff e36) F
            refine d_one tabOk 6 ?_
            refine d_one tabOk 7 ?_
            refine d_one tabOk 8 ?_
            refine d_done ?_
            refine inblk_normal ?_
            refine thn_normal ?_
            refine k_one tabOk ?_
            obtain rfl := Option.some.inj h
            exact and_rfl (i_to [(0, 0), (2, 0), (4, 0), (5, 0), (8, 0)] [(2, 0), (4, 0), (5, 0)])
          · replace F := fct e33 F
            refine k_else ?_
            refine tri_exit ?_
            refine thn_exit ?_
            obtain rfl := Option.some.inj h
            exact and_rfl (i_to [(0, 0), (2, 0), (4, 0)] [(2, 0), (4, 0)])
        · refine inblk_here ?_
          refine thn_normal ?_
          refine tri_seq ?_
          obtain ⟨v39, e44, h⟩ := of_bind h
          refine r_join (n := 8) (fun (v39 : Bool) => ⟨[((2, 0), .adr (2, 0) [0]), ((4, 0), .adr (4, 0) [0]), ((73, 0), .val false [.bool v39])], [⟨(2, 0), false, [.int .i64 (0 : Int), .int .i64 (0 : Int), .int .i64 (0 : Int), .sl true 1 ([] : List Int).length ((EI .i64).L true []), .int .i64 (0 : Int), .int .i64 (0 : Int), .str [], .str [], .str [], .str [], .int .i64 (0 : Int), .bool false]⟩, ⟨(4, 0), false, [.int .i64 v6, .int .i64 v21, .int .i64 v28, .sl true 1 (v31 : List Int).length ((EI .i64).L true v31), .int .i64 v25.f_Kind, .int .i64 v25.f_Ask.f_Kind, .str v25.f_Ask.f_Key, .str v25.f_Ask.f_Val, .str v25.f_Ask.f_Range.f_Lo, .str v25.f_Ask.f_Range.f_Hi, .int .i64 v25.f_Ask.f_Most, .bool v25.f_Ask.f_Back]⟩], 76, []⟩) v39 ?_ ?_
          · clear h
            have h := e44
            refine r_ops tabOk 4 4 ?_
            rcases of_bif h with ⟨e40, h⟩ | ⟨e40, h⟩
            · replace F := fct e40 F
              refine r_skip 3 1 ?_
              refine r_ops tabOk 1 0 ?_
              refine run_end ?_
              obtain rfl := Option.some.inj h
              exact i_to [(2, 0), (4, 0), (73, 0)] [(2, 0), (4, 0)]
            · replace F := fct e40 F
              obtain ⟨v41, e42, h⟩ := of_bind h
              refine r_call tabOk 3 [.val] (spec_StepText_good _ e42) ?_
              refine r_ops tabOk 3 0 ?_
              refine run_end ?_
              obtain rfl := Option.some.inj h
              exact i_to [(2, 0), (4, 0), (73, 0)] [(2, 0), (4, 0)]
          · rcases of_bif h with ⟨e43, h⟩ | ⟨e43, h⟩
            · replace F := fct e43 F
              refine k_then ?_
              refine k_seq tabOk ?_
              obtain rfl := Option.some.inj h
              refine tri_ret ?_
              exact k_retE
            · replace F := fct e43 F
              refine k_else ?_
              refine tri_skip ?_
              refine thn_normal ?_
              refine k_seq tabOk ?_
              obtain rfl := Option.some.inj h
              refine tri_ret ?_
              exact k_retE
      · replace F := fct e27 F
        refine k_else ?_
        refine tri_skip ?_
        refine thn_normal ?_
        refine tri_seq ?_
        obtain ⟨v45, e50, h⟩ := of_bind h
        refine r_join (n := 8) (fun (v45 : Bool) => ⟨[((2, 0), .adr (2, 0) [0]), ((4, 0), .adr (4, 0) [0]), ((73, 0), .val false [.bool v45])], [⟨(2, 0), false, [.int .i64 (0 : Int), .int .i64 (0 : Int), .int .i64 (0 : Int), .sl true 1 ([] : List Int).length ((EI .i64).L true []), .int .i64 (0 : Int), .int .i64 (0 : Int), .str [], .str [], .str [], .str [], .int .i64 (0 : Int), .bool false]⟩, ⟨(4, 0), false, [.int .i64 v6, .int .i64 v21, .int .i64 (0 : Int), .sl true 1 ([] : List Int).length ((EI .i64).L true []), .int .i64 v25.f_Kind, .int .i64 v25.f_Ask.f_Kind, .str v25.f_Ask.f_Key, .str v25.f_Ask.f_Val, .str v25.f_Ask.f_Range.f_Lo, .str v25.f_Ask.f_Range.f_Hi, .int .i64 v25.f_Ask.f_Most, .bool v25.f_Ask.f_Back]⟩], 76, []⟩) v45 ?_ ?_
        · clear h
          have h := e50
          refine r_ops tabOk 4 4 ?_
          rcases of_bif h with ⟨e46, h⟩ | ⟨e46, h⟩
          · replace F := fct e46 F
            refine r_skip 3 1 ?_
            refine r_ops tabOk 1 0 ?_
            refine run_end ?_
            obtain rfl := Option.some.inj h
            exact i_to [(2, 0), (4, 0), (73, 0)] [(2, 0), (4, 0)]
          · replace F := fct e46 F
            obtain ⟨v47, e48, h⟩ := of_bind h
            refine r_call tabOk 3 [.val] (spec_StepText_good _ e48) ?_
            refine r_ops tabOk 3 0 ?_
            refine run_end ?_
            obtain rfl := Option.some.inj h
            exact i_to [(2, 0), (4, 0), (73, 0)] [(2, 0), (4, 0)]
        · rcases of_bif h with ⟨e49, h⟩ | ⟨e49, h⟩
          · replace F := fct e49 F
            refine k_then ?_
            refine k_seq tabOk ?_
            obtain rfl := Option.some.inj h
            refine tri_ret ?_
            exact k_retE
          · replace F := fct e49 F
            refine k_else ?_
            refine tri_skip ?_
            refine thn_normal ?_
            refine k_seq tabOk ?_
            obtain rfl := Option.some.inj h
            refine tri_ret ?_
            exact k_retE
    · replace F := fct e23 F
      refine k_else ?_
      refine tri_skip ?_
      refine thn_normal ?_
      refine tri_seq ?_
      refine k_seq tabOk ?_
      rcases of_bif h with ⟨e51, h⟩ | ⟨e51, h⟩
      · replace F := fct e51 F
        refine k_then ?_
        refine k_runs 4 ?_
        refine r_ops tabOk 1 3 ?_
        obtain ⟨v52, e53, h⟩ := of_bind h
        refine r_call tabOk 2 [.val, .val] (spec_l14Num_good _ _ e53) ?_
        refine r_ops tabOk 2 0 ?_
        refine run_end ?_
        refine k_seq tabOk ?_
        refine tri_block ?_
        obtain ⟨v55, e61, h⟩ := of_bind h
        refine k_loopX (fun (s54 : Int × (List Int)) => ⟨[((0, 0), .val false [.str a0]), ((2, 0), .adr (2, 0) [0]), ((4, 0), .adr (4, 0) [0]), ((5, 0), .view false (5, 0) [0] 1), ((8, 0), .val false [.int .i64 s54.1])], [⟨(2, 0), false, [.int .i64 (0 : Int), .int .i64 (0 : Int), .int .i64 (0 : Int), .sl true 1 ([] : List Int).length ((EI .i64).L true []), .int .i64 (0 : Int), .int .i64 (0 : Int), .str [], .str [], .str [], .str [], .int .i64 (0 : Int), .bool false]⟩, ⟨(4, 0), false, [.int .i64 v6, .int .i64 v21, .int .i64 v52, .sl true 1 (s54.2 : List Int).length ((EI .i64).L true s54.2), .int .i64 (0 : Int), .int .i64 (0 : Int), .str [], .str [], .str [], .str [], .int .i64 (0 : Int), .bool false]⟩, ⟨(5, 0), true, [.sl true 1 (v1 : List (List UInt8)).length (ES.L true v1)]⟩], 76, []⟩) 2 (fun (v55 : (List Int)) => ⟨[((0, 0), .val false [.str a0]), ((2, 0), .adr (2, 0) [0]), ((4, 0), .adr (4, 0) [0])], [⟨(2, 0), false, [.int .i64 (0 : Int), .int .i64 (0 : Int), .int .i64 (0 : Int), .sl true 1 ([] : List Int).length ((EI .i64).L true []), .int .i64 (0 : Int), .int .i64 (0 : Int), .str [], .str [], .str [], .str [], .int .i64 (0 : Int), .bool false]⟩, ⟨(4, 0), false, [.int .i64 v6, .int .i64 v21, .int .i64 v52, .sl true 1 (v55 : List Int).length ((EI .i64).L true v55), .int .i64 (0 : Int), .int .i64 (0 : Int), .str [], .str [], .str [], .str [], .int .i64 (0 : Int), .bool false]⟩], 76, []⟩) e61 ?_ ?_ ?_
        · exact i_to [(0, 0), (2, 0), (4, 0), (5, 0), (8, 0)] [(2, 0), (4, 0), (5, 0)]
        · clear h e61
          intro s54 o56 h
          unfold spec_TextStep_l3 at h
          refine tri_seq ?_
          refine k_seq tabOk ?_
          rcases of_bif h with ⟨e57, h⟩ | ⟨e57, h⟩
          · replace F := fct e57 F
            refine k_then ?_
            refine tri_skip ?_
            refine thn_normal ?_
            refine tri_seq ?_
            refine tri_block ?_
            refine k_draw1 mixed 9 ?_
            refine d_begin [[], [0], [], [], [3, 2], [2, 3, 4], [4, 3, 2, 5, 0, 1], [6, 5, 4, 3, 2, 1, 0], [0, 1, 2, 3, 4, 5, 6, 7]] ?_
            intro acc
            replace acc := a_q tabOk 0 [] acc
            replace acc := a_q tabOk 1 [0] acc
            replace acc := a_q tabOk 2 [] acc
            replace acc := a_q tabOk 3 [] acc
            obtain ⟨v58, e59, h⟩ := of_bind h
            replace acc := a_call tabOk 4 [2, 3] [.val, .val] acc (spec_l14Num_good _ _ e59)
            replace acc := a_bslice tabOk 5 [2, 3, 4] acc
            refine d_tail [] acc ?_
            clear acc
            obtain ⟨e60, h⟩ := of_chk h
            replace F := fct (room_iff e60) F
            refine d_one tabOk 6 ?_
            refine d_one tabOk 7 ?_
            refine d_one tabOk 8 ?_
            refine d_done ?_
            refine inblk_normal ?_
            refine thn_normal ?_
            refine k_one tabOk ?_
            obtain rfl := Option.some.inj h
            exact and_rfl (i_to [(0, 0), (2, 0), (4, 0), (5, 0), (8, 0)] [(2, 0), (4, 0), (5, 0)])
          · replace F := fct e57 F
            refine k_else ?_
            refine tri_exit ?_
            refine thn_exit ?_
            obtain rfl := Option.some.inj h
            exact and_rfl (i_to [(0, 0), (2, 0), (4, 0)] [(2, 0), (4, 0)])
        · refine inblk_here ?_
          refine thn_normal ?_
          refine tri_seq ?_
          obtain ⟨v63, e68, h⟩ := of_bind h
          refine r_join (n := 8) (fun (v63 : Bool) => ⟨[((2, 0), .adr (2, 0) [0]), ((4, 0), .adr (4, 0) [0]), ((73, 0), .val false [.bool v63])], [⟨(2, 0), false, [.int .i64 (0 : Int), .int .i64 (0 : Int), .int .i64 (0 : Int), .sl true 1 ([] : List Int).length ((EI .i64).L true []), .int .i64 (0 : Int), .int .i64 (0 : Int), .str [], .str [], .str [], .str [], .int .i64 (0 : Int), .bool false]⟩, ⟨(4, 0), false, [.int .i64 v6, .int .i64 v21, .int .i64 v52, .sl true 1 (v55 : List Int).length ((EI .i64).L true v55), .int .i64 (0 : Int), .int .i64 (0 : Int), .str [], .str [], .str [], .str [], .int .i64 (0 : Int), .bool false]⟩], 76, []⟩) v63 ?_ ?_
          · clear h
            have h := e68
            refine r_ops tabOk 4 4 ?_
            rcases of_bif h with ⟨e64, h⟩ | ⟨e64, h⟩
            · replace F := fct e64 F
              refine r_skip 3 1 ?_
              refine r_ops tabOk 1 0 ?_
              refine run_end ?_
              obtain rfl := Option.some.inj h
              exact i_to [(2, 0), (4, 0), (73, 0)] [(2, 0), (4, 0)]
            · replace F := fct e64 F
              obtain ⟨v65, e66, h⟩ := of_bind h
              refine r_call tabOk 3 [.val] (spec_StepText_good _ e66) ?_
              refine r_ops tabOk 3 0 ?_
              refine run_end ?_
              obtain rfl := Option.some.inj h
              exact i_to [(2, 0), (4, 0), (73, 0)] [(2, 0), (4, 0)]
          · rcases of_bif h with ⟨e67, h⟩ | ⟨e67, h⟩
            · replace F := fct e67 F
              refine k_then ?_
              refine k_seq tabOk ?_
              obtain rfl := Option.some.inj h
              refine tri_ret ?_
              exact k_retE
            · replace F := fct e67 F
              refine k_else ?_
              refine tri_skip ?_
              refine thn_normal ?_
              refine k_seq tabOk ?_
              obtain rfl := Option.some.inj h
              refine tri_ret ?_
              exact k_retE
      · replace F := fct e51 F
        refine k_else ?_
        refine tri_skip ?_
        refine thn_normal ?_
        refine tri_seq ?_
        obtain ⟨v69, e74, h⟩ := of_bind h
        refine r_join (n := 8) (fun (v69 : Bool) => ⟨[((2, 0), .adr (2, 0) [0]), ((4, 0), .adr (4, 0) [0]), ((73, 0), .val false [.bool v69])], [⟨(2, 0), false, [.int .i64 (0 : Int), .int .i64 (0 : Int), .int .i64 (0 : Int), .sl true 1 ([] : List Int).length ((EI .i64).L true []), .int .i64 (0 : Int), .int .i64 (0 : Int), .str [], .str [], .str [], .str [], .int .i64 (0 : Int), .bool false]⟩, ⟨(4, 0), false, [.int .i64 v6, .int .i64 v21, .int .i64 (0 : Int), .sl true 1 ([] : List Int).length ((EI .i64).L true []), .int .i64 (0 : Int), .int .i64 (0 : Int), .str [], .str [], .str [], .str [], .int .i64 (0 : Int), .bool false]⟩], 76, []⟩) v69 ?_ ?_
        · clear h
          have h := e74
          refine r_ops tabOk 4 4 ?_
          rcases of_bif h with ⟨e70, h⟩ | ⟨e70, h⟩
          · replace F := fct e70 F
            refine r_skip 3 1 ?_
            refine r_ops tabOk 1 0 ?_
            refine run_end ?_
            obtain rfl := Option.some.inj h
            exact i_to [(2, 0), (4, 0), (73, 0)] [(2, 0), (4, 0)]
          · replace F := fct e70 F
            obtain ⟨v71, e72, h⟩ := of_bind h
            refine r_call tabOk 3 [.val] (spec_StepText_good _ e72) ?_
            refine r_ops tabOk 3 0 ?_
            refine run_end ?_
            obtain rfl := Option.some.inj h
            exact i_to [(2, 0), (4, 0), (73, 0)] [(2, 0), (4, 0)]
        · rcases of_bif h with ⟨e73, h⟩ | ⟨e73, h⟩
          · replace F := fct e73 F
            refine k_then ?_
            refine k_seq tabOk ?_
            obtain rfl := Option.some.inj h
            refine tri_ret ?_
            exact k_retE
          · replace F := fct e73 F
            refine k_else ?_
            refine tri_skip ?_
            refine thn_normal ?_
            refine k_seq tabOk ?_
            obtain rfl := Option.some.inj h
            refine tri_ret ?_
            exact k_retE

noncomputable def stringslite_IndexByte (a0 : List UInt8) (a1 : UInt8) : Option (Int) :=
  ((bytealg_IndexByteString a0 a1).bind fun v1 => (some v1))
theorem stringslite_IndexByte_good (a0 : List UInt8) (a1 : UInt8) {r : Int} (h : stringslite_IndexByte a0 a1 = some r) : GoodD Tryd.prog 80 [.val false (ES.row false a0), .val false (EU.row false a1)] [(false, (EI .i64).row false r)] [[], []] := by
  have F : True := trivial
  unfold stringslite_IndexByte at h
  refine good_body tabOk 8 [.tmp 4] Tryd.func80 rfl rfl rfl rfl ?_
  refine k_seq tabOk ?_
  refine k_runs 4 ?_
  refine r_ops tabOk 2 2 ?_
  obtain ⟨v1, e2, h⟩ := of_bind h
  refine r_call tabOk 1 [.val, .val] (bytealg_IndexByteString_good _ _ e2) ?_
  refine r_ops tabOk 1 0 ?_
  refine run_end ?_
  obtain rfl := Option.some.inj h
  refine tri_ret ?_
  exact k_retE

noncomputable def bytealg_hashStr_string__l1 (a0 : List UInt8) (s1 : Int × Int) : Option ((Int × Int) ⊕ (Int)) :=
  (bif (decide (s1.2 < (a0.length : Int))) then (bif inRange s1.2 a0.length then (some (Sum.inl ((IntKind.u32.wrap ((IntKind.u32.wrap (s1.1 * (16777619 : Int))) + (IntKind.u32.wrap ((a0.getD s1.2.toNat 0).toNat : Int)))), (IntKind.i64.wrap (s1.2 + (1 : Int)))))) else none) else (some (Sum.inr s1.1)))
noncomputable def bytealg_hashStr_string__l2  (s8 : Int × Int × Int) : Option ((Int × Int × Int) ⊕ (Int)) :=
  (bif (decide ((0 : Int) < s8.2.2)) then (Option.bind (bif ((IntKind.i64.wrap (BitVec.ofInt (IntKind.bits .i64) s8.2.2 &&& BitVec.ofInt (IntKind.bits .i64) (1 : Int)).toNat) != (0 : Int)) then (some (IntKind.u32.wrap (s8.1 * s8.2.1))) else (some s8.1)) fun (v12 : Int) => (some (Sum.inl (v12, (IntKind.u32.wrap (s8.2.1 * s8.2.1)), (s8.2.2.fdiv (2 ^ (min 1 (IntKind.bits .i64)))))))) else (some (Sum.inr s8.1)))
noncomputable def bytealg_hashStr_string_ (a0 : List UInt8) : Option (Int × Int) :=
  (Option.bind (loopC (bytealg_hashStr_string__l1 a0) ((0 : Int), (0 : Int))) fun v2 => (Option.bind (loopC bytealg_hashStr_string__l2 ((1 : Int), (16777619 : Int), (a0.length : Int))) fun v9 => (some (v2, v9))))
theorem bytealg_hashStr_string__good (a0 : List UInt8) {r : Int × Int} (h : bytealg_hashStr_string_ a0 = some r) : GoodD Tryd.prog 89 [.val false (ES.row false a0)] [(false, (EI .u32).row false r.1), (false, (EI .u32).row false r.2)] [[]] := by
  have F : True := trivial
  unfold bytealg_hashStr_string_ at h
  refine good_body tabOk 39 [.tmp 2, .tmp 3] Tryd.func89 rfl rfl rfl rfl ?_
  refine k_seq tabOk ?_
  refine k_seq tabOk ?_
  refine tri_seq ?_
  refine k_seq tabOk ?_
  refine tri_block ?_
  obtain ⟨v2, e6, h⟩ := of_bind h
  refine k_loopX (fun (s1 : Int × Int) => ⟨[((0, 0), .val false [.str a0]), ((4, 0), .val false [.int .u32 s1.1]), ((5, 0), .val false [.int .i64 s1.2])], [], 39, []⟩) 0 (fun (v2 : Int) => ⟨[((0, 0), .val false [.str a0]), ((4, 0), .val false [.int .u32 v2])], [], 39, []⟩) e6 ?_ ?_ ?_
  · exact i_to [(0, 0), (4, 0), (5, 0)] []
  · clear h e6
    intro s1 o3 h
    unfold bytealg_hashStr_string__l1 at h
    refine tri_seq ?_
    refine k_seq tabOk ?_
    rcases of_bif h with ⟨e4, h⟩ | ⟨e4, h⟩
    · replace F := fct e4 F
      refine k_then ?_
      refine tri_skip ?_
      refine thn_normal ?_
      refine tri_seq ?_
      refine tri_block ?_
      obtain ⟨e5, h⟩ := of_chk h
      replace F := fct (e5) F
      refine k_one tabOk ?_
      refine inblk_normal ?_
      refine thn_normal ?_
      refine k_one tabOk ?_
      obtain rfl := Option.some.inj h
      exact and_rfl (i_to [(0, 0), (4, 0), (5, 0)] [])
    · replace F := fct e4 F
      refine k_else ?_
      refine tri_exit ?_
      refine thn_exit ?_
      obtain rfl := Option.some.inj h
      exact and_rfl (i_to [(0, 0), (4, 0)] [])
  · refine inblk_here ?_
    refine thn_normal ?_
    refine k_seq tabOk ?_
    refine tri_seq ?_
    refine k_seq tabOk ?_
    refine tri_block ?_
    obtain ⟨v9, e15, h⟩ := of_bind h
    refine k_loopX (fun (s8 : Int × Int × Int) => ⟨[((4, 0), .val false [.int .u32 v2]), ((6, 0), .val false [.int .u32 s8.1]), ((7, 0), .val false [.int .u32 s8.2.1]), ((8, 0), .val false [.int .i64 s8.2.2])], [], 39, []⟩) 2 (fun (v9 : Int) => ⟨[((4, 0), .val false [.int .u32 v2]), ((6, 0), .val false [.int .u32 v9])], [], 39, []⟩) e15 ?_ ?_ ?_
    · exact i_to [(4, 0), (6, 0), (7, 0), (8, 0)] []
    · clear h e15
      intro s8 o10 h
      unfold bytealg_hashStr_string__l2 at h
      refine tri_seq ?_
      refine k_seq tabOk ?_
      rcases of_bif h with ⟨e11, h⟩ | ⟨e11, h⟩
      · replace F := fct e11 F
        refine k_then ?_
        refine tri_skip ?_
        refine thn_normal ?_
        obtain ⟨v12, e14, h⟩ := of_bind h
        refine k_jn (fun (v12 : Int) => ⟨[((4, 0), .val false [.int .u32 v2]), ((6, 0), .val false [.int .u32 v12]), ((7, 0), .val false [.int .u32 (IntKind.u32.wrap (s8.2.1 * s8.2.1))]), ((8, 0), .val false [.int .i64 s8.2.2])], [], 39, []⟩) v12 ?_ ?_
        · clear h
          have h := e14
          refine tri_block ?_
          refine tri_seq ?_
          refine k_seq tabOk ?_
          rcases of_bif h with ⟨e13, h⟩ | ⟨e13, h⟩
          · replace F := fct e13 F
            refine k_then ?_
            refine k_one tabOk ?_
            refine thn_normal ?_
            refine k_one tabOk ?_
            refine inblk_normal ?_
            obtain rfl := Option.some.inj h
            exact and_rfl (i_to [(4, 0), (6, 0), (7, 0), (8, 0)] [])
          · replace F := fct e13 F
            refine k_else ?_
            refine tri_skip ?_
            refine thn_normal ?_
            refine k_one tabOk ?_
            refine inblk_normal ?_
            obtain rfl := Option.some.inj h
            exact and_rfl (i_to [(4, 0), (6, 0), (7, 0), (8, 0)] [])
        · refine k_one tabOk ?_
          obtain rfl := Option.some.inj h
          exact and_rfl (i_to [(4, 0), (6, 0), (7, 0), (8, 0)] [])
      · replace F := fct e11 F
        refine k_else ?_
        refine tri_exit ?_
        refine thn_exit ?_
        obtain rfl := Option.some.inj h
        exact and_rfl (i_to [(4, 0), (6, 0)] [])
    · refine inblk_here ?_
      refine thn_normal ?_
      refine k_seq tabOk ?_
      obtain rfl := Option.some.inj h
      refine tri_ret ?_
      exact k_retE

noncomputable def stringslite_Index (a0 : List UInt8) (a1 : List UInt8) : Option (Int) :=
  (bif (((a1.length : Int) == (0 : Int)) || (a1 == a0)) then (some (0 : Int)) else (bif ((a1.length : Int) == (1 : Int)) then (bif inRange (0 : Int) a1.length then ((stringslite_IndexByte a0 (a1.getD (0 : Int).toNat 0)).bind fun v4 => (some v4)) else none) else (bif (decide ((a0.length : Int) ≤ (a1.length : Int))) then (some (-1 : Int)) else none)))
theorem stringslite_Index_good (a0 : List UInt8) (a1 : List UInt8) {r : Int} (h : stringslite_Index a0 a1 = some r) : GoodD Tryd.prog 68 [.val false (ES.row false a0), .val false (ES.row false a1)] [(false, (EI .i64).row false r)] [[], []] := by
  have F : True := trivial
  unfold stringslite_Index at h
  refine good_body tabOk 143 [.tmp 4] Tryd.func68 rfl rfl rfl rfl ?_
  refine k_seq tabOk ?_
  refine k_seq tabOk ?_
  refine tri_seq ?_
  refine tri_block ?_
  refine k_seq tabOk ?_
  rcases of_bif h with ⟨e1, h⟩ | ⟨e1, h⟩
  · replace F := fct e1 F
    refine k_then ?_
    refine k_seq tabOk ?_
    obtain rfl := Option.some.inj h
    refine tri_ret ?_
    exact k_retE
  · replace F := fct e1 F
    refine k_else ?_
    refine k_seq tabOk ?_
    rcases of_bif h with ⟨e2, h⟩ | ⟨e2, h⟩
    · replace F := fct e2 F
      refine k_then ?_
      refine k_runs 5 ?_
      obtain ⟨e3, h⟩ := of_chk h
      replace F := fct (e3) F
      refine r_ops tabOk 3 2 ?_
      obtain ⟨v4, e5, h⟩ := of_bind h
      refine r_call tabOk 1 [.val, .val] (stringslite_IndexByte_good _ _ e5) ?_
      refine r_ops tabOk 1 0 ?_
      refine run_end ?_
      obtain rfl := Option.some.inj h
      refine tri_ret ?_
      exact k_retE
    · replace F := fct e2 F
      refine k_else ?_
      refine k_seq tabOk ?_
      rcases of_bif h with ⟨e6, h⟩ | ⟨e6, h⟩
      · replace F := fct e6 F
        refine k_then ?_
        refine k_seq tabOk ?_
        obtain rfl := Option.some.inj h
        refine tri_ret ?_
        exact k_retE
      · replace F := fct e6 F
        refine k_else ?_
        cases h

noncomputable def strings_Index (a0 : List UInt8) (a1 : List UInt8) : Option (Int) :=
  ((stringslite_Index a0 a1).bind fun v1 => (some v1))
theorem strings_Index_good (a0 : List UInt8) (a1 : List UInt8) {r : Int} (h : strings_Index a0 a1 = some r) : GoodD Tryd.prog 53 [.val false (ES.row false a0), .val false (ES.row false a1)] [(false, (EI .i64).row false r)] [[], []] := by
  have F : True := trivial
  unfold strings_Index at h
  refine good_body tabOk 8 [.tmp 4] Tryd.func53 rfl rfl rfl rfl ?_
  refine k_seq tabOk ?_
  refine k_runs 4 ?_
  refine r_ops tabOk 2 2 ?_
  obtain ⟨v1, e2, h⟩ := of_bind h
  refine r_call tabOk 1 [.val, .val] (stringslite_Index_good _ _ e2) ?_
  refine r_ops tabOk 1 0 ?_
  refine run_end ?_
  obtain rfl := Option.some.inj h
  refine tri_ret ?_
  exact k_retE

noncomputable def strings_Count_l1 (a1 : List UInt8) (s8 : (List UInt8) × Int) : Option (((List UInt8) × Int) ⊕ (Int)) :=
  ((strings_Index s8.1 a1).bind fun v10 => (bif (v10 == (-1 : Int)) then (some (Sum.inr s8.2)) else (bif (decide ((0 : Int) ≤ (IntKind.i64.wrap (v10 + (a1.length : Int)))) && decide ((IntKind.i64.wrap (v10 + (a1.length : Int))) ≤ (s8.1.length : Int)) && decide ((s8.1.length : Int) ≤ (s8.1.length : Int))) then (some (Sum.inl ((List.drop (IntKind.i64.wrap (v10 + (a1.length : Int))).toNat (List.take (s8.1.length : Int).toNat s8.1)), (IntKind.i64.wrap (s8.2 + (1 : Int)))))) else none)))
noncomputable def strings_Count (a0 : List UInt8) (a1 : List UInt8) : Option (Int) :=
  (bif ((a1.length : Int) == (0 : Int)) then ((utf8_RuneCountInString a0).bind fun v2 => (some (IntKind.i64.wrap (v2 + (1 : Int))))) else (bif ((a1.length : Int) == (1 : Int)) then (bif inRange (0 : Int) a1.length then ((bytealg_CountString a0 (a1.getD (0 : Int).toNat 0)).bind fun v6 => (some v6)) else none) else (Option.bind (loopC (strings_Count_l1 a1) (a0, (0 : Int))) some)))
theorem strings_Count_good (a0 : List UInt8) (a1 : List UInt8) {r : Int} (h : strings_Count a0 a1 = some r) : GoodD Tryd.prog 52 [.val false (ES.row false a0), .val false (ES.row false a1)] [(false, (EI .i64).row false r)] [[], []] := by
  have F : True := trivial
  unfold strings_Count at h
  refine good_body tabOk 34 [.tmp 4] Tryd.func52 rfl rfl rfl rfl ?_
  refine k_seq tabOk ?_
  refine tri_seq ?_
  refine k_seq tabOk ?_
  rcases of_bif h with ⟨e1, h⟩ | ⟨e1, h⟩
  · replace F := fct e1 F
    refine k_then ?_
    refine k_runs 4 ?_
    refine r_ops tabOk 1 3 ?_
    obtain ⟨v2, e3, h⟩ := of_bind h
    refine r_call tabOk 2 [.val] (utf8_RuneCountInString_good _ e3) ?_
    refine r_ops tabOk 2 0 ?_
    refine run_end ?_
    obtain rfl := Option.some.inj h
    refine tri_ret ?_
    exact k_retE
  · replace F := fct e1 F
    refine k_else ?_
    refine tri_skip ?_
    refine thn_normal ?_
    refine tri_seq ?_
    refine k_seq tabOk ?_
    rcases of_bif h with ⟨e4, h⟩ | ⟨e4, h⟩
    · replace F := fct e4 F
      refine k_then ?_
      refine k_runs 5 ?_
      obtain ⟨e5, h⟩ := of_chk h
      replace F := fct (e5) F
      refine r_ops tabOk 3 2 ?_
      obtain ⟨v6, e7, h⟩ := of_bind h
      refine r_call tabOk 1 [.val, .val] (bytealg_CountString_good _ _ e7) ?_
      refine r_ops tabOk 1 0 ?_
      refine run_end ?_
      obtain rfl := Option.some.inj h
      refine tri_ret ?_
      exact k_retE
    · replace F := fct e4 F
      refine k_else ?_
      refine tri_skip ?_
      refine thn_normal ?_
      refine k_seq tabOk ?_
      refine tri_block ?_
      obtain ⟨_, e14, h⟩ := of_bind h
      obtain rfl := Option.some.inj h
      refine k_loopA (fun (s8 : (List UInt8) × Int) => ⟨[((0, 0), .val false [.str s8.1]), ((1, 0), .val false [.str a1]), ((5, 0), .val false [.int .i64 s8.2])], [], 34, []⟩) _ e14 ?_ ?_
      · exact i_to [(0, 0), (1, 0), (5, 0)] []
      intro s8 o9 h
      unfold strings_Count_l1 at h
      refine tri_block ?_
      refine k_runs 4 ?_
      refine r_ops tabOk 2 2 ?_
      obtain ⟨v10, e11, h⟩ := of_bind h
      refine r_call tabOk 1 [.val, .val] (strings_Index_good _ _ e11) ?_
      refine r_ops tabOk 1 0 ?_
      refine run_end ?_
      refine tri_seq ?_
      refine k_seq tabOk ?_
      rcases of_bif h with ⟨e12, h⟩ | ⟨e12, h⟩
      · replace F := fct e12 F
        refine k_then ?_
        refine k_seq tabOk ?_
        obtain rfl := Option.some.inj h
        refine tri_ret ?_
        refine q_ret (fun e => ?_)
        subst e
        exact k_retE
      · replace F := fct e12 F
        refine k_else ?_
        refine tri_skip ?_
        refine thn_normal ?_
        refine k_seq tabOk ?_
        obtain ⟨e13, h⟩ := of_chk h
        replace F := fct (e13) F
        refine k_one tabOk ?_
        refine inblk_normal ?_
        obtain rfl := Option.some.inj h
        exact and_rfl (i_to [(0, 0), (1, 0), (5, 0)] [])

end Go.Proofs.YtddfcajdelfikaaDoor.Vm
