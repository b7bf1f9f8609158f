/- The structures of the seat's types, with their rows. Printed by encs.py. -/
import Derived.Test.YtddfcajdelfikaaDoorTab
import Derived.Test.YtddfcajdelfikaaDoorVm33
set_option maxRecDepth 100000
set_option linter.unusedSimpArgs false
namespace Go.Proofs.YtddfcajdelfikaaDoor.Vm
open Go
open PV (frzL)

structure S_runtime_boundsError where
  f_x : Int
  f_y : Int
  f_signed : Bool
  f_code : UInt8
  deriving DecidableEq
def E_runtime_boundsError : Enc S_runtime_boundsError := ⟨4, fun o x => [.int .i64 x.f_x, .int .i64 x.f_y, .bool x.f_signed, .int .u8 x.f_code.toNat], fun _ _ => rfl, fun o x => by simp only [frzL, PV.frz, Enc.frzL_L], fun x => by simp only [PV.cleanL, PV.clean, Bool.true_or, Enc.cleanL_L, Bool.and_self]⟩
@[go_sem] theorem E_runtime_boundsError_row (o : Bool) (x : S_runtime_boundsError) : E_runtime_boundsError.row o x = [.int .i64 x.f_x, .int .i64 x.f_y, .bool x.f_signed, .int .u8 x.f_code.toNat] := rfl
@[go_sem] theorem E_runtime_boundsError_flat (o : Bool) (xs : List S_runtime_boundsError) : flatRow (E_runtime_boundsError.L o xs) = true := flatL_of E_runtime_boundsError (fun _ _ => rfl) o xs

structure S_runtime_errorAddressString where
  f_msg : List UInt8
  f_addr : Int
  deriving DecidableEq
def E_runtime_errorAddressString : Enc S_runtime_errorAddressString := ⟨2, fun o x => [.str x.f_msg, .int .u64 x.f_addr], fun _ _ => rfl, fun o x => by simp only [frzL, PV.frz, Enc.frzL_L], fun x => by simp only [PV.cleanL, PV.clean, Bool.true_or, Enc.cleanL_L, Bool.and_self]⟩
@[go_sem] theorem E_runtime_errorAddressString_row (o : Bool) (x : S_runtime_errorAddressString) : E_runtime_errorAddressString.row o x = [.str x.f_msg, .int .u64 x.f_addr] := rfl
@[go_sem] theorem E_runtime_errorAddressString_flat (o : Bool) (xs : List S_runtime_errorAddressString) : flatRow (E_runtime_errorAddressString.L o xs) = true := flatL_of E_runtime_errorAddressString (fun _ _ => rfl) o xs

structure S_impl_Range where
  f_Lo : List UInt8
  f_Hi : List UInt8
  deriving DecidableEq
def E_impl_Range : Enc S_impl_Range := ⟨2, fun o x => [.str x.f_Lo, .str x.f_Hi], fun _ _ => rfl, fun o x => by simp only [frzL, PV.frz, Enc.frzL_L], fun x => by simp only [PV.cleanL, PV.clean, Bool.true_or, Enc.cleanL_L, Bool.and_self]⟩
@[go_sem] theorem E_impl_Range_row (o : Bool) (x : S_impl_Range) : E_impl_Range.row o x = [.str x.f_Lo, .str x.f_Hi] := rfl
@[go_sem] theorem E_impl_Range_flat (o : Bool) (xs : List S_impl_Range) : flatRow (E_impl_Range.L o xs) = true := flatL_of E_impl_Range (fun _ _ => rfl) o xs

structure S_impl_Ask where
  f_Kind : Int
  f_Key : List UInt8
  f_Val : List UInt8
  f_Range : S_impl_Range
  f_Most : Int
  f_Back : Bool
  deriving DecidableEq
def E_impl_Ask : Enc S_impl_Ask := ⟨7, fun o x => [.int .i64 x.f_Kind, .str x.f_Key, .str x.f_Val, .str x.f_Range.f_Lo, .str x.f_Range.f_Hi, .int .i64 x.f_Most, .bool x.f_Back], fun _ _ => rfl, fun o x => by simp only [frzL, PV.frz, Enc.frzL_L], fun x => by simp only [PV.cleanL, PV.clean, Bool.true_or, Enc.cleanL_L, Bool.and_self]⟩
@[go_sem] theorem E_impl_Ask_row (o : Bool) (x : S_impl_Ask) : E_impl_Ask.row o x = [.int .i64 x.f_Kind, .str x.f_Key, .str x.f_Val, .str x.f_Range.f_Lo, .str x.f_Range.f_Hi, .int .i64 x.f_Most, .bool x.f_Back] := rfl
@[go_sem] theorem E_impl_Ask_flat (o : Bool) (xs : List S_impl_Ask) : flatRow (E_impl_Ask.L o xs) = true := flatL_of E_impl_Ask (fun _ _ => rfl) o xs

structure S_impl_Call where
  f_Kind : Int
  f_Ask : S_impl_Ask
  deriving DecidableEq
def E_impl_Call : Enc S_impl_Call := ⟨8, fun o x => [.int .i64 x.f_Kind, .int .i64 x.f_Ask.f_Kind, .str x.f_Ask.f_Key, .str x.f_Ask.f_Val, .str x.f_Ask.f_Range.f_Lo, .str x.f_Ask.f_Range.f_Hi, .int .i64 x.f_Ask.f_Most, .bool x.f_Ask.f_Back], fun _ _ => rfl, fun o x => by simp only [frzL, PV.frz, Enc.frzL_L], fun x => by simp only [PV.cleanL, PV.clean, Bool.true_or, Enc.cleanL_L, Bool.and_self]⟩
@[go_sem] theorem E_impl_Call_row (o : Bool) (x : S_impl_Call) : E_impl_Call.row o x = [.int .i64 x.f_Kind, .int .i64 x.f_Ask.f_Kind, .str x.f_Ask.f_Key, .str x.f_Ask.f_Val, .str x.f_Ask.f_Range.f_Lo, .str x.f_Ask.f_Range.f_Hi, .int .i64 x.f_Ask.f_Most, .bool x.f_Ask.f_Back] := rfl
@[go_sem] theorem E_impl_Call_flat (o : Bool) (xs : List S_impl_Call) : flatRow (E_impl_Call.L o xs) = true := flatL_of E_impl_Call (fun _ _ => rfl) o xs

structure S_impl_Step where
  f_Kind : Int
  f_A : Int
  f_B : Int
  f_Keep : List Int
  f_Call : S_impl_Call
  deriving DecidableEq
def E_impl_Step : Enc S_impl_Step := ⟨12, fun o x => [.int .i64 x.f_Kind, .int .i64 x.f_A, .int .i64 x.f_B, .sl o 1 x.f_Keep.length ((EI .i64).L o x.f_Keep), .int .i64 x.f_Call.f_Kind, .int .i64 x.f_Call.f_Ask.f_Kind, .str x.f_Call.f_Ask.f_Key, .str x.f_Call.f_Ask.f_Val, .str x.f_Call.f_Ask.f_Range.f_Lo, .str x.f_Call.f_Ask.f_Range.f_Hi, .int .i64 x.f_Call.f_Ask.f_Most, .bool x.f_Call.f_Ask.f_Back], fun _ _ => rfl, fun o x => by simp only [frzL, PV.frz, Enc.frzL_L], fun x => by simp only [PV.cleanL, PV.clean, Bool.true_or, Enc.cleanL_L, Bool.and_self]⟩
@[go_sem] theorem E_impl_Step_row (o : Bool) (x : S_impl_Step) : E_impl_Step.row o x = [.int .i64 x.f_Kind, .int .i64 x.f_A, .int .i64 x.f_B, .sl o 1 x.f_Keep.length ((EI .i64).L o x.f_Keep), .int .i64 x.f_Call.f_Kind, .int .i64 x.f_Call.f_Ask.f_Kind, .str x.f_Call.f_Ask.f_Key, .str x.f_Call.f_Ask.f_Val, .str x.f_Call.f_Ask.f_Range.f_Lo, .str x.f_Call.f_Ask.f_Range.f_Hi, .int .i64 x.f_Call.f_Ask.f_Most, .bool x.f_Call.f_Ask.f_Back] := rfl

structure S_utf8_acceptRange where
  f_lo : UInt8
  f_hi : UInt8
  deriving DecidableEq
def E_utf8_acceptRange : Enc S_utf8_acceptRange := ⟨2, fun o x => [.int .u8 x.f_lo.toNat, .int .u8 x.f_hi.toNat], fun _ _ => rfl, fun o x => by simp only [frzL, PV.frz, Enc.frzL_L], fun x => by simp only [PV.cleanL, PV.clean, Bool.true_or, Enc.cleanL_L, Bool.and_self]⟩
@[go_sem] theorem E_utf8_acceptRange_row (o : Bool) (x : S_utf8_acceptRange) : E_utf8_acceptRange.row o x = [.int .u8 x.f_lo.toNat, .int .u8 x.f_hi.toNat] := rfl
@[go_sem] theorem E_utf8_acceptRange_flat (o : Bool) (xs : List S_utf8_acceptRange) : flatRow (E_utf8_acceptRange.L o xs) = true := flatL_of E_utf8_acceptRange (fun _ _ => rfl) o xs

theorem mixed : Tryd.prog.follows .mixedOrders = true := by kernel_rfl

end Go.Proofs.YtddfcajdelfikaaDoor.Vm
