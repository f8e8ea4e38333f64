/- The program's types, as plain data, and their cells. -/
import Derived.Test.YtdclghdojlilfadDoorFwZ
namespace Go.Fw
open Go
noncomputable section

structure l00Src where
  code : (List Int)
  at_ : Int
  seed : Int
deriving Inhabited
def cs_l00Src (x : l00Src) : List C := [(sl 1 (csI .u8) x.code), (.int .i64 x.at_), (.int .u64 x.seed)]
theorem sq_l00Src : SeqT 3 cs_l00Src := fun _ _ j hj => match j, hj with
  | 0, _ => rfl
  | 1, _ => rfl
  | 2, _ => rfl

structure NumError where
  Func : ByteArray
  Num : ByteArray
  Err : Unit
deriving Inhabited
def cs_NumError (x : NumError) : List C := [(.str x.Func), (.str x.Num), .niliface]
theorem sq_NumError : SeqT 3 cs_NumError := fun _ _ j hj => match j, hj with
  | 0, _ => rfl
  | 1, _ => rfl
  | 2, _ => rfl

structure boundsError where
  x : Int
  y : Int
  signed : Bool
  code : Int
deriving Inhabited
def cs_boundsError (x : boundsError) : List C := [(.int .i64 x.x), (.int .i64 x.y), (.bool x.signed), (.int .u8 x.code)]
theorem sq_boundsError : SeqT 4 cs_boundsError := fun _ _ j hj => match j, hj with
  | 0, _ => rfl
  | 1, _ => rfl
  | 2, _ => rfl
  | 3, _ => rfl
theorem sc_boundsError : ScalarT 4 cs_boundsError := by
  intro x j hj
  match j, hj with
  | 0, _ => trivial
  | 1, _ => trivial
  | 2, _ => trivial
  | 3, _ => trivial

structure errorAddressString where
  msg : ByteArray
  addr : Int
deriving Inhabited
def cs_errorAddressString (x : errorAddressString) : List C := [(.str x.msg), (.int .u64 x.addr)]
theorem sq_errorAddressString : SeqT 2 cs_errorAddressString := fun _ _ j hj => match j, hj with
  | 0, _ => rfl
  | 1, _ => rfl
theorem sc_errorAddressString : ScalarT 2 cs_errorAddressString := by
  intro x j hj
  match j, hj with
  | 0, _ => trivial
  | 1, _ => trivial

structure errorString where
  s : ByteArray
deriving Inhabited
def cs_errorString (x : errorString) : List C := [(.str x.s)]
theorem sq_errorString : SeqT 1 cs_errorString := fun _ _ j hj => match j, hj with
  | 0, _ => rfl
theorem sc_errorString : ScalarT 1 cs_errorString := by
  intro x j hj
  match j, hj with
  | 0, _ => trivial

end
end Go.Fw
