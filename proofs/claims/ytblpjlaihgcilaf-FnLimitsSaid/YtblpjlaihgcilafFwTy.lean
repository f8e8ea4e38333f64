/- The program's types, as plain data, and their cells. -/
import Derived.Test.YtblpjlaihgcilafFwZ
namespace Go.Fw
open Go
noncomputable section

structure Turn where
  W : F32
  X : F32
  Y : F32
  Z : F32
deriving Inhabited
def cs_Turn (x : Turn) : List C := [(.flt .f32 x.W.bits), (.flt .f32 x.X.bits), (.flt .f32 x.Y.bits), (.flt .f32 x.Z.bits)]
theorem sq_Turn : SeqT 4 cs_Turn := fun _ _ j hj => match j, hj with
  | 0, _ => rfl
  | 1, _ => rfl
  | 2, _ => rfl
  | 3, _ => rfl
theorem sc_Turn : ScalarT 4 cs_Turn := by
  intro x j hj
  match j, hj with
  | 0, _ => trivial
  | 1, _ => trivial
  | 2, _ => trivial
  | 3, _ => trivial

structure Vector where
  X : F32
  Y : F32
  Z : F32
deriving Inhabited
def cs_Vector (x : Vector) : List C := [(.flt .f32 x.X.bits), (.flt .f32 x.Y.bits), (.flt .f32 x.Z.bits)]
theorem sq_Vector : SeqT 3 cs_Vector := fun _ _ j hj => match j, hj with
  | 0, _ => rfl
  | 1, _ => rfl
  | 2, _ => rfl
theorem sc_Vector : ScalarT 3 cs_Vector := by
  intro x j hj
  match j, hj with
  | 0, _ => trivial
  | 1, _ => trivial
  | 2, _ => trivial

structure l00Src where
  code : (List Int)
  at_ : Int
  seed : Int
deriving Inhabited
def cs_l00Src (x : l00Src) : List C := [(sl 1 (csI .u8) x.code), (.int .i64 x.at_), (.int .u64 x.seed)]
theorem sq_l00Src : SeqT 3 cs_l00Src := fun _ _ j hj => match j, hj with
  | 0, _ => rfl
  | 1, _ => rfl
  | 2, _ => rfl

structure boundsError where
  x : Int
  y : Int
  signed : Bool
  code : Int
deriving Inhabited
def cs_boundsError (x : boundsError) : List C := [(.int .i64 x.x), (.int .i64 x.y), (.bool x.signed), (.int .u8 x.code)]
theorem sq_boundsError : SeqT 4 cs_boundsError := fun _ _ j hj => match j, hj with
  | 0, _ => rfl
  | 1, _ => rfl
  | 2, _ => rfl
  | 3, _ => rfl
theorem sc_boundsError : ScalarT 4 cs_boundsError := by
  intro x j hj
  match j, hj with
  | 0, _ => trivial
  | 1, _ => trivial
  | 2, _ => trivial
  | 3, _ => trivial

structure errorAddressString where
  msg : ByteArray
  addr : Int
deriving Inhabited
def cs_errorAddressString (x : errorAddressString) : List C := [(.str x.msg), (.int .u64 x.addr)]
theorem sq_errorAddressString : SeqT 2 cs_errorAddressString := fun _ _ j hj => match j, hj with
  | 0, _ => rfl
  | 1, _ => rfl
theorem sc_errorAddressString : ScalarT 2 cs_errorAddressString := by
  intro x j hj
  match j, hj with
  | 0, _ => trivial
  | 1, _ => trivial

end
end Go.Fw
