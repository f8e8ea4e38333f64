/- The program's types, as plain data, and their cells. -/
import Derived.Test.YtcgakaboochpaadGreatFwZ
namespace Go.Fw
open Go
noncomputable section

structure Turn where
 W : F32
 X : F32
 Y : F32
 Z : F32
deriving Inhabited
def zqi (x : Turn) : List C := [(.flt .f32 x.W.bits), (.flt .f32 x.X.bits), (.flt .f32 x.Y.bits), (.flt .f32 x.Z.bits)]
theorem sq_Turn : SeqT 4 zqi := fun _ _ j hj => match j, hj with
 | 0, _ => rfl
 | 1, _ => rfl
 | 2, _ => rfl
 | 3, _ => rfl
theorem sc_Turn : zbm 4 zqi := by
 intro x j hj
 match j, hj with
 | 0, _ => trivial
 | 1, _ => trivial
 | 2, _ => trivial
 | 3, _ => trivial

structure Key where
 At : Int
 Turn : Turn
deriving Inhabited
def zqo (x : Key) : List C := [(.int .i64 x.At), (.flt .f32 x.Turn.W.bits), (.flt .f32 x.Turn.X.bits), (.flt .f32 x.Turn.Y.bits), (.flt .f32 x.Turn.Z.bits)]
theorem sq_Key : SeqT 5 zqo := fun _ _ j hj => match j, hj with
 | 0, _ => rfl
 | 1, _ => rfl
 | 2, _ => rfl
 | 3, _ => rfl
 | 4, _ => rfl
theorem zhs : zbm 5 zqo := by
 intro x j hj
 match j, hj with
 | 0, _ => trivial
 | 1, _ => trivial
 | 2, _ => trivial
 | 3, _ => trivial
 | 4, _ => trivial

structure Vector where
 X : F32
 Y : F32
 Z : F32
deriving Inhabited
def zqs (x : Vector) : List C := [(.flt .f32 x.X.bits), (.flt .f32 x.Y.bits), (.flt .f32 x.Z.bits)]
theorem sq_Vector : SeqT 3 zqs := fun _ _ j hj => match j, hj with
 | 0, _ => rfl
 | 1, _ => rfl
 | 2, _ => rfl
theorem sc_Vector : zbm 3 zqs := by
 intro x j hj
 match j, hj with
 | 0, _ => trivial
 | 1, _ => trivial
 | 2, _ => trivial

structure RootKey where
 At : Int
 Place : Vector
deriving Inhabited
def zqg (x : RootKey) : List C := [(.int .i64 x.At), (.flt .f32 x.Place.X.bits), (.flt .f32 x.Place.Y.bits), (.flt .f32 x.Place.Z.bits)]
theorem sq_RootKey : SeqT 4 zqg := fun _ _ j hj => match j, hj with
 | 0, _ => rfl
 | 1, _ => rfl
 | 2, _ => rfl
 | 3, _ => rfl
theorem sc_RootKey : zbm 4 zqg := by
 intro x j hj
 match j, hj with
 | 0, _ => trivial
 | 1, _ => trivial
 | 2, _ => trivial
 | 3, _ => trivial

structure Clip where
 Length : Int
 Kind : Int
 Tracks : (List (List Key))
 Roots : (List RootKey)
deriving Inhabited
def zqp (x : Clip) : List C := [(.int .i64 x.Length), (.int .i64 x.Kind), (sl 1 (csL 5 zqo) x.Tracks), (sl 4 zqg x.Roots)]
theorem sq_Clip : SeqT 4 zqp := fun _ _ j hj => match j, hj with
 | 0, _ => rfl
 | 1, _ => rfl
 | 2, _ => rfl
 | 3, _ => rfl

structure Pose where
 Root : Vector
 Turns : (List Turn)
deriving Inhabited
def zwi (x : Pose) : List C := [(.flt .f32 x.Root.X.bits), (.flt .f32 x.Root.Y.bits), (.flt .f32 x.Root.Z.bits), (sl 4 zqi x.Turns)]
theorem sq_Pose : SeqT 4 zwi := fun _ _ j hj => match j, hj with
 | 0, _ => rfl
 | 1, _ => rfl
 | 2, _ => rfl
 | 3, _ => rfl

structure l00Src where
 code : (List Int)
 at_ : Int
 seed : Int
deriving Inhabited
def zqj (x : l00Src) : List C := [(sl 1 (csI .u8) x.code), (.int .i64 x.at_), (.int .u64 x.seed)]
theorem sq_l00Src : SeqT 3 zqj := fun _ _ j hj => match j, hj with
 | 0, _ => rfl
 | 1, _ => rfl
 | 2, _ => rfl

structure boundsError where
 x : Int
 y : Int
 signed : Bool
 code : Int
deriving Inhabited
def cs_boundsError (x : boundsError) : List C := [(.int .i64 x.x), (.int .i64 x.y), (.bool x.signed), (.int .u8 x.code)]
theorem sq_boundsError : SeqT 4 cs_boundsError := fun _ _ j hj => match j, hj with
 | 0, _ => rfl
 | 1, _ => rfl
 | 2, _ => rfl
 | 3, _ => rfl
theorem sc_boundsError : zbm 4 cs_boundsError := by
 intro x j hj
 match j, hj with
 | 0, _ => trivial
 | 1, _ => trivial
 | 2, _ => trivial
 | 3, _ => trivial

structure errorAddressString where
 msg : ByteArray
 addr : Int
deriving Inhabited
def cs_errorAddressString (x : errorAddressString) : List C := [(.str x.msg), (.int .u64 x.addr)]
theorem sq_errorAddressString : SeqT 2 cs_errorAddressString := fun _ _ j hj => match j, hj with
 | 0, _ => rfl
 | 1, _ => rfl
theorem sc_errorAddressString : zbm 2 cs_errorAddressString := by
 intro x j hj
 match j, hj with
 | 0, _ => trivial
 | 1, _ => trivial

end
end Go.Fw
