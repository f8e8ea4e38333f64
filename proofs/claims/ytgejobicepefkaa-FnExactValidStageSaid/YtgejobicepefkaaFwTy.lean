/- The program's types, as plain data, and their cells. -/
import Derived.Test.YtgejobicepefkaaFwR6
namespace Go.Fw
open Go
noncomputable section

structure Vector where
  X : F32
  Y : F32
  Z : F32
deriving Inhabited
def cs_Vector (x : Vector) : List C := [(.flt .f32 x.X.bits), (.flt .f32 x.Y.bits), (.flt .f32 x.Z.bits)]
theorem sc_Vector : ScalarT 3 cs_Vector := by
  intro x j hj
  match j, hj with
  | 0, _ => trivial
  | 1, _ => trivial
  | 2, _ => trivial

structure Turn where
  W : F32
  X : F32
  Y : F32
  Z : F32
deriving Inhabited
def cs_Turn (x : Turn) : List C := [(.flt .f32 x.W.bits), (.flt .f32 x.X.bits), (.flt .f32 x.Y.bits), (.flt .f32 x.Z.bits)]
theorem sc_Turn : ScalarT 4 cs_Turn := by
  intro x j hj
  match j, hj with
  | 0, _ => trivial
  | 1, _ => trivial
  | 2, _ => trivial
  | 3, _ => trivial

structure Pose where
  Root : Vector
  Turns : (List Turn)
deriving Inhabited
def cs_Pose (x : Pose) : List C := [(.flt .f32 x.Root.X.bits), (.flt .f32 x.Root.Y.bits), (.flt .f32 x.Root.Z.bits), (sl 4 cs_Turn x.Turns)]

structure Recording where
  Bones : Int
  Frames : (List Pose)
deriving Inhabited
def cs_Recording (x : Recording) : List C := [(.int .i64 x.Bones), (sl 4 cs_Pose x.Frames)]

structure Bone where
  Parent : Int
  Offset : Vector
deriving Inhabited
def cs_Bone (x : Bone) : List C := [(.int .i64 x.Parent), (.flt .f32 x.Offset.X.bits), (.flt .f32 x.Offset.Y.bits), (.flt .f32 x.Offset.Z.bits)]
theorem sc_Bone : ScalarT 4 cs_Bone := by
  intro x j hj
  match j, hj with
  | 0, _ => trivial
  | 1, _ => trivial
  | 2, _ => trivial
  | 3, _ => trivial

structure Skeleton where
  Bones : (List Bone)
deriving Inhabited
def cs_Skeleton (x : Skeleton) : List C := [(sl 4 cs_Bone x.Bones)]

structure Stage where
  Skeleton : Skeleton
  Names : (List ByteArray)
  Poses : (List Pose)
deriving Inhabited
def cs_Stage (x : Stage) : List C := [(sl 4 cs_Bone x.Skeleton.Bones), (sl 1 csS x.Names), (sl 4 cs_Pose x.Poses)]

structure l00Src where
  code : (List Int)
  at_ : Int
  seed : Int
deriving Inhabited
def cs_l00Src (x : l00Src) : List C := [(sl 1 (csI .u8) x.code), (.int .i64 x.at_), (.int .u64 x.seed)]

end
end Go.Fw
