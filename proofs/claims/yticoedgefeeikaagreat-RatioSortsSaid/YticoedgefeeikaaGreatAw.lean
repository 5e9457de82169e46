/- Layer 6's own example, and all the examples below it, are found true by the call of awake, in whatever world. Conditions: none. -/
import Derived.Test.YticoedgefeeikaaGreatProg
import Derived.Test.YticoedgefeeikaaGreatEngD
namespace Go.Proofs.YticoedgefeeikaaGreat
open Go.Eng Go.RowKit

theorem fol : Tryz.prog.follows .mixedOrders = true := by kernel_rfl

def extT : ExtTab := [(15, .fromBits), (23, .bits), (99, .st), (104, (.cas .u64)), (106, (.ld .u64))]
theorem extOk : ExtsOk Tryz.prog extT :=
  ⟨⟨_, Tryz.func15, by kernel_rfl, by kernel_rfl, by kernel_rfl, by kernel_rfl⟩,
   ⟨_, Tryz.func23, by kernel_rfl, by kernel_rfl, by kernel_rfl, by kernel_rfl⟩,
   ⟨_, Tryz.func99, by kernel_rfl, by kernel_rfl, by kernel_rfl, by kernel_rfl⟩,
   ⟨_, Tryz.func104, by kernel_rfl, by kernel_rfl, by kernel_rfl, by kernel_rfl⟩,
   ⟨_, Tryz.func106, by kernel_rfl, by kernel_rfl, by kernel_rfl, by kernel_rfl⟩, trivial⟩

def ra : Go.Shelf.Ren := ⟨fun | 11 => 71 | n => n, fun | 0 => 0 | 24 => 22 | 26 => 35 | 28 => 88 | 33 => 85 | n => n, fun n => n⟩
theorem la : LaysQ.n11 .u64 Tryz.prog ra := {
  mixed := fol
  f11 := ⟨Tryz.f71.name, by kernel_rfl, by kernel_rfl⟩
  t0 := by kernel_rfl
  a0 := Tryz.isAgg0
  z0 := Tryz.sizeOf0
  v0 := Tryz.zeroValue0
  t24 := by kernel_rfl
  a24 := Tryz.isAgg22
  z24 := Tryz.sizeOf22
  v24 := Tryz.zeroValue22
  t26 := by kernel_rfl
  a26 := Tryz.isAgg35
  z26 := Tryz.sizeOf35
  v26 := Tryz.zeroValue35
  t28 := by kernel_rfl
  a28 := Tryz.isAgg88
  z28 := Tryz.sizeOf88
  v28 := Tryz.zeroValue88
  i26 := by kernel_rfl }

def rk66 : Go.Shelf.Ren := ⟨fun | 10 => 66 | n => n, fun | 0 => 0 | 3 => 35 | 4 => 4 | 23 => 72 | 26 => 35 | 33 => 85 | n => n, fun n => n⟩
theorem lk66 : LaysQ.n10 .u64 Tryz.prog rk66 := {
  mixed := fol
  f10 := ⟨Tryz.f66.name, by kernel_rfl, by kernel_rfl⟩
  t0 := by kernel_rfl
  a0 := Tryz.isAgg0
  z0 := Tryz.sizeOf0
  v0 := Tryz.zeroValue0
  t4 := by kernel_rfl
  a4 := Tryz.isAgg4
  z4 := Tryz.sizeOf4
  v4 := Tryz.zeroValue4
  t23 := by kernel_rfl
  a23 := Tryz.isAgg72
  z23 := Tryz.sizeOf72
  v23 := Tryz.zeroValue72
  t26 := by kernel_rfl
  a26 := Tryz.isAgg35
  z26 := Tryz.sizeOf35
  v26 := Tryz.zeroValue35
  t33 := by kernel_rfl
  a33 := Tryz.isAgg85
  z33 := Tryz.sizeOf85
  v33 := Tryz.zeroValue85 }

def seqT : SeqTab := [⟨71, 66, .u64, 35⟩]
theorem seqOk : SeqsOk Tryz.prog seqT := ⟨⟨rk66, ra, lk66, la, rfl, rfl, rfl⟩, trivial⟩

set_option maxRecDepth 100000 in
theorem awake_run (n0 : Nat) (w0 : World) (h) : allTrue (evalCall Tryz.prog ⟨fun _ => none, n0, w0, h⟩ (extOf extT) (seqOracle seqT) 60 30 4 [] S0) = true := by kernel_rfl

theorem awake_true (w : World) : Calls Tryz.prog 4 #[] w fun e w' => e = .returned (.bool true) ∧ Below w.heap.size w w' :=
  calls_true ⟨fun _ => none, w.heap.size, w, fun g o h => by cases h⟩ rfl (evalCall_sound (extOf_ok extOk) (seqOracle_ok seqOk) fol 60 30) 4 (awake_run _ _ _)

end Go.Proofs.YticoedgefeeikaaGreat
