/- Layer 6's own example, and all the examples below it, are found true by the call of 'awake', in whatever world. Conditions: none. -/
import Derived.Test.YtlklhmahlcfnhaaEngD
import Derived.Test.YtlklhmahlcfnhaaProg
namespace Go.Proofs.Ytlklhmahlcfnhaa
open Go.Eng Go.RowKit

theorem fol : Try.prog.follows .mixedOrders = true := by kernel_rfl

def rk : Go.Shelf.Ren := ⟨fun | 10 => 48 | n => n, fun | 0 => 0 | 3 => 22 | 4 => 4 | 23 => 51 | 26 => 22 | 33 => 61 | n => n, fun n => n⟩
def ra : Go.Shelf.Ren := ⟨fun | 11 => 53 | n => n, fun | 0 => 0 | 24 => 48 | 26 => 22 | 28 => 64 | 33 => 61 | n => n, fun n => n⟩

theorem lk : LaysQ.n10 .u64 Try.prog rk where
  mixed := fol
  f10 := ⟨"maps.Keys[map[uint64]uint64,uint64,uint64]$1", by kernel_rfl, by kernel_rfl⟩
  t0 := by kernel_rfl
  a0 := Try.isAgg0
  z0 := Try.sizeOf0
  v0 := Try.zeroValue0
  t4 := by kernel_rfl
  a4 := Try.isAgg4
  z4 := Try.sizeOf4
  v4 := Try.zeroValue4
  t23 := by kernel_rfl
  a23 := Try.isAgg51
  z23 := Try.sizeOf51
  v23 := Try.zeroValue51
  t26 := by kernel_rfl
  a26 := Try.isAgg22
  z26 := Try.sizeOf22
  v26 := Try.zeroValue22
  t33 := by kernel_rfl
  a33 := Try.isAgg61
  z33 := Try.sizeOf61
  v33 := Try.zeroValue61

theorem la : LaysQ.n11 .u64 Try.prog ra where
  mixed := fol
  f11 := ⟨"slices.AppendSeq[[]uint64,uint64]", by kernel_rfl, by kernel_rfl⟩
  t0 := by kernel_rfl
  a0 := Try.isAgg0
  z0 := Try.sizeOf0
  v0 := Try.zeroValue0
  t24 := by kernel_rfl
  a24 := Try.isAgg48
  z24 := Try.sizeOf48
  v24 := Try.zeroValue48
  t26 := by kernel_rfl
  a26 := Try.isAgg22
  z26 := Try.sizeOf22
  v26 := Try.zeroValue22
  t28 := by kernel_rfl
  a28 := Try.isAgg64
  z28 := Try.sizeOf64
  v28 := Try.zeroValue64
  i26 := by kernel_rfl

def seqT : SeqTab := [⟨53, 48, .u64, 22⟩]
theorem seqOk : SeqsOk Try.prog seqT := ⟨⟨rk, ra, lk, la, rfl, rfl, rfl⟩, trivial⟩

def extT : ExtTab := [(6, .fromBits), (17, .bits), (86, .st), (91, .cas .u64), (93, .ld .u64)]
theorem extOk : ExtsOk Try.prog extT :=
  ⟨⟨_, Try.func6, by kernel_rfl, by kernel_rfl, by kernel_rfl, by kernel_rfl⟩, ⟨_, Try.func17, by kernel_rfl, by kernel_rfl, by kernel_rfl, by kernel_rfl⟩, ⟨_, Try.func86, by kernel_rfl, by kernel_rfl, by kernel_rfl, by kernel_rfl⟩,
   ⟨_, Try.func91, by kernel_rfl, by kernel_rfl, by kernel_rfl, by kernel_rfl⟩, ⟨_, Try.func93, by kernel_rfl, by kernel_rfl, by kernel_rfl, by kernel_rfl⟩, trivial⟩


set_option maxRecDepth 100000 in
theorem awake_run (n0 : Nat) (w0 : World) (h) : allTrue (evalCall Try.prog ⟨fun _ => none, n0, w0, h⟩ (extOf extT) (seqOracle seqT) 60 30 5 [] S0) = true := by kernel_rfl

theorem awake_true (w : World) : Calls Try.prog 5 #[] w fun e w' => e = .returned (.bool true) ∧ Below w.heap.size w w' :=
  calls_true ⟨fun _ => none, w.heap.size, w, fun g o h => by cases h⟩ rfl (evalCall_sound (extOf_ok extOk) (seqOracle_ok seqOk) fol 60 30) 5 (awake_run _ _ _)

end Go.Proofs.Ytlklhmahlcfnhaa
