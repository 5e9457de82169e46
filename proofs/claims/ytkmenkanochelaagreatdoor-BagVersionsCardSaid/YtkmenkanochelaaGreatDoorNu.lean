/- The numbers of this seat's functions and types that the machine asks for, and what guard.Try hands back of a function that fails. Conditions: none. -/
import Derived.Test.YtkmenkanochelaaGreatDoorEngD
import Derived.Test.YtkmenkanochelaaGreatDoorProg
import Derived.WalkKit
import Derived.ProofKit
import Derived.OpenShut
import Derived.Defers
import Derived.Recover
import Derived.WalkLawsBesides
namespace Go.Proofs.YtkmenkanochelaaGreatDoor
open Go.Eng Go.RowKit

theorem fol : Tryz.prog.follows .mixedOrders = true := by kernel_rfl

def extT : ExtTab := [(95, .fromBits), (96, .bits), (115, .bits), (27, .st), (31, (.cas .u64)), (28, (.ld .u64))]
theorem extOk : ExtsOk Tryz.prog extT :=
  ⟨⟨_, Tryz.func95, by kernel_rfl, by kernel_rfl, by kernel_rfl, by kernel_rfl⟩,
   ⟨_, Tryz.func96, by kernel_rfl, by kernel_rfl, by kernel_rfl, by kernel_rfl⟩,
   ⟨_, Tryz.func115, by kernel_rfl, by kernel_rfl, by kernel_rfl, by kernel_rfl⟩,
   ⟨_, Tryz.func27, by kernel_rfl, by kernel_rfl, by kernel_rfl, by kernel_rfl⟩,
   ⟨_, Tryz.func31, by kernel_rfl, by kernel_rfl, by kernel_rfl, by kernel_rfl⟩,
   ⟨_, Tryz.func28, by kernel_rfl, by kernel_rfl, by kernel_rfl, by kernel_rfl⟩, trivial⟩

def ra : Go.Shelf.Ren := ⟨fun | 11 => 85 | n => n, fun | 0 => 0 | 24 => 42 | 26 => 23 | 28 => 111 | 33 => 136 | n => n, fun n => n⟩
theorem la : LaysQ.n11 .u64 Tryz.prog ra := {
  mixed := fol
  f11 := ⟨Tryz.f85.name, by kernel_rfl, by kernel_rfl⟩
  t0 := by kernel_rfl
  a0 := Tryz.isAgg0
  z0 := Tryz.sizeOf0
  v0 := Tryz.zeroValue0
  t24 := by kernel_rfl
  a24 := Tryz.isAgg42
  z24 := Tryz.sizeOf42
  v24 := Tryz.zeroValue42
  t26 := by kernel_rfl
  a26 := Tryz.isAgg23
  z26 := Tryz.sizeOf23
  v26 := Tryz.zeroValue23
  t28 := by kernel_rfl
  a28 := Tryz.isAgg111
  z28 := Tryz.sizeOf111
  v28 := Tryz.zeroValue111
  i26 := by kernel_rfl }

def rk71 : Go.Shelf.Ren := ⟨fun | 10 => 71 | n => n, fun | 0 => 0 | 3 => 23 | 4 => 4 | 23 => 90 | 26 => 23 | 33 => 136 | n => n, fun n => n⟩
theorem lk71 : LaysQ.n10 .u64 Tryz.prog rk71 := {
  mixed := fol
  f10 := ⟨Tryz.f71.name, by kernel_rfl, by kernel_rfl⟩
  t0 := by kernel_rfl
  a0 := Tryz.isAgg0
  z0 := Tryz.sizeOf0
  v0 := Tryz.zeroValue0
  t4 := by kernel_rfl
  a4 := Tryz.isAgg4
  z4 := Tryz.sizeOf4
  v4 := Tryz.zeroValue4
  t23 := by kernel_rfl
  a23 := Tryz.isAgg90
  z23 := Tryz.sizeOf90
  v23 := Tryz.zeroValue90
  t26 := by kernel_rfl
  a26 := Tryz.isAgg23
  z26 := Tryz.sizeOf23
  v26 := Tryz.zeroValue23
  t33 := by kernel_rfl
  a33 := Tryz.isAgg136
  z33 := Tryz.sizeOf136
  v33 := Tryz.zeroValue136 }

def seqT : SeqTab := [⟨85, 71, .u64, 23⟩]
theorem seqOk : SeqsOk Tryz.prog seqT := ⟨⟨rk71, ra, lk71, la, rfl, rfl, rfl⟩, trivial⟩

def laysJoin_ren : Go.Shelf.Ren := ⟨fun | 156 => 46 | 165 => 58 | 166 => 59 | 169 => 60 | 240 => 78 | 241 => 79 | 276 => 93 | 277 => 94 | n => n, fun | 31 => 103 | 9 => 9 | 3 => 3 | 4 => 4 | 0 => 0 | 20 => 20 | 72 => 119 | 76 => 123 | 70 => 116 | 37 => 117 | 75 => 122 | 127 => 144 | 164 => 158 | 5 => 5 | 80 => 125 | n => n, fun | n => n⟩
theorem laysJoin : Go.Proofs.Lays.n156 Tryz.prog laysJoin_ren := {
  mixed := by kernel_rfl
  f156 := Tryz.func46.trans (congrArg some (by kernel_rfl))
  f165 := Tryz.func58.trans (congrArg some (by kernel_rfl))
  f166 := Tryz.func59.trans (congrArg some (by kernel_rfl))
  f169 := Tryz.func60.trans (congrArg some (by kernel_rfl))
  f240 := Tryz.func78.trans (congrArg some (by kernel_rfl))
  f241 := Tryz.func79.trans (congrArg some (by kernel_rfl))
  f276 := Tryz.func93.trans (congrArg some (by kernel_rfl))
  f277 := Tryz.func94.trans (congrArg some (by kernel_rfl))
  t0 := Tryz.underlying0
  a0 := Tryz.isAgg0
  z0 := Tryz.sizeOf0
  v0 := Tryz.zeroValue0
  t3 := Tryz.underlying3
  a3 := Tryz.isAgg3
  z3 := Tryz.sizeOf3
  v3 := Tryz.zeroValue3
  t4 := Tryz.underlying4
  a4 := Tryz.isAgg4
  z4 := Tryz.sizeOf4
  v4 := Tryz.zeroValue4
  t9 := Tryz.underlying9
  a9 := Tryz.isAgg9
  z9 := Tryz.sizeOf9
  v9 := Tryz.zeroValue9
  t20 := Tryz.underlying20
  a20 := Tryz.isAgg20
  z20 := Tryz.sizeOf20
  v20 := Tryz.zeroValue20
  t31 := Tryz.underlying103
  a31 := Tryz.isAgg103
  z31 := Tryz.sizeOf103
  v31 := Tryz.zeroValue103
  t37 := Tryz.underlying117
  a37 := Tryz.isAgg117
  z37 := Tryz.sizeOf117
  v37 := Tryz.zeroValue117
  t70 := Tryz.underlying116
  a70 := Tryz.isAgg116
  z70 := Tryz.sizeOf116
  v70 := Tryz.zeroValue116
  t72 := Tryz.underlying119
  a72 := Tryz.isAgg119
  z72 := Tryz.sizeOf119
  v72 := Tryz.zeroValue119
  t75 := Tryz.underlying122
  a75 := Tryz.isAgg122
  z75 := Tryz.sizeOf122
  v75 := Tryz.zeroValue122
  t76 := Tryz.underlying123
  a76 := Tryz.isAgg123
  z76 := Tryz.sizeOf123
  v76 := Tryz.zeroValue123
  t127 := Tryz.underlying144
  a127 := Tryz.isAgg144
  z127 := Tryz.sizeOf144
  v127 := Tryz.zeroValue144
  t164 := Tryz.underlying158
  a164 := Tryz.isAgg158
  z164 := Tryz.sizeOf158
  v164 := Tryz.zeroValue158 }
theorem joinX : Builder.Extra Tryz.prog laysJoin_ren := {
  sizeBuilder := by kernel_rfl
  liesBuilder := by kernel_rfl
  t5 := by kernel_rfl
  a5 := Tryz.isAgg5
  z5 := Tryz.sizeOf5
  v5 := Tryz.zeroValue5
  infoByte := by kernel_rfl
  cellsByte := by kernel_rfl
  sizeByte := by kernel_rfl
  neB5 := by decide }
theorem joinOk : JoinAt Tryz.prog 46 := ⟨_, laysJoin, joinX, rfl⟩

abbrev failV : Value := .iface 268 (.agg #[.int .i64 6])

theorem must_six (w : World) : Calls Tryz.prog 188 #[.int .i64 6] w fun e w' => e = .panicked [{ v := failV, recovered := false }] ∧ w' = w := by
  go_enter Tryz.func188, Tryz.ntmps188
  go_wp2
  exact ⟨rfl, rfl, rfl⟩

theorem lit_six (w : World) : Calls Tryz.prog 187 #[] w fun e w' => e = .panicked [{ v := failV, recovered := false }] ∧ w' = w := by
  go_enter Tryz.func187, Tryz.ntmps187
  go_wp2_with (go_at_call 188; refine (must_six _).mono ?_; rintro e w' ⟨rfl, rfl⟩)
  exact ⟨rfl, rfl, rfl⟩

theorem catch_panicking (p q : Addr) (u : TypeId) (pv z : Value) (older : List PanicEntry) (w : World) (hp : w.cell? p = some (.bool true)) (hc : w.cell? q = some z) (hz : w.frozen? q = false) :
    CallsD Tryz.prog 194 #[.pointer (some p), .pointer (some q)] (.panicking ({ v := .iface u pv, recovered := false } :: older)) w fun e u' w' =>
      e = .returned (.tuple #[]) ∧ u' = .panicking ({ v := .iface u pv, recovered := true } :: older) ∧ w' = w.setCell q (.iface u pv) := by
  refine callsD_of_wpS Tryz.func194 rfl fun c₀ cs hu => ?_
  apply wpS_seq
  apply wpS_region
  simp [wpOpsS, go_sem, Tryz.ntmps194, Exit.thenS, hp]
  refine wpS_cond (t := true) (by simp [Act.eval, Array.replicate]) ?_
  simp only [if_true]
  apply wpS_region
  simp [wpOpsS, go_sem, recoverD, hu, hc, hz, bodyPostS, results, Tryz.results194]

theorem try_six (w : World) : Calls Tryz.prog 190 #[.func (.func 187) #[] #[]] w fun e w' => e = .returned (.tuple #[failV, .bool true]) ∧ Below w.heap.size w w' := by
  have hmf : ∀ (fn : Fn) (first cap : Array Value) (w : World), (Instr.makeFunc fn first cap).run Tryz.prog w = .ok (.func fn first cap) w := fun _ _ _ _ => rfl
  have hnil : ∀ w : World, (binOp BinOp.eql 1 (.func (.func 187) #[] #[]) .nilFunc).run Tryz.prog w = .ok (.bool false) w := fun _ => by kernel_rfl
  go_enter_defers Tryz.func190, Tryz.ntmps190
  go_wp2_with (go_at_call 187; refine (lit_six _).mono ?_; rintro e w' ⟨rfl, rfl⟩)
  refine leaves_cons (f := 194) (args := #[.pointer (some ⟨w.heap.size + 1, 0, none⟩), .pointer (some ⟨w.heap.size, 0, none⟩)]) (by simp) (by simp [go_sem]) ?_
  refine (catch_panicking ⟨w.heap.size + 1, 0, none⟩ ⟨w.heap.size, 0, none⟩ 268 _ .nilIface [] _ ?_ ?_ ?_).mono ?_
  · simp [go_sem]
  · simp [go_sem]
  · simp [go_sem]
  rintro e u' w'' ⟨rfl, rfl, rfl⟩
  simp [Leaves, settle, results, Tryz.results190, go_sem]
  exact ((Below.refl _ w).alloc (Nat.le_refl _) _).alloc (by simp) _


def tryE : LitEnt := ⟨190, [.func (.func 187) #[] #[]], .tuple #[failV, .bool true]⟩
theorem tryOk : ∀ w, Calls Tryz.prog tryE.f tryE.args.toArray w fun en w' => en = .returned tryE.res ∧ Below w.heap.size w w' := try_six

def orc : CallF := orElse (seqOracle seqT) (orElse (joinOracle 46) (litOracle tryE))
theorem orc_ok {K : Fix} : CallOk Tryz.prog K orc := orElse_ok (seqOracle_ok seqOk) (orElse_ok (joinOracle_ok joinOk) (litOracle_ok tryOk))

end Go.Proofs.YtkmenkanochelaaGreatDoor
