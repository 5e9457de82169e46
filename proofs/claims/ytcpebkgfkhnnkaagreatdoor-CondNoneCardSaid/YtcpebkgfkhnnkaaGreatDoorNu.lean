/- The numbers of this seat's functions and types that the machine asks for, and what guard.Try hands back of a function that fails. Conditions: none. -/
import Derived.Test.YtcpebkgfkhnnkaaGreatDoorEngD
import Derived.Test.YtcpebkgfkhnnkaaGreatDoorProg
import Derived.WalkKit
import Derived.ProofKit
import Derived.OpenShut
import Derived.Defers
import Derived.Recover
import Derived.WalkLawsBesides
namespace Go.Proofs.YtcpebkgfkhnnkaaGreatDoor
open Go.Eng Go.RowKit

theorem fol : Tryz.prog.follows .mixedOrders = true := by kernel_rfl

def extT : ExtTab := [(391, .fromBits), (392, .bits), (399, .bits), (242, .st), (272, (.cas .u64)), (205, (.ld .u64)), (156, .clone)]
theorem extOk : ExtsOk Tryz.prog extT :=
  ⟨⟨_, Tryz.func391, by kernel_rfl, by kernel_rfl, by kernel_rfl, by kernel_rfl⟩,
   ⟨_, Tryz.func392, by kernel_rfl, by kernel_rfl, by kernel_rfl, by kernel_rfl⟩,
   ⟨_, Tryz.func399, by kernel_rfl, by kernel_rfl, by kernel_rfl, by kernel_rfl⟩,
   ⟨_, Tryz.func242, by kernel_rfl, by kernel_rfl, by kernel_rfl, by kernel_rfl⟩,
   ⟨_, Tryz.func272, by kernel_rfl, by kernel_rfl, by kernel_rfl, by kernel_rfl⟩,
   ⟨_, Tryz.func205, by kernel_rfl, by kernel_rfl, by kernel_rfl, by kernel_rfl⟩,
   ⟨_, Tryz.func156, by kernel_rfl, by kernel_rfl, by kernel_rfl, by kernel_rfl⟩, trivial⟩

def ra : Go.Shelf.Ren := ⟨fun | 11 => 159 | n => n, fun | 0 => 0 | 24 => 28 | 26 => 25 | 28 => 156 | 33 => 105 | n => n, fun n => n⟩
theorem la : LaysQ.n11 .u64 Tryz.prog ra := {
  mixed := fol
  f11 := ⟨Tryz.f159.name, by kernel_rfl, by kernel_rfl⟩
  t0 := by kernel_rfl
  a0 := Tryz.isAgg0
  z0 := Tryz.sizeOf0
  v0 := Tryz.zeroValue0
  t24 := by kernel_rfl
  a24 := Tryz.isAgg28
  z24 := Tryz.sizeOf28
  v24 := Tryz.zeroValue28
  t26 := by kernel_rfl
  a26 := Tryz.isAgg25
  z26 := Tryz.sizeOf25
  v26 := Tryz.zeroValue25
  t28 := by kernel_rfl
  a28 := Tryz.isAgg156
  z28 := Tryz.sizeOf156
  v28 := Tryz.zeroValue156
  i26 := by kernel_rfl }

def rk118 : Go.Shelf.Ren := ⟨fun | 10 => 118 | n => n, fun | 0 => 0 | 3 => 115 | 4 => 4 | 23 => 117 | 26 => 25 | 33 => 105 | n => n, fun n => n⟩
theorem lk118 : LaysQ.n10 .u64 Tryz.prog rk118 := {
  mixed := fol
  f10 := ⟨Tryz.f118.name, by kernel_rfl, by kernel_rfl⟩
  t0 := by kernel_rfl
  a0 := Tryz.isAgg0
  z0 := Tryz.sizeOf0
  v0 := Tryz.zeroValue0
  t4 := by kernel_rfl
  a4 := Tryz.isAgg4
  z4 := Tryz.sizeOf4
  v4 := Tryz.zeroValue4
  t23 := by kernel_rfl
  a23 := Tryz.isAgg117
  z23 := Tryz.sizeOf117
  v23 := Tryz.zeroValue117
  t26 := by kernel_rfl
  a26 := Tryz.isAgg25
  z26 := Tryz.sizeOf25
  v26 := Tryz.zeroValue25
  t33 := by kernel_rfl
  a33 := Tryz.isAgg105
  z33 := Tryz.sizeOf105
  v33 := Tryz.zeroValue105 }

def rk279 : Go.Shelf.Ren := ⟨fun | 10 => 279 | n => n, fun | 0 => 0 | 3 => 25 | 4 => 4 | 23 => 158 | 26 => 25 | 33 => 105 | n => n, fun n => n⟩
theorem lk279 : LaysQ.n10 .u64 Tryz.prog rk279 := {
  mixed := fol
  f10 := ⟨Tryz.f279.name, by kernel_rfl, by kernel_rfl⟩
  t0 := by kernel_rfl
  a0 := Tryz.isAgg0
  z0 := Tryz.sizeOf0
  v0 := Tryz.zeroValue0
  t4 := by kernel_rfl
  a4 := Tryz.isAgg4
  z4 := Tryz.sizeOf4
  v4 := Tryz.zeroValue4
  t23 := by kernel_rfl
  a23 := Tryz.isAgg158
  z23 := Tryz.sizeOf158
  v23 := Tryz.zeroValue158
  t26 := by kernel_rfl
  a26 := Tryz.isAgg25
  z26 := Tryz.sizeOf25
  v26 := Tryz.zeroValue25
  t33 := by kernel_rfl
  a33 := Tryz.isAgg105
  z33 := Tryz.sizeOf105
  v33 := Tryz.zeroValue105 }

def seqT : SeqTab := [⟨159, 118, .u64, 25⟩, ⟨159, 279, .u64, 25⟩]
theorem seqOk : SeqsOk Tryz.prog seqT := ⟨⟨rk118, ra, lk118, la, rfl, rfl, rfl⟩, ⟨rk279, ra, lk279, la, rfl, rfl, rfl⟩, trivial⟩

def laysJoin_ren : Go.Shelf.Ren := ⟨fun | 156 => 362 | 165 => 368 | 166 => 369 | 169 => 370 | 240 => 380 | 241 => 381 | 276 => 389 | 277 => 390 | n => n, fun | 31 => 23 | 9 => 9 | 3 => 3 | 4 => 4 | 0 => 0 | 20 => 20 | 72 => 430 | 76 => 434 | 70 => 428 | 37 => 344 | 75 => 433 | 127 => 444 | 164 => 448 | 5 => 5 | 80 => 379 | n => n, fun | n => n⟩
theorem laysJoin : Go.Proofs.Lays.n156 Tryz.prog laysJoin_ren := {
  mixed := by kernel_rfl
  f156 := Tryz.func362.trans (congrArg some (by kernel_rfl))
  f165 := Tryz.func368.trans (congrArg some (by kernel_rfl))
  f166 := Tryz.func369.trans (congrArg some (by kernel_rfl))
  f169 := Tryz.func370.trans (congrArg some (by kernel_rfl))
  f240 := Tryz.func380.trans (congrArg some (by kernel_rfl))
  f241 := Tryz.func381.trans (congrArg some (by kernel_rfl))
  f276 := Tryz.func389.trans (congrArg some (by kernel_rfl))
  f277 := Tryz.func390.trans (congrArg some (by kernel_rfl))
  t0 := Tryz.underlying0
  a0 := Tryz.isAgg0
  z0 := Tryz.sizeOf0
  v0 := Tryz.zeroValue0
  t3 := Tryz.underlying3
  a3 := Tryz.isAgg3
  z3 := Tryz.sizeOf3
  v3 := Tryz.zeroValue3
  t4 := Tryz.underlying4
  a4 := Tryz.isAgg4
  z4 := Tryz.sizeOf4
  v4 := Tryz.zeroValue4
  t9 := Tryz.underlying9
  a9 := Tryz.isAgg9
  z9 := Tryz.sizeOf9
  v9 := Tryz.zeroValue9
  t20 := Tryz.underlying20
  a20 := Tryz.isAgg20
  z20 := Tryz.sizeOf20
  v20 := Tryz.zeroValue20
  t31 := Tryz.underlying23
  a31 := Tryz.isAgg23
  z31 := Tryz.sizeOf23
  v31 := Tryz.zeroValue23
  t37 := Tryz.underlying344
  a37 := Tryz.isAgg344
  z37 := Tryz.sizeOf344
  v37 := Tryz.zeroValue344
  t70 := Tryz.underlying428
  a70 := Tryz.isAgg428
  z70 := Tryz.sizeOf428
  v70 := Tryz.zeroValue428
  t72 := Tryz.underlying430
  a72 := Tryz.isAgg430
  z72 := Tryz.sizeOf430
  v72 := Tryz.zeroValue430
  t75 := Tryz.underlying433
  a75 := Tryz.isAgg433
  z75 := Tryz.sizeOf433
  v75 := Tryz.zeroValue433
  t76 := Tryz.underlying434
  a76 := Tryz.isAgg434
  z76 := Tryz.sizeOf434
  v76 := Tryz.zeroValue434
  t127 := Tryz.underlying444
  a127 := Tryz.isAgg444
  z127 := Tryz.sizeOf444
  v127 := Tryz.zeroValue444
  t164 := Tryz.underlying448
  a164 := Tryz.isAgg448
  z164 := Tryz.sizeOf448
  v164 := Tryz.zeroValue448 }
def delL_ren : Go.Shelf.Ren := ⟨fun | 45 => 256 | n => n, fun | 22 => 28 | 23 => 25 | 3 => 3 | 4 => 4 | 0 => 0 | n => n, fun | n => n⟩
theorem delL : Go.Proofs.SlLaysE.n45 Tryz.prog delL_ren := {
  mixed := by kernel_rfl
  f45 := ⟨Tryz.f256.name, by decide, Tryz.func256.trans (congrArg some (by kernel_rfl))⟩
  t0 := Tryz.underlying0
  a0 := Tryz.isAgg0
  z0 := Tryz.sizeOf0
  v0 := Tryz.zeroValue0
  t3 := Tryz.underlying3
  a3 := Tryz.isAgg3
  z3 := Tryz.sizeOf3
  v3 := Tryz.zeroValue3
  t4 := Tryz.underlying4
  a4 := Tryz.isAgg4
  z4 := Tryz.sizeOf4
  v4 := Tryz.zeroValue4
  t22 := Tryz.underlying28
  a22 := Tryz.isAgg28
  z22 := Tryz.sizeOf28
  v22 := Tryz.zeroValue28
  a23 := Tryz.isAgg25
  z23 := Tryz.sizeOf25 }
theorem joinX : Builder.Extra Tryz.prog laysJoin_ren := {
  sizeBuilder := by kernel_rfl
  liesBuilder := by kernel_rfl
  t5 := by kernel_rfl
  a5 := Tryz.isAgg5
  z5 := Tryz.sizeOf5
  v5 := Tryz.zeroValue5
  infoByte := by kernel_rfl
  cellsByte := by kernel_rfl
  sizeByte := by kernel_rfl
  neB5 := by decide }
theorem joinOk : JoinAt Tryz.prog 362 := ⟨_, laysJoin, joinX, rfl⟩

theorem infoU : ∃ i0, Tryz.prog.info? 25 = some i0 ∧ i0.size = 1 := by
  have h : (Tryz.prog.info? 25).map (·.size) = some 1 := by kernel_rfl
  cases e : Tryz.prog.info? 25 with
  | none => rw [e] at h; cases h
  | some i => rw [e] at h; exact ⟨i, rfl, Option.some.inj h⟩
theorem delOk : DelAt Tryz.prog 256 .u64 := ⟨⟨delL_ren, delL, Tryz.zeroValue25, infoU, rfl⟩⟩

abbrev failV : Value := .iface 504 (.agg #[.int .i64 6])

theorem must_six (w : World) : Calls Tryz.prog 448 #[.int .i64 6] w fun e w' => e = .panicked [{ v := failV, recovered := false }] ∧ w' = w := by
  go_enter Tryz.func448, Tryz.ntmps448
  go_wp2
  exact ⟨rfl, rfl, rfl⟩

theorem lit_six (w : World) : Calls Tryz.prog 447 #[] w fun e w' => e = .panicked [{ v := failV, recovered := false }] ∧ w' = w := by
  go_enter Tryz.func447, Tryz.ntmps447
  go_wp2_with (go_at_call 448; refine (must_six _).mono ?_; rintro e w' ⟨rfl, rfl⟩)
  exact ⟨rfl, rfl, rfl⟩

theorem catch_panicking (p q : Addr) (u : TypeId) (pv z : Value) (older : List PanicEntry) (w : World) (hp : w.cell? p = some (.bool true)) (hc : w.cell? q = some z) (hz : w.frozen? q = false) :
    CallsD Tryz.prog 452 #[.pointer (some p), .pointer (some q)] (.panicking ({ v := .iface u pv, recovered := false } :: older)) w fun e u' w' =>
      e = .returned (.tuple #[]) ∧ u' = .panicking ({ v := .iface u pv, recovered := true } :: older) ∧ w' = w.setCell q (.iface u pv) := by
  refine callsD_of_wpS Tryz.func452 rfl fun c₀ cs hu => ?_
  apply wpS_seq
  apply wpS_region
  simp [wpOpsS, go_sem, Tryz.ntmps452, Exit.thenS, hp]
  refine wpS_cond (t := true) (by simp [Act.eval, Array.replicate]) ?_
  simp only [if_true]
  apply wpS_region
  simp [wpOpsS, go_sem, recoverD, hu, hc, hz, bodyPostS, results, Tryz.results452]

theorem try_six (w : World) : Calls Tryz.prog 450 #[.func (.func 447) #[] #[]] w fun e w' => e = .returned (.tuple #[failV, .bool true]) ∧ Below w.heap.size w w' := by
  have hmf : ∀ (fn : Fn) (first cap : Array Value) (w : World), (Instr.makeFunc fn first cap).run Tryz.prog w = .ok (.func fn first cap) w := fun _ _ _ _ => rfl
  have hnil : ∀ w : World, (binOp BinOp.eql 1 (.func (.func 447) #[] #[]) .nilFunc).run Tryz.prog w = .ok (.bool false) w := fun _ => by kernel_rfl
  go_enter_defers Tryz.func450, Tryz.ntmps450
  go_wp2_with (go_at_call 447; refine (lit_six _).mono ?_; rintro e w' ⟨rfl, rfl⟩)
  refine leaves_cons (f := 452) (args := #[.pointer (some ⟨w.heap.size + 1, 0, none⟩), .pointer (some ⟨w.heap.size, 0, none⟩)]) (by simp) (by simp [go_sem]) ?_
  refine (catch_panicking ⟨w.heap.size + 1, 0, none⟩ ⟨w.heap.size, 0, none⟩ 504 _ .nilIface [] _ ?_ ?_ ?_).mono ?_
  · simp [go_sem]
  · simp [go_sem]
  · simp [go_sem]
  rintro e u' w'' ⟨rfl, rfl, rfl⟩
  simp [Leaves, settle, results, Tryz.results450, go_sem]
  exact ((Below.refl _ w).alloc (Nat.le_refl _) _).alloc (by simp) _


def tryE : LitEnt := ⟨450, [.func (.func 447) #[] #[]], .tuple #[failV, .bool true]⟩
theorem tryOk : ∀ w, Calls Tryz.prog tryE.f tryE.args.toArray w fun en w' => en = .returned tryE.res ∧ Below w.heap.size w w' := try_six

def orc : CallF := orElse (seqOracle seqT) (orElse (joinOracle 362) (orElse (delOracle 256 .u64) (litOracle tryE)))
theorem orc_ok {K : Fix} : CallOk Tryz.prog K orc := orElse_ok (seqOracle_ok seqOk) (orElse_ok (joinOracle_ok joinOk) (orElse_ok (delOracle_ok delOk) (litOracle_ok tryOk)))

end Go.Proofs.YtcpebkgfkhnnkaaGreatDoor
