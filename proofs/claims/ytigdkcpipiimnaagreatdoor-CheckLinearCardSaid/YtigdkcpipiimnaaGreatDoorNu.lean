/- The numbers of this seat's functions and types that the machine asks for, and what guard.Try hands back of a function that fails. Conditions: none. -/
import Derived.Test.YtigdkcpipiimnaaGreatDoorEngD
import Derived.Test.YtigdkcpipiimnaaGreatDoorProg
import Derived.WalkKit
import Derived.ProofKit
import Derived.OpenShut
import Derived.Defers
import Derived.Recover
import Derived.WalkLawsBesides
namespace Go.Proofs.YtigdkcpipiimnaaGreatDoor
open Go.Eng Go.RowKit

theorem fol : Tryz.prog.follows .mixedOrders = true := by kernel_rfl

def extT : ExtTab := [(361, .fromBits), (362, .bits), (369, .bits), (284, .st), (283, (.cas .u64)), (280, (.ld .u64))]
theorem extOk : ExtsOk Tryz.prog extT :=
  ⟨⟨_, Tryz.func361, by kernel_rfl, by kernel_rfl, by kernel_rfl, by kernel_rfl⟩,
   ⟨_, Tryz.func362, by kernel_rfl, by kernel_rfl, by kernel_rfl, by kernel_rfl⟩,
   ⟨_, Tryz.func369, by kernel_rfl, by kernel_rfl, by kernel_rfl, by kernel_rfl⟩,
   ⟨_, Tryz.func284, by kernel_rfl, by kernel_rfl, by kernel_rfl, by kernel_rfl⟩,
   ⟨_, Tryz.func283, by kernel_rfl, by kernel_rfl, by kernel_rfl, by kernel_rfl⟩,
   ⟨_, Tryz.func280, by kernel_rfl, by kernel_rfl, by kernel_rfl, by kernel_rfl⟩, trivial⟩

def ra : Go.Shelf.Ren := ⟨fun | 11 => 298 | n => n, fun | 0 => 0 | 24 => 42 | 26 => 32 | 28 => 374 | 33 => 55 | n => n, fun n => n⟩
theorem la : LaysQ.n11 .u64 Tryz.prog ra := {
  mixed := fol
  f11 := ⟨Tryz.f298.name, by kernel_rfl, by kernel_rfl⟩
  t0 := by kernel_rfl
  a0 := Tryz.isAgg0
  z0 := Tryz.sizeOf0
  v0 := Tryz.zeroValue0
  t24 := by kernel_rfl
  a24 := Tryz.isAgg42
  z24 := Tryz.sizeOf42
  v24 := Tryz.zeroValue42
  t26 := by kernel_rfl
  a26 := Tryz.isAgg32
  z26 := Tryz.sizeOf32
  v26 := Tryz.zeroValue32
  t28 := by kernel_rfl
  a28 := Tryz.isAgg374
  z28 := Tryz.sizeOf374
  v28 := Tryz.zeroValue374
  i26 := by kernel_rfl }

def rk292 : Go.Shelf.Ren := ⟨fun | 10 => 292 | n => n, fun | 0 => 0 | 3 => 32 | 4 => 4 | 23 => 258 | 26 => 32 | 33 => 55 | n => n, fun n => n⟩
theorem lk292 : LaysQ.n10 .u64 Tryz.prog rk292 := {
  mixed := fol
  f10 := ⟨Tryz.f292.name, by kernel_rfl, by kernel_rfl⟩
  t0 := by kernel_rfl
  a0 := Tryz.isAgg0
  z0 := Tryz.sizeOf0
  v0 := Tryz.zeroValue0
  t4 := by kernel_rfl
  a4 := Tryz.isAgg4
  z4 := Tryz.sizeOf4
  v4 := Tryz.zeroValue4
  t23 := by kernel_rfl
  a23 := Tryz.isAgg258
  z23 := Tryz.sizeOf258
  v23 := Tryz.zeroValue258
  t26 := by kernel_rfl
  a26 := Tryz.isAgg32
  z26 := Tryz.sizeOf32
  v26 := Tryz.zeroValue32
  t33 := by kernel_rfl
  a33 := Tryz.isAgg55
  z33 := Tryz.sizeOf55
  v33 := Tryz.zeroValue55 }

def seqT : SeqTab := [⟨298, 292, .u64, 32⟩]
theorem seqOk : SeqsOk Tryz.prog seqT := ⟨⟨rk292, ra, lk292, la, rfl, rfl, rfl⟩, trivial⟩

def laysJoin_ren : Go.Shelf.Ren := ⟨fun | 156 => 332 | 165 => 338 | 166 => 339 | 169 => 340 | 240 => 350 | 241 => 351 | 276 => 359 | 277 => 360 | n => n, fun | 31 => 311 | 9 => 9 | 3 => 3 | 4 => 4 | 0 => 0 | 20 => 20 | 72 => 426 | 76 => 430 | 70 => 424 | 37 => 210 | 75 => 429 | 127 => 440 | 164 => 444 | 5 => 5 | 80 => 312 | n => n, fun | n => n⟩
theorem laysJoin : Go.Proofs.Lays.n156 Tryz.prog laysJoin_ren := {
  mixed := by kernel_rfl
  f156 := Tryz.func332.trans (congrArg some (by kernel_rfl))
  f165 := Tryz.func338.trans (congrArg some (by kernel_rfl))
  f166 := Tryz.func339.trans (congrArg some (by kernel_rfl))
  f169 := Tryz.func340.trans (congrArg some (by kernel_rfl))
  f240 := Tryz.func350.trans (congrArg some (by kernel_rfl))
  f241 := Tryz.func351.trans (congrArg some (by kernel_rfl))
  f276 := Tryz.func359.trans (congrArg some (by kernel_rfl))
  f277 := Tryz.func360.trans (congrArg some (by kernel_rfl))
  t0 := Tryz.underlying0
  a0 := Tryz.isAgg0
  z0 := Tryz.sizeOf0
  v0 := Tryz.zeroValue0
  t3 := Tryz.underlying3
  a3 := Tryz.isAgg3
  z3 := Tryz.sizeOf3
  v3 := Tryz.zeroValue3
  t4 := Tryz.underlying4
  a4 := Tryz.isAgg4
  z4 := Tryz.sizeOf4
  v4 := Tryz.zeroValue4
  t9 := Tryz.underlying9
  a9 := Tryz.isAgg9
  z9 := Tryz.sizeOf9
  v9 := Tryz.zeroValue9
  t20 := Tryz.underlying20
  a20 := Tryz.isAgg20
  z20 := Tryz.sizeOf20
  v20 := Tryz.zeroValue20
  t31 := Tryz.underlying311
  a31 := Tryz.isAgg311
  z31 := Tryz.sizeOf311
  v31 := Tryz.zeroValue311
  t37 := Tryz.underlying210
  a37 := Tryz.isAgg210
  z37 := Tryz.sizeOf210
  v37 := Tryz.zeroValue210
  t70 := Tryz.underlying424
  a70 := Tryz.isAgg424
  z70 := Tryz.sizeOf424
  v70 := Tryz.zeroValue424
  t72 := Tryz.underlying426
  a72 := Tryz.isAgg426
  z72 := Tryz.sizeOf426
  v72 := Tryz.zeroValue426
  t75 := Tryz.underlying429
  a75 := Tryz.isAgg429
  z75 := Tryz.sizeOf429
  v75 := Tryz.zeroValue429
  t76 := Tryz.underlying430
  a76 := Tryz.isAgg430
  z76 := Tryz.sizeOf430
  v76 := Tryz.zeroValue430
  t127 := Tryz.underlying440
  a127 := Tryz.isAgg440
  z127 := Tryz.sizeOf440
  v127 := Tryz.zeroValue440
  t164 := Tryz.underlying444
  a164 := Tryz.isAgg444
  z164 := Tryz.sizeOf444
  v164 := Tryz.zeroValue444 }
def delL_ren : Go.Shelf.Ren := ⟨fun | 45 => 261 | n => n, fun | 22 => 42 | 23 => 32 | 3 => 3 | 4 => 4 | 0 => 0 | n => n, fun | n => n⟩
theorem delL : Go.Proofs.SlLaysE.n45 Tryz.prog delL_ren := {
  mixed := by kernel_rfl
  f45 := ⟨Tryz.f261.name, by decide, Tryz.func261.trans (congrArg some (by kernel_rfl))⟩
  t0 := Tryz.underlying0
  a0 := Tryz.isAgg0
  z0 := Tryz.sizeOf0
  v0 := Tryz.zeroValue0
  t3 := Tryz.underlying3
  a3 := Tryz.isAgg3
  z3 := Tryz.sizeOf3
  v3 := Tryz.zeroValue3
  t4 := Tryz.underlying4
  a4 := Tryz.isAgg4
  z4 := Tryz.sizeOf4
  v4 := Tryz.zeroValue4
  t22 := Tryz.underlying42
  a22 := Tryz.isAgg42
  z22 := Tryz.sizeOf42
  v22 := Tryz.zeroValue42
  a23 := Tryz.isAgg32
  z23 := Tryz.sizeOf32 }
theorem joinX : Builder.Extra Tryz.prog laysJoin_ren := {
  sizeBuilder := by kernel_rfl
  liesBuilder := by kernel_rfl
  t5 := by kernel_rfl
  a5 := Tryz.isAgg5
  z5 := Tryz.sizeOf5
  v5 := Tryz.zeroValue5
  infoByte := by kernel_rfl
  cellsByte := by kernel_rfl
  sizeByte := by kernel_rfl
  neB5 := by decide }
theorem joinOk : JoinAt Tryz.prog 332 := ⟨_, laysJoin, joinX, rfl⟩

theorem infoU : ∃ i0, Tryz.prog.info? 32 = some i0 ∧ i0.size = 1 := by
  have h : (Tryz.prog.info? 32).map (·.size) = some 1 := by kernel_rfl
  cases e : Tryz.prog.info? 32 with
  | none => rw [e] at h; cases h
  | some i => rw [e] at h; exact ⟨i, rfl, Option.some.inj h⟩
theorem delOk : DelAt Tryz.prog 261 .u64 := ⟨⟨delL_ren, delL, Tryz.zeroValue32, infoU, rfl⟩⟩

abbrev failV : Value := .iface 506 (.agg #[.int .i64 6])

theorem must_six (w : World) : Calls Tryz.prog 421 #[.int .i64 6] w fun e w' => e = .panicked [{ v := failV, recovered := false }] ∧ w' = w := by
  go_enter Tryz.func421, Tryz.ntmps421
  go_wp2
  exact ⟨rfl, rfl, rfl⟩

theorem lit_six (w : World) : Calls Tryz.prog 420 #[] w fun e w' => e = .panicked [{ v := failV, recovered := false }] ∧ w' = w := by
  go_enter Tryz.func420, Tryz.ntmps420
  go_wp2_with (go_at_call 421; refine (must_six _).mono ?_; rintro e w' ⟨rfl, rfl⟩)
  exact ⟨rfl, rfl, rfl⟩

theorem catch_panicking (p q : Addr) (u : TypeId) (pv z : Value) (older : List PanicEntry) (w : World) (hp : w.cell? p = some (.bool true)) (hc : w.cell? q = some z) (hz : w.frozen? q = false) :
    CallsD Tryz.prog 425 #[.pointer (some p), .pointer (some q)] (.panicking ({ v := .iface u pv, recovered := false } :: older)) w fun e u' w' =>
      e = .returned (.tuple #[]) ∧ u' = .panicking ({ v := .iface u pv, recovered := true } :: older) ∧ w' = w.setCell q (.iface u pv) := by
  refine callsD_of_wpS Tryz.func425 rfl fun c₀ cs hu => ?_
  apply wpS_seq
  apply wpS_region
  simp [wpOpsS, go_sem, Tryz.ntmps425, Exit.thenS, hp]
  refine wpS_cond (t := true) (by simp [Act.eval, Array.replicate]) ?_
  simp only [if_true]
  apply wpS_region
  simp [wpOpsS, go_sem, recoverD, hu, hc, hz, bodyPostS, results, Tryz.results425]

theorem try_six (w : World) : Calls Tryz.prog 423 #[.func (.func 420) #[] #[]] w fun e w' => e = .returned (.tuple #[failV, .bool true]) ∧ Below w.heap.size w w' := by
  have hmf : ∀ (fn : Fn) (first cap : Array Value) (w : World), (Instr.makeFunc fn first cap).run Tryz.prog w = .ok (.func fn first cap) w := fun _ _ _ _ => rfl
  have hnil : ∀ w : World, (binOp BinOp.eql 1 (.func (.func 420) #[] #[]) .nilFunc).run Tryz.prog w = .ok (.bool false) w := fun _ => by kernel_rfl
  go_enter_defers Tryz.func423, Tryz.ntmps423
  go_wp2_with (go_at_call 420; refine (lit_six _).mono ?_; rintro e w' ⟨rfl, rfl⟩)
  refine leaves_cons (f := 425) (args := #[.pointer (some ⟨w.heap.size + 1, 0, none⟩), .pointer (some ⟨w.heap.size, 0, none⟩)]) (by simp) (by simp [go_sem]) ?_
  refine (catch_panicking ⟨w.heap.size + 1, 0, none⟩ ⟨w.heap.size, 0, none⟩ 506 _ .nilIface [] _ ?_ ?_ ?_).mono ?_
  · simp [go_sem]
  · simp [go_sem]
  · simp [go_sem]
  rintro e u' w'' ⟨rfl, rfl, rfl⟩
  simp [Leaves, settle, results, Tryz.results423, go_sem]
  exact ((Below.refl _ w).alloc (Nat.le_refl _) _).alloc (by simp) _


def tryE : LitEnt := ⟨423, [.func (.func 420) #[] #[]], .tuple #[failV, .bool true]⟩
theorem tryOk : ∀ w, Calls Tryz.prog tryE.f tryE.args.toArray w fun en w' => en = .returned tryE.res ∧ Below w.heap.size w w' := try_six

def orc : CallF := orElse (seqOracle seqT) (orElse (joinOracle 332) (orElse (delOracle 261 .u64) (litOracle tryE)))
theorem orc_ok {K : Fix} : CallOk Tryz.prog K orc := orElse_ok (seqOracle_ok seqOk) (orElse_ok (joinOracle_ok joinOk) (orElse_ok (delOracle_ok delOk) (litOracle_ok tryOk)))

end Go.Proofs.YtigdkcpipiimnaaGreatDoor
