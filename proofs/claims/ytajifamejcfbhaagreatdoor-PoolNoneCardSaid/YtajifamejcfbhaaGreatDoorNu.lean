/- The numbers of this seat's functions and types that the machine asks for, and what guard.Try hands back of a function that fails. Conditions: none. -/
import Derived.Test.YtajifamejcfbhaaGreatDoorEngD
import Derived.Test.YtajifamejcfbhaaGreatDoorProg
import Derived.WalkKit
import Derived.ProofKit
import Derived.OpenShut
import Derived.Defers
import Derived.Recover
import Derived.WalkLawsBesides
namespace Go.Proofs.YtajifamejcfbhaaGreatDoor
open Go.Eng Go.RowKit

theorem fol : Tryz.prog.follows .mixedOrders = true := by kernel_rfl

def extT : ExtTab := [(334, .fromBits), (335, .bits), (342, .bits), (227, .st), (253, (.cas .u64)), (228, (.ld .u64))]
theorem extOk : ExtsOk Tryz.prog extT :=
  ⟨⟨_, Tryz.func334, by kernel_rfl, by kernel_rfl, by kernel_rfl, by kernel_rfl⟩,
   ⟨_, Tryz.func335, by kernel_rfl, by kernel_rfl, by kernel_rfl, by kernel_rfl⟩,
   ⟨_, Tryz.func342, by kernel_rfl, by kernel_rfl, by kernel_rfl, by kernel_rfl⟩,
   ⟨_, Tryz.func227, by kernel_rfl, by kernel_rfl, by kernel_rfl, by kernel_rfl⟩,
   ⟨_, Tryz.func253, by kernel_rfl, by kernel_rfl, by kernel_rfl, by kernel_rfl⟩,
   ⟨_, Tryz.func228, by kernel_rfl, by kernel_rfl, by kernel_rfl, by kernel_rfl⟩, trivial⟩

def ra : Go.Shelf.Ren := ⟨fun | 11 => 267 | n => n, fun | 0 => 0 | 24 => 55 | 26 => 24 | 28 => 319 | 33 => 144 | n => n, fun n => n⟩
theorem la : LaysQ.n11 .u64 Tryz.prog ra := {
  mixed := fol
  f11 := ⟨Tryz.f267.name, by kernel_rfl, by kernel_rfl⟩
  t0 := by kernel_rfl
  a0 := Tryz.isAgg0
  z0 := Tryz.sizeOf0
  v0 := Tryz.zeroValue0
  t24 := by kernel_rfl
  a24 := Tryz.isAgg55
  z24 := Tryz.sizeOf55
  v24 := Tryz.zeroValue55
  t26 := by kernel_rfl
  a26 := Tryz.isAgg24
  z26 := Tryz.sizeOf24
  v26 := Tryz.zeroValue24
  t28 := by kernel_rfl
  a28 := Tryz.isAgg319
  z28 := Tryz.sizeOf319
  v28 := Tryz.zeroValue319
  i26 := by kernel_rfl }

def rk261 : Go.Shelf.Ren := ⟨fun | 10 => 261 | n => n, fun | 0 => 0 | 3 => 24 | 4 => 4 | 23 => 209 | 26 => 24 | 33 => 144 | n => n, fun n => n⟩
theorem lk261 : LaysQ.n10 .u64 Tryz.prog rk261 := {
  mixed := fol
  f10 := ⟨Tryz.f261.name, by kernel_rfl, by kernel_rfl⟩
  t0 := by kernel_rfl
  a0 := Tryz.isAgg0
  z0 := Tryz.sizeOf0
  v0 := Tryz.zeroValue0
  t4 := by kernel_rfl
  a4 := Tryz.isAgg4
  z4 := Tryz.sizeOf4
  v4 := Tryz.zeroValue4
  t23 := by kernel_rfl
  a23 := Tryz.isAgg209
  z23 := Tryz.sizeOf209
  v23 := Tryz.zeroValue209
  t26 := by kernel_rfl
  a26 := Tryz.isAgg24
  z26 := Tryz.sizeOf24
  v26 := Tryz.zeroValue24
  t33 := by kernel_rfl
  a33 := Tryz.isAgg144
  z33 := Tryz.sizeOf144
  v33 := Tryz.zeroValue144 }

def seqT : SeqTab := [⟨267, 261, .u64, 24⟩]
theorem seqOk : SeqsOk Tryz.prog seqT := ⟨⟨rk261, ra, lk261, la, rfl, rfl, rfl⟩, trivial⟩

def laysJoin_ren : Go.Shelf.Ren := ⟨fun | 156 => 305 | 165 => 311 | 166 => 312 | 169 => 313 | 240 => 323 | 241 => 324 | 276 => 332 | 277 => 333 | n => n, fun | 31 => 95 | 9 => 9 | 3 => 3 | 4 => 4 | 0 => 0 | 20 => 20 | 72 => 378 | 76 => 382 | 70 => 376 | 37 => 143 | 75 => 381 | 127 => 392 | 164 => 396 | 5 => 5 | 80 => 94 | n => n, fun | n => n⟩
theorem laysJoin : Go.Proofs.Lays.n156 Tryz.prog laysJoin_ren := {
  mixed := by kernel_rfl
  f156 := Tryz.func305.trans (congrArg some (by kernel_rfl))
  f165 := Tryz.func311.trans (congrArg some (by kernel_rfl))
  f166 := Tryz.func312.trans (congrArg some (by kernel_rfl))
  f169 := Tryz.func313.trans (congrArg some (by kernel_rfl))
  f240 := Tryz.func323.trans (congrArg some (by kernel_rfl))
  f241 := Tryz.func324.trans (congrArg some (by kernel_rfl))
  f276 := Tryz.func332.trans (congrArg some (by kernel_rfl))
  f277 := Tryz.func333.trans (congrArg some (by kernel_rfl))
  t0 := Tryz.underlying0
  a0 := Tryz.isAgg0
  z0 := Tryz.sizeOf0
  v0 := Tryz.zeroValue0
  t3 := Tryz.underlying3
  a3 := Tryz.isAgg3
  z3 := Tryz.sizeOf3
  v3 := Tryz.zeroValue3
  t4 := Tryz.underlying4
  a4 := Tryz.isAgg4
  z4 := Tryz.sizeOf4
  v4 := Tryz.zeroValue4
  t9 := Tryz.underlying9
  a9 := Tryz.isAgg9
  z9 := Tryz.sizeOf9
  v9 := Tryz.zeroValue9
  t20 := Tryz.underlying20
  a20 := Tryz.isAgg20
  z20 := Tryz.sizeOf20
  v20 := Tryz.zeroValue20
  t31 := Tryz.underlying95
  a31 := Tryz.isAgg95
  z31 := Tryz.sizeOf95
  v31 := Tryz.zeroValue95
  t37 := Tryz.underlying143
  a37 := Tryz.isAgg143
  z37 := Tryz.sizeOf143
  v37 := Tryz.zeroValue143
  t70 := Tryz.underlying376
  a70 := Tryz.isAgg376
  z70 := Tryz.sizeOf376
  v70 := Tryz.zeroValue376
  t72 := Tryz.underlying378
  a72 := Tryz.isAgg378
  z72 := Tryz.sizeOf378
  v72 := Tryz.zeroValue378
  t75 := Tryz.underlying381
  a75 := Tryz.isAgg381
  z75 := Tryz.sizeOf381
  v75 := Tryz.zeroValue381
  t76 := Tryz.underlying382
  a76 := Tryz.isAgg382
  z76 := Tryz.sizeOf382
  v76 := Tryz.zeroValue382
  t127 := Tryz.underlying392
  a127 := Tryz.isAgg392
  z127 := Tryz.sizeOf392
  v127 := Tryz.zeroValue392
  t164 := Tryz.underlying396
  a164 := Tryz.isAgg396
  z164 := Tryz.sizeOf396
  v164 := Tryz.zeroValue396 }
def delL_ren : Go.Shelf.Ren := ⟨fun | 45 => 234 | n => n, fun | 22 => 55 | 23 => 24 | 3 => 3 | 4 => 4 | 0 => 0 | n => n, fun | n => n⟩
theorem delL : Go.Proofs.SlLaysE.n45 Tryz.prog delL_ren := {
  mixed := by kernel_rfl
  f45 := ⟨Tryz.f234.name, by decide, Tryz.func234.trans (congrArg some (by kernel_rfl))⟩
  t0 := Tryz.underlying0
  a0 := Tryz.isAgg0
  z0 := Tryz.sizeOf0
  v0 := Tryz.zeroValue0
  t3 := Tryz.underlying3
  a3 := Tryz.isAgg3
  z3 := Tryz.sizeOf3
  v3 := Tryz.zeroValue3
  t4 := Tryz.underlying4
  a4 := Tryz.isAgg4
  z4 := Tryz.sizeOf4
  v4 := Tryz.zeroValue4
  t22 := Tryz.underlying55
  a22 := Tryz.isAgg55
  z22 := Tryz.sizeOf55
  v22 := Tryz.zeroValue55
  a23 := Tryz.isAgg24
  z23 := Tryz.sizeOf24 }
theorem joinX : Builder.Extra Tryz.prog laysJoin_ren := {
  sizeBuilder := by kernel_rfl
  liesBuilder := by kernel_rfl
  t5 := by kernel_rfl
  a5 := Tryz.isAgg5
  z5 := Tryz.sizeOf5
  v5 := Tryz.zeroValue5
  infoByte := by kernel_rfl
  cellsByte := by kernel_rfl
  sizeByte := by kernel_rfl
  neB5 := by decide }
theorem joinOk : JoinAt Tryz.prog 305 := ⟨_, laysJoin, joinX, rfl⟩

theorem infoU : ∃ i0, Tryz.prog.info? 24 = some i0 ∧ i0.size = 1 := by
  have h : (Tryz.prog.info? 24).map (·.size) = some 1 := by kernel_rfl
  cases e : Tryz.prog.info? 24 with
  | none => rw [e] at h; cases h
  | some i => rw [e] at h; exact ⟨i, rfl, Option.some.inj h⟩
theorem delOk : DelAt Tryz.prog 234 .u64 := ⟨⟨delL_ren, delL, Tryz.zeroValue24, infoU, rfl⟩⟩

abbrev failV : Value := .iface 452 (.agg #[.int .i64 6])

theorem must_six (w : World) : Calls Tryz.prog 391 #[.int .i64 6] w fun e w' => e = .panicked [{ v := failV, recovered := false }] ∧ w' = w := by
  go_enter Tryz.func391, Tryz.ntmps391
  go_wp2
  exact ⟨rfl, rfl, rfl⟩

theorem lit_six (w : World) : Calls Tryz.prog 390 #[] w fun e w' => e = .panicked [{ v := failV, recovered := false }] ∧ w' = w := by
  go_enter Tryz.func390, Tryz.ntmps390
  go_wp2_with (go_at_call 391; refine (must_six _).mono ?_; rintro e w' ⟨rfl, rfl⟩)
  exact ⟨rfl, rfl, rfl⟩

theorem catch_panicking (p q : Addr) (u : TypeId) (pv z : Value) (older : List PanicEntry) (w : World) (hp : w.cell? p = some (.bool true)) (hc : w.cell? q = some z) (hz : w.frozen? q = false) :
    CallsD Tryz.prog 395 #[.pointer (some p), .pointer (some q)] (.panicking ({ v := .iface u pv, recovered := false } :: older)) w fun e u' w' =>
      e = .returned (.tuple #[]) ∧ u' = .panicking ({ v := .iface u pv, recovered := true } :: older) ∧ w' = w.setCell q (.iface u pv) := by
  refine callsD_of_wpS Tryz.func395 rfl fun c₀ cs hu => ?_
  apply wpS_seq
  apply wpS_region
  simp [wpOpsS, go_sem, Tryz.ntmps395, Exit.thenS, hp]
  refine wpS_cond (t := true) (by simp [Act.eval, Array.replicate]) ?_
  simp only [if_true]
  apply wpS_region
  simp [wpOpsS, go_sem, recoverD, hu, hc, hz, bodyPostS, results, Tryz.results395]

theorem try_six (w : World) : Calls Tryz.prog 393 #[.func (.func 390) #[] #[]] w fun e w' => e = .returned (.tuple #[failV, .bool true]) ∧ Below w.heap.size w w' := by
  have hmf : ∀ (fn : Fn) (first cap : Array Value) (w : World), (Instr.makeFunc fn first cap).run Tryz.prog w = .ok (.func fn first cap) w := fun _ _ _ _ => rfl
  have hnil : ∀ w : World, (binOp BinOp.eql 1 (.func (.func 390) #[] #[]) .nilFunc).run Tryz.prog w = .ok (.bool false) w := fun _ => by kernel_rfl
  go_enter_defers Tryz.func393, Tryz.ntmps393
  go_wp2_with (go_at_call 390; refine (lit_six _).mono ?_; rintro e w' ⟨rfl, rfl⟩)
  refine leaves_cons (f := 395) (args := #[.pointer (some ⟨w.heap.size + 1, 0, none⟩), .pointer (some ⟨w.heap.size, 0, none⟩)]) (by simp) (by simp [go_sem]) ?_
  refine (catch_panicking ⟨w.heap.size + 1, 0, none⟩ ⟨w.heap.size, 0, none⟩ 452 _ .nilIface [] _ ?_ ?_ ?_).mono ?_
  · simp [go_sem]
  · simp [go_sem]
  · simp [go_sem]
  rintro e u' w'' ⟨rfl, rfl, rfl⟩
  simp [Leaves, settle, results, Tryz.results393, go_sem]
  exact ((Below.refl _ w).alloc (Nat.le_refl _) _).alloc (by simp) _


def tryE : LitEnt := ⟨393, [.func (.func 390) #[] #[]], .tuple #[failV, .bool true]⟩
theorem tryOk : ∀ w, Calls Tryz.prog tryE.f tryE.args.toArray w fun en w' => en = .returned tryE.res ∧ Below w.heap.size w w' := try_six

def orc : CallF := orElse (seqOracle seqT) (orElse (joinOracle 305) (orElse (delOracle 234 .u64) (litOracle tryE)))
theorem orc_ok {K : Fix} : CallOk Tryz.prog K orc := orElse_ok (seqOracle_ok seqOk) (orElse_ok (joinOracle_ok joinOk) (orElse_ok (delOracle_ok delOk) (litOracle_ok tryOk)))

end Go.Proofs.YtajifamejcfbhaaGreatDoor
