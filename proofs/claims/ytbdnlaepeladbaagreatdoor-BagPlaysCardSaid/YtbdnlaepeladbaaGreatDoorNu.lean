/- The numbers of this seat's functions and types that the machine asks for, and what guard.Try hands back of a function that fails. Conditions: none. -/
import Derived.Test.YtbdnlaepeladbaaGreatDoorEngD
import Derived.Test.YtbdnlaepeladbaaGreatDoorProg
import Derived.WalkKit
import Derived.ProofKit
import Derived.OpenShut
import Derived.Defers
import Derived.Recover
import Derived.WalkLawsBesides
namespace Go.Proofs.YtbdnlaepeladbaaGreatDoor
open Go.Eng Go.RowKit

theorem fol : Tryz.prog.follows .mixedOrders = true := by kernel_rfl

def extT : ExtTab := [(113, .fromBits), (288, .bits), (302, .bits), (210, .st), (207, (.cas .u64)), (204, (.ld .u64)), (163, .clone)]
theorem extOk : ExtsOk Tryz.prog extT :=
  ⟨⟨_, Tryz.func113, by kernel_rfl, by kernel_rfl, by kernel_rfl, by kernel_rfl⟩,
   ⟨_, Tryz.func288, by kernel_rfl, by kernel_rfl, by kernel_rfl, by kernel_rfl⟩,
   ⟨_, Tryz.func302, by kernel_rfl, by kernel_rfl, by kernel_rfl, by kernel_rfl⟩,
   ⟨_, Tryz.func210, by kernel_rfl, by kernel_rfl, by kernel_rfl, by kernel_rfl⟩,
   ⟨_, Tryz.func207, by kernel_rfl, by kernel_rfl, by kernel_rfl, by kernel_rfl⟩,
   ⟨_, Tryz.func204, by kernel_rfl, by kernel_rfl, by kernel_rfl, by kernel_rfl⟩,
   ⟨_, Tryz.func163, by kernel_rfl, by kernel_rfl, by kernel_rfl, by kernel_rfl⟩, trivial⟩

def ra : Go.Shelf.Ren := ⟨fun | 11 => 230 | n => n, fun | 0 => 0 | 24 => 33 | 26 => 22 | 28 => 238 | 33 => 117 | n => n, fun n => n⟩
theorem la : LaysQ.n11 .u64 Tryz.prog ra := {
  mixed := fol
  f11 := ⟨Tryz.f230.name, by kernel_rfl, by kernel_rfl⟩
  t0 := by kernel_rfl
  a0 := Tryz.isAgg0
  z0 := Tryz.sizeOf0
  v0 := Tryz.zeroValue0
  t24 := by kernel_rfl
  a24 := Tryz.isAgg33
  z24 := Tryz.sizeOf33
  v24 := Tryz.zeroValue33
  t26 := by kernel_rfl
  a26 := Tryz.isAgg22
  z26 := Tryz.sizeOf22
  v26 := Tryz.zeroValue22
  t28 := by kernel_rfl
  a28 := Tryz.isAgg238
  z28 := Tryz.sizeOf238
  v28 := Tryz.zeroValue238
  i26 := by kernel_rfl }

def rk203 : Go.Shelf.Ren := ⟨fun | 10 => 203 | n => n, fun | 0 => 0 | 3 => 137 | 4 => 4 | 23 => 130 | 26 => 22 | 33 => 117 | n => n, fun n => n⟩
theorem lk203 : LaysQ.n10 .u64 Tryz.prog rk203 := {
  mixed := fol
  f10 := ⟨Tryz.f203.name, by kernel_rfl, by kernel_rfl⟩
  t0 := by kernel_rfl
  a0 := Tryz.isAgg0
  z0 := Tryz.sizeOf0
  v0 := Tryz.zeroValue0
  t4 := by kernel_rfl
  a4 := Tryz.isAgg4
  z4 := Tryz.sizeOf4
  v4 := Tryz.zeroValue4
  t23 := by kernel_rfl
  a23 := Tryz.isAgg130
  z23 := Tryz.sizeOf130
  v23 := Tryz.zeroValue130
  t26 := by kernel_rfl
  a26 := Tryz.isAgg22
  z26 := Tryz.sizeOf22
  v26 := Tryz.zeroValue22
  t33 := by kernel_rfl
  a33 := Tryz.isAgg117
  z33 := Tryz.sizeOf117
  v33 := Tryz.zeroValue117 }

def rk211 : Go.Shelf.Ren := ⟨fun | 10 => 211 | n => n, fun | 0 => 0 | 3 => 166 | 4 => 4 | 23 => 158 | 26 => 22 | 33 => 117 | n => n, fun n => n⟩
theorem lk211 : LaysQ.n10 .u64 Tryz.prog rk211 := {
  mixed := fol
  f10 := ⟨Tryz.f211.name, by kernel_rfl, by kernel_rfl⟩
  t0 := by kernel_rfl
  a0 := Tryz.isAgg0
  z0 := Tryz.sizeOf0
  v0 := Tryz.zeroValue0
  t4 := by kernel_rfl
  a4 := Tryz.isAgg4
  z4 := Tryz.sizeOf4
  v4 := Tryz.zeroValue4
  t23 := by kernel_rfl
  a23 := Tryz.isAgg158
  z23 := Tryz.sizeOf158
  v23 := Tryz.zeroValue158
  t26 := by kernel_rfl
  a26 := Tryz.isAgg22
  z26 := Tryz.sizeOf22
  v26 := Tryz.zeroValue22
  t33 := by kernel_rfl
  a33 := Tryz.isAgg117
  z33 := Tryz.sizeOf117
  v33 := Tryz.zeroValue117 }

def rk228 : Go.Shelf.Ren := ⟨fun | 10 => 228 | n => n, fun | 0 => 0 | 3 => 22 | 4 => 4 | 23 => 233 | 26 => 22 | 33 => 117 | n => n, fun n => n⟩
theorem lk228 : LaysQ.n10 .u64 Tryz.prog rk228 := {
  mixed := fol
  f10 := ⟨Tryz.f228.name, by kernel_rfl, by kernel_rfl⟩
  t0 := by kernel_rfl
  a0 := Tryz.isAgg0
  z0 := Tryz.sizeOf0
  v0 := Tryz.zeroValue0
  t4 := by kernel_rfl
  a4 := Tryz.isAgg4
  z4 := Tryz.sizeOf4
  v4 := Tryz.zeroValue4
  t23 := by kernel_rfl
  a23 := Tryz.isAgg233
  z23 := Tryz.sizeOf233
  v23 := Tryz.zeroValue233
  t26 := by kernel_rfl
  a26 := Tryz.isAgg22
  z26 := Tryz.sizeOf22
  v26 := Tryz.zeroValue22
  t33 := by kernel_rfl
  a33 := Tryz.isAgg117
  z33 := Tryz.sizeOf117
  v33 := Tryz.zeroValue117 }

def seqT : SeqTab := [⟨230, 203, .u64, 22⟩, ⟨230, 211, .u64, 22⟩, ⟨230, 228, .u64, 22⟩]
theorem seqOk : SeqsOk Tryz.prog seqT := ⟨⟨rk203, ra, lk203, la, rfl, rfl, rfl⟩, ⟨rk211, ra, lk211, la, rfl, rfl, rfl⟩, ⟨rk228, ra, lk228, la, rfl, rfl, rfl⟩, trivial⟩

def laysJoin_ren : Go.Shelf.Ren := ⟨fun | 156 => 223 | 165 => 236 | 166 => 237 | 169 => 238 | 240 => 263 | 241 => 264 | 276 => 286 | 277 => 287 | n => n, fun | 31 => 300 | 9 => 9 | 3 => 3 | 4 => 4 | 0 => 0 | 20 => 20 | 72 => 314 | 76 => 318 | 70 => 311 | 37 => 312 | 75 => 317 | 127 => 340 | 164 => 356 | 5 => 5 | 80 => 320 | n => n, fun | n => n⟩
theorem laysJoin : Go.Proofs.Lays.n156 Tryz.prog laysJoin_ren := {
  mixed := by kernel_rfl
  f156 := Tryz.func223.trans (congrArg some (by kernel_rfl))
  f165 := Tryz.func236.trans (congrArg some (by kernel_rfl))
  f166 := Tryz.func237.trans (congrArg some (by kernel_rfl))
  f169 := Tryz.func238.trans (congrArg some (by kernel_rfl))
  f240 := Tryz.func263.trans (congrArg some (by kernel_rfl))
  f241 := Tryz.func264.trans (congrArg some (by kernel_rfl))
  f276 := Tryz.func286.trans (congrArg some (by kernel_rfl))
  f277 := Tryz.func287.trans (congrArg some (by kernel_rfl))
  t0 := Tryz.underlying0
  a0 := Tryz.isAgg0
  z0 := Tryz.sizeOf0
  v0 := Tryz.zeroValue0
  t3 := Tryz.underlying3
  a3 := Tryz.isAgg3
  z3 := Tryz.sizeOf3
  v3 := Tryz.zeroValue3
  t4 := Tryz.underlying4
  a4 := Tryz.isAgg4
  z4 := Tryz.sizeOf4
  v4 := Tryz.zeroValue4
  t9 := Tryz.underlying9
  a9 := Tryz.isAgg9
  z9 := Tryz.sizeOf9
  v9 := Tryz.zeroValue9
  t20 := Tryz.underlying20
  a20 := Tryz.isAgg20
  z20 := Tryz.sizeOf20
  v20 := Tryz.zeroValue20
  t31 := Tryz.underlying300
  a31 := Tryz.isAgg300
  z31 := Tryz.sizeOf300
  v31 := Tryz.zeroValue300
  t37 := Tryz.underlying312
  a37 := Tryz.isAgg312
  z37 := Tryz.sizeOf312
  v37 := Tryz.zeroValue312
  t70 := Tryz.underlying311
  a70 := Tryz.isAgg311
  z70 := Tryz.sizeOf311
  v70 := Tryz.zeroValue311
  t72 := Tryz.underlying314
  a72 := Tryz.isAgg314
  z72 := Tryz.sizeOf314
  v72 := Tryz.zeroValue314
  t75 := Tryz.underlying317
  a75 := Tryz.isAgg317
  z75 := Tryz.sizeOf317
  v75 := Tryz.zeroValue317
  t76 := Tryz.underlying318
  a76 := Tryz.isAgg318
  z76 := Tryz.sizeOf318
  v76 := Tryz.zeroValue318
  t127 := Tryz.underlying340
  a127 := Tryz.isAgg340
  z127 := Tryz.sizeOf340
  v127 := Tryz.zeroValue340
  t164 := Tryz.underlying356
  a164 := Tryz.isAgg356
  z164 := Tryz.sizeOf356
  v164 := Tryz.zeroValue356 }
def delL_ren : Go.Shelf.Ren := ⟨fun | 45 => 173 | n => n, fun | 22 => 33 | 23 => 22 | 3 => 3 | 4 => 4 | 0 => 0 | n => n, fun | n => n⟩
theorem delL : Go.Proofs.SlLaysE.n45 Tryz.prog delL_ren := {
  mixed := by kernel_rfl
  f45 := ⟨Tryz.f173.name, by decide, Tryz.func173.trans (congrArg some (by kernel_rfl))⟩
  t0 := Tryz.underlying0
  a0 := Tryz.isAgg0
  z0 := Tryz.sizeOf0
  v0 := Tryz.zeroValue0
  t3 := Tryz.underlying3
  a3 := Tryz.isAgg3
  z3 := Tryz.sizeOf3
  v3 := Tryz.zeroValue3
  t4 := Tryz.underlying4
  a4 := Tryz.isAgg4
  z4 := Tryz.sizeOf4
  v4 := Tryz.zeroValue4
  t22 := Tryz.underlying33
  a22 := Tryz.isAgg33
  z22 := Tryz.sizeOf33
  v22 := Tryz.zeroValue33
  a23 := Tryz.isAgg22
  z23 := Tryz.sizeOf22 }
theorem joinX : Builder.Extra Tryz.prog laysJoin_ren := {
  sizeBuilder := by kernel_rfl
  liesBuilder := by kernel_rfl
  t5 := by kernel_rfl
  a5 := Tryz.isAgg5
  z5 := Tryz.sizeOf5
  v5 := Tryz.zeroValue5
  infoByte := by kernel_rfl
  cellsByte := by kernel_rfl
  sizeByte := by kernel_rfl
  neB5 := by decide }
theorem joinOk : JoinAt Tryz.prog 223 := ⟨_, laysJoin, joinX, rfl⟩

theorem infoU : ∃ i0, Tryz.prog.info? 22 = some i0 ∧ i0.size = 1 := by
  have h : (Tryz.prog.info? 22).map (·.size) = some 1 := by kernel_rfl
  cases e : Tryz.prog.info? 22 with
  | none => rw [e] at h; cases h
  | some i => rw [e] at h; exact ⟨i, rfl, Option.some.inj h⟩
theorem delOk : DelAt Tryz.prog 173 .u64 := ⟨⟨delL_ren, delL, Tryz.zeroValue22, infoU, rfl⟩⟩

abbrev failV : Value := .iface 423 (.agg #[.int .i64 6])

theorem must_six (w : World) : Calls Tryz.prog 358 #[.int .i64 6] w fun e w' => e = .panicked [{ v := failV, recovered := false }] ∧ w' = w := by
  go_enter Tryz.func358, Tryz.ntmps358
  go_wp2
  exact ⟨rfl, rfl, rfl⟩

theorem lit_six (w : World) : Calls Tryz.prog 357 #[] w fun e w' => e = .panicked [{ v := failV, recovered := false }] ∧ w' = w := by
  go_enter Tryz.func357, Tryz.ntmps357
  go_wp2_with (go_at_call 358; refine (must_six _).mono ?_; rintro e w' ⟨rfl, rfl⟩)
  exact ⟨rfl, rfl, rfl⟩

theorem catch_panicking (p q : Addr) (u : TypeId) (pv z : Value) (older : List PanicEntry) (w : World) (hp : w.cell? p = some (.bool true)) (hc : w.cell? q = some z) (hz : w.frozen? q = false) :
    CallsD Tryz.prog 362 #[.pointer (some p), .pointer (some q)] (.panicking ({ v := .iface u pv, recovered := false } :: older)) w fun e u' w' =>
      e = .returned (.tuple #[]) ∧ u' = .panicking ({ v := .iface u pv, recovered := true } :: older) ∧ w' = w.setCell q (.iface u pv) := by
  refine callsD_of_wpS Tryz.func362 rfl fun c₀ cs hu => ?_
  apply wpS_seq
  apply wpS_region
  simp [wpOpsS, go_sem, Tryz.ntmps362, Exit.thenS, hp]
  refine wpS_cond (t := true) (by simp [Act.eval, Array.replicate]) ?_
  simp only [if_true]
  apply wpS_region
  simp [wpOpsS, go_sem, recoverD, hu, hc, hz, bodyPostS, results, Tryz.results362]

theorem try_six (w : World) : Calls Tryz.prog 360 #[.func (.func 357) #[] #[]] w fun e w' => e = .returned (.tuple #[failV, .bool true]) ∧ Below w.heap.size w w' := by
  have hmf : ∀ (fn : Fn) (first cap : Array Value) (w : World), (Instr.makeFunc fn first cap).run Tryz.prog w = .ok (.func fn first cap) w := fun _ _ _ _ => rfl
  have hnil : ∀ w : World, (binOp BinOp.eql 1 (.func (.func 357) #[] #[]) .nilFunc).run Tryz.prog w = .ok (.bool false) w := fun _ => by kernel_rfl
  go_enter_defers Tryz.func360, Tryz.ntmps360
  go_wp2_with (go_at_call 357; refine (lit_six _).mono ?_; rintro e w' ⟨rfl, rfl⟩)
  refine leaves_cons (f := 362) (args := #[.pointer (some ⟨w.heap.size + 1, 0, none⟩), .pointer (some ⟨w.heap.size, 0, none⟩)]) (by simp) (by simp [go_sem]) ?_
  refine (catch_panicking ⟨w.heap.size + 1, 0, none⟩ ⟨w.heap.size, 0, none⟩ 423 _ .nilIface [] _ ?_ ?_ ?_).mono ?_
  · simp [go_sem]
  · simp [go_sem]
  · simp [go_sem]
  rintro e u' w'' ⟨rfl, rfl, rfl⟩
  simp [Leaves, settle, results, Tryz.results360, go_sem]
  exact ((Below.refl _ w).alloc (Nat.le_refl _) _).alloc (by simp) _


def tryE : LitEnt := ⟨360, [.func (.func 357) #[] #[]], .tuple #[failV, .bool true]⟩
theorem tryOk : ∀ w, Calls Tryz.prog tryE.f tryE.args.toArray w fun en w' => en = .returned tryE.res ∧ Below w.heap.size w w' := try_six

def orc : CallF := orElse (seqOracle seqT) (orElse (joinOracle 223) (orElse (delOracle 173 .u64) (litOracle tryE)))
theorem orc_ok {K : Fix} : CallOk Tryz.prog K orc := orElse_ok (seqOracle_ok seqOk) (orElse_ok (joinOracle_ok joinOk) (orElse_ok (delOracle_ok delOk) (litOracle_ok tryOk)))

end Go.Proofs.YtbdnlaepeladbaaGreatDoor
