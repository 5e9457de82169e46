/- The numbers of this seat's functions and types that the machine asks for, and what guard.Try hands back of a function that fails. Conditions: none. -/
import Derived.Test.YtkahldoobpdblaaGreatDoorEngD
import Derived.Test.YtkahldoobpdblaaGreatDoorProg
import Derived.WalkKit
import Derived.ProofKit
import Derived.OpenShut
import Derived.Defers
import Derived.Recover
import Derived.WalkLawsBesides
namespace Go.Proofs.YtkahldoobpdblaaGreatDoor
open Go.Eng Go.RowKit

theorem fol : Tryz.prog.follows .mixedOrders = true := by kernel_rfl

def extT : ExtTab := [(149, .fromBits), (150, .bits), (168, .bits), (94, .st), (89, (.cas .u64)), (84, (.ld .u64))]
theorem extOk : ExtsOk Tryz.prog extT :=
  ⟨⟨_, Tryz.func149, by kernel_rfl, by kernel_rfl, by kernel_rfl, by kernel_rfl⟩,
   ⟨_, Tryz.func150, by kernel_rfl, by kernel_rfl, by kernel_rfl, by kernel_rfl⟩,
   ⟨_, Tryz.func168, by kernel_rfl, by kernel_rfl, by kernel_rfl, by kernel_rfl⟩,
   ⟨_, Tryz.func94, by kernel_rfl, by kernel_rfl, by kernel_rfl, by kernel_rfl⟩,
   ⟨_, Tryz.func89, by kernel_rfl, by kernel_rfl, by kernel_rfl, by kernel_rfl⟩,
   ⟨_, Tryz.func84, by kernel_rfl, by kernel_rfl, by kernel_rfl, by kernel_rfl⟩, trivial⟩

def ra : Go.Shelf.Ren := ⟨fun | 11 => 139 | n => n, fun | 0 => 0 | 24 => 92 | 26 => 24 | 28 => 171 | 33 => 30 | n => n, fun n => n⟩
theorem la : LaysQ.n11 .u64 Tryz.prog ra := {
  mixed := fol
  f11 := ⟨Tryz.f139.name, by kernel_rfl, by kernel_rfl⟩
  t0 := by kernel_rfl
  a0 := Tryz.isAgg0
  z0 := Tryz.sizeOf0
  v0 := Tryz.zeroValue0
  t24 := by kernel_rfl
  a24 := Tryz.isAgg92
  z24 := Tryz.sizeOf92
  v24 := Tryz.zeroValue92
  t26 := by kernel_rfl
  a26 := Tryz.isAgg24
  z26 := Tryz.sizeOf24
  v26 := Tryz.zeroValue24
  t28 := by kernel_rfl
  a28 := Tryz.isAgg171
  z28 := Tryz.sizeOf171
  v28 := Tryz.zeroValue171
  i26 := by kernel_rfl }

def rk126 : Go.Shelf.Ren := ⟨fun | 10 => 126 | n => n, fun | 0 => 0 | 3 => 24 | 4 => 4 | 23 => 138 | 26 => 24 | 33 => 30 | n => n, fun n => n⟩
theorem lk126 : LaysQ.n10 .u64 Tryz.prog rk126 := {
  mixed := fol
  f10 := ⟨Tryz.f126.name, by kernel_rfl, by kernel_rfl⟩
  t0 := by kernel_rfl
  a0 := Tryz.isAgg0
  z0 := Tryz.sizeOf0
  v0 := Tryz.zeroValue0
  t4 := by kernel_rfl
  a4 := Tryz.isAgg4
  z4 := Tryz.sizeOf4
  v4 := Tryz.zeroValue4
  t23 := by kernel_rfl
  a23 := Tryz.isAgg138
  z23 := Tryz.sizeOf138
  v23 := Tryz.zeroValue138
  t26 := by kernel_rfl
  a26 := Tryz.isAgg24
  z26 := Tryz.sizeOf24
  v26 := Tryz.zeroValue24
  t33 := by kernel_rfl
  a33 := Tryz.isAgg30
  z33 := Tryz.sizeOf30
  v33 := Tryz.zeroValue30 }

def seqT : SeqTab := [⟨139, 126, .u64, 24⟩]
theorem seqOk : SeqsOk Tryz.prog seqT := ⟨⟨rk126, ra, lk126, la, rfl, rfl, rfl⟩, trivial⟩

def laysJoin_ren : Go.Shelf.Ren := ⟨fun | 156 => 104 | 165 => 115 | 166 => 116 | 169 => 117 | 240 => 133 | 241 => 134 | 276 => 147 | 277 => 148 | n => n, fun | 31 => 163 | 9 => 9 | 3 => 3 | 4 => 4 | 0 => 0 | 20 => 20 | 72 => 178 | 76 => 182 | 70 => 175 | 37 => 176 | 75 => 181 | 127 => 198 | 164 => 208 | 5 => 5 | 80 => 184 | n => n, fun | n => n⟩
theorem laysJoin : Go.Proofs.Lays.n156 Tryz.prog laysJoin_ren := {
  mixed := by kernel_rfl
  f156 := Tryz.func104.trans (congrArg some (by kernel_rfl))
  f165 := Tryz.func115.trans (congrArg some (by kernel_rfl))
  f166 := Tryz.func116.trans (congrArg some (by kernel_rfl))
  f169 := Tryz.func117.trans (congrArg some (by kernel_rfl))
  f240 := Tryz.func133.trans (congrArg some (by kernel_rfl))
  f241 := Tryz.func134.trans (congrArg some (by kernel_rfl))
  f276 := Tryz.func147.trans (congrArg some (by kernel_rfl))
  f277 := Tryz.func148.trans (congrArg some (by kernel_rfl))
  t0 := Tryz.underlying0
  a0 := Tryz.isAgg0
  z0 := Tryz.sizeOf0
  v0 := Tryz.zeroValue0
  t3 := Tryz.underlying3
  a3 := Tryz.isAgg3
  z3 := Tryz.sizeOf3
  v3 := Tryz.zeroValue3
  t4 := Tryz.underlying4
  a4 := Tryz.isAgg4
  z4 := Tryz.sizeOf4
  v4 := Tryz.zeroValue4
  t9 := Tryz.underlying9
  a9 := Tryz.isAgg9
  z9 := Tryz.sizeOf9
  v9 := Tryz.zeroValue9
  t20 := Tryz.underlying20
  a20 := Tryz.isAgg20
  z20 := Tryz.sizeOf20
  v20 := Tryz.zeroValue20
  t31 := Tryz.underlying163
  a31 := Tryz.isAgg163
  z31 := Tryz.sizeOf163
  v31 := Tryz.zeroValue163
  t37 := Tryz.underlying176
  a37 := Tryz.isAgg176
  z37 := Tryz.sizeOf176
  v37 := Tryz.zeroValue176
  t70 := Tryz.underlying175
  a70 := Tryz.isAgg175
  z70 := Tryz.sizeOf175
  v70 := Tryz.zeroValue175
  t72 := Tryz.underlying178
  a72 := Tryz.isAgg178
  z72 := Tryz.sizeOf178
  v72 := Tryz.zeroValue178
  t75 := Tryz.underlying181
  a75 := Tryz.isAgg181
  z75 := Tryz.sizeOf181
  v75 := Tryz.zeroValue181
  t76 := Tryz.underlying182
  a76 := Tryz.isAgg182
  z76 := Tryz.sizeOf182
  v76 := Tryz.zeroValue182
  t127 := Tryz.underlying198
  a127 := Tryz.isAgg198
  z127 := Tryz.sizeOf198
  v127 := Tryz.zeroValue198
  t164 := Tryz.underlying208
  a164 := Tryz.isAgg208
  z164 := Tryz.sizeOf208
  v164 := Tryz.zeroValue208 }
theorem joinX : Builder.Extra Tryz.prog laysJoin_ren := {
  sizeBuilder := by kernel_rfl
  liesBuilder := by kernel_rfl
  t5 := by kernel_rfl
  a5 := Tryz.isAgg5
  z5 := Tryz.sizeOf5
  v5 := Tryz.zeroValue5
  infoByte := by kernel_rfl
  cellsByte := by kernel_rfl
  sizeByte := by kernel_rfl
  neB5 := by decide }
theorem joinOk : JoinAt Tryz.prog 104 := ⟨_, laysJoin, joinX, rfl⟩

abbrev failV : Value := .iface 294 (.agg #[.int .i64 6])

theorem must_six (w : World) : Calls Tryz.prog 234 #[.int .i64 6] w fun e w' => e = .panicked [{ v := failV, recovered := false }] ∧ w' = w := by
  go_enter Tryz.func234, Tryz.ntmps234
  go_wp2
  exact ⟨rfl, rfl, rfl⟩

theorem lit_six (w : World) : Calls Tryz.prog 233 #[] w fun e w' => e = .panicked [{ v := failV, recovered := false }] ∧ w' = w := by
  go_enter Tryz.func233, Tryz.ntmps233
  go_wp2_with (go_at_call 234; refine (must_six _).mono ?_; rintro e w' ⟨rfl, rfl⟩)
  exact ⟨rfl, rfl, rfl⟩

theorem catch_panicking (p q : Addr) (u : TypeId) (pv z : Value) (older : List PanicEntry) (w : World) (hp : w.cell? p = some (.bool true)) (hc : w.cell? q = some z) (hz : w.frozen? q = false) :
    CallsD Tryz.prog 238 #[.pointer (some p), .pointer (some q)] (.panicking ({ v := .iface u pv, recovered := false } :: older)) w fun e u' w' =>
      e = .returned (.tuple #[]) ∧ u' = .panicking ({ v := .iface u pv, recovered := true } :: older) ∧ w' = w.setCell q (.iface u pv) := by
  refine callsD_of_wpS Tryz.func238 rfl fun c₀ cs hu => ?_
  apply wpS_seq
  apply wpS_region
  simp [wpOpsS, go_sem, Tryz.ntmps238, Exit.thenS, hp]
  refine wpS_cond (t := true) (by simp [Act.eval, Array.replicate]) ?_
  simp only [if_true]
  apply wpS_region
  simp [wpOpsS, go_sem, recoverD, hu, hc, hz, bodyPostS, results, Tryz.results238]

theorem try_six (w : World) : Calls Tryz.prog 236 #[.func (.func 233) #[] #[]] w fun e w' => e = .returned (.tuple #[failV, .bool true]) ∧ Below w.heap.size w w' := by
  have hmf : ∀ (fn : Fn) (first cap : Array Value) (w : World), (Instr.makeFunc fn first cap).run Tryz.prog w = .ok (.func fn first cap) w := fun _ _ _ _ => rfl
  have hnil : ∀ w : World, (binOp BinOp.eql 1 (.func (.func 233) #[] #[]) .nilFunc).run Tryz.prog w = .ok (.bool false) w := fun _ => by kernel_rfl
  go_enter_defers Tryz.func236, Tryz.ntmps236
  go_wp2_with (go_at_call 233; refine (lit_six _).mono ?_; rintro e w' ⟨rfl, rfl⟩)
  refine leaves_cons (f := 238) (args := #[.pointer (some ⟨w.heap.size + 1, 0, none⟩), .pointer (some ⟨w.heap.size, 0, none⟩)]) (by simp) (by simp [go_sem]) ?_
  refine (catch_panicking ⟨w.heap.size + 1, 0, none⟩ ⟨w.heap.size, 0, none⟩ 294 _ .nilIface [] _ ?_ ?_ ?_).mono ?_
  · simp [go_sem]
  · simp [go_sem]
  · simp [go_sem]
  rintro e u' w'' ⟨rfl, rfl, rfl⟩
  simp [Leaves, settle, results, Tryz.results236, go_sem]
  exact ((Below.refl _ w).alloc (Nat.le_refl _) _).alloc (by simp) _


def tryE : LitEnt := ⟨236, [.func (.func 233) #[] #[]], .tuple #[failV, .bool true]⟩
theorem tryOk : ∀ w, Calls Tryz.prog tryE.f tryE.args.toArray w fun en w' => en = .returned tryE.res ∧ Below w.heap.size w w' := try_six

def orc : CallF := orElse (seqOracle seqT) (orElse (joinOracle 104) (litOracle tryE))
theorem orc_ok {K : Fix} : CallOk Tryz.prog K orc := orElse_ok (seqOracle_ok seqOk) (orElse_ok (joinOracle_ok joinOk) (litOracle_ok tryOk))

end Go.Proofs.YtkahldoobpdblaaGreatDoor
