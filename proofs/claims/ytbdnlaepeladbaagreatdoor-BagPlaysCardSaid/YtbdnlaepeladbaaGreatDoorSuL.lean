/- What is asked of a program whose slices.Sort at elements of uint64 is to be reckoned. Conditions: none. -/
import Derived.Shelf.SlLaysNS
import Derived.Sort.WalkD1
namespace Go.Proofs.SuU
open Go.Shelf

structure LaysU.n53 (P : Program) (ρ : Ren) : Prop where
  mixed : P.follows .mixedOrders = true
  f53 : Bears P (ρ.f 53) (SlBodyN.n53 ρ)
  f59 : Bears P (ρ.f 59) (SlBodyN.n59 ρ)
  f63 : Bears P (ρ.f 63) (SlBodyN.n63 ρ)
  f64 : P.funcs[ρ.f 64]? = some (SlBodyN.n64 ρ)
  f68 : Bears P (ρ.f 68) (SlBodyN.n68 ρ)
  f70 : Bears P (ρ.f 70) (SlBodyN.n70 ρ)
  f71 : Bears P (ρ.f 71) (SlBodyN.n71 ρ)
  f72 : Bears P (ρ.f 72) (SlBodyN.n72 ρ)
  f73 : Bears P (ρ.f 73) (SlBodyN.n73 ρ)
  f74 : Bears P (ρ.f 74) (SlBodyN.n74 ρ)
  f75 : Bears P (ρ.f 75) (SlBodyN.n75 ρ)
  f76 : Bears P (ρ.f 76) (SlBodyN.n76 ρ)
  f77 : Bears P (ρ.f 77) (SlBodyN.n77 ρ)
  f78 : P.funcs[ρ.f 78]? = some (SlBodyN.n78 ρ)
  f79 : P.funcs[ρ.f 79]? = some (SlBodyN.n79 ρ)
  f88 : Bears P (ρ.f 88) (SlBodyN.n88 ρ)
  f89 : P.funcs[ρ.f 89]? = some (SlBodyN.n89 ρ)
  f90 : P.funcs[ρ.f 90]? = some (SlBodyN.n90 ρ)
  f91 : Bears P (ρ.f 91) (SlBodyN.n91 ρ)
  f92 : Bears P (ρ.f 92) (SlBodyN.n92 ρ)
  f96 : Bears P (ρ.f 96) (SlBodyN.n96 ρ)
  t0 : P.underlying (ρ.t 0) = some (TypeDesc.tuple #[])
  a0 : ∀ w, (isAgg (ρ.t 0)).run P w = .ok false w
  z0 : ∀ w, (Go.sizeOf (ρ.t 0)).run P w = .ok 1 w
  v0 : ∀ w, (zeroValue (ρ.t 0)).run P w = .ok (Value.tuple #[]) w
  t3 : P.underlying (ρ.t 3) = some (TypeDesc.int IntKind.i64)
  a3 : ∀ w, (isAgg (ρ.t 3)).run P w = .ok false w
  z3 : ∀ w, (Go.sizeOf (ρ.t 3)).run P w = .ok 1 w
  v3 : ∀ w, (zeroValue (ρ.t 3)).run P w = .ok (Value.int IntKind.i64 0) w
  t4 : P.underlying (ρ.t 4) = some (TypeDesc.bool)
  a4 : ∀ w, (isAgg (ρ.t 4)).run P w = .ok false w
  z4 : ∀ w, (Go.sizeOf (ρ.t 4)).run P w = .ok 1 w
  v4 : ∀ w, (zeroValue (ρ.t 4)).run P w = .ok (Value.bool false) w
  t5 : P.underlying (ρ.t 5) = some (TypeDesc.int IntKind.u8)
  a5 : ∀ w, (isAgg (ρ.t 5)).run P w = .ok false w
  z5 : ∀ w, (Go.sizeOf (ρ.t 5)).run P w = .ok 1 w
  v5 : ∀ w, (zeroValue (ρ.t 5)).run P w = .ok (Value.int IntKind.u8 0) w
  t9 : P.underlying (ρ.t 9) = some (TypeDesc.string)
  a9 : ∀ w, (isAgg (ρ.t 9)).run P w = .ok false w
  z9 : ∀ w, (Go.sizeOf (ρ.t 9)).run P w = .ok 1 w
  v9 : ∀ w, (zeroValue (ρ.t 9)).run P w = .ok (Value.string { data := #[] }) w
  t22 : P.underlying (ρ.t 22) = some (TypeDesc.slice (ρ.t 23))
  a22 : ∀ w, (isAgg (ρ.t 22)).run P w = .ok false w
  z22 : ∀ w, (Go.sizeOf (ρ.t 22)).run P w = .ok 1 w
  v22 : ∀ w, (zeroValue (ρ.t 22)).run P w = .ok (Value.slice none 0 0) w
  t23 : P.underlying (ρ.t 23) = some (TypeDesc.int IntKind.u64)
  a23 : ∀ w, (isAgg (ρ.t 23)).run P w = .ok false w
  z23 : ∀ w, (Go.sizeOf (ρ.t 23)).run P w = .ok 1 w
  v23 : ∀ w, (zeroValue (ρ.t 23)).run P w = .ok (Value.int IntKind.u64 0) w
  t44 : P.underlying (ρ.t 44) = some (TypeDesc.tuple #[ρ.t 3, ρ.t 4])
  a44 : ∀ w, (isAgg (ρ.t 44)).run P w = .ok false w
  z44 : ∀ w, (Go.sizeOf (ρ.t 44)).run P w = .ok 1 w
  v44 : ∀ w, (zeroValue (ρ.t 44)).run P w = .ok (Value.tuple #[Value.int IntKind.i64 0, Value.bool false]) w
  t51 : P.underlying (ρ.t 51) = some (TypeDesc.int IntKind.u64)
  a51 : ∀ w, (isAgg (ρ.t 51)).run P w = .ok false w
  z51 : ∀ w, (Go.sizeOf (ρ.t 51)).run P w = .ok 1 w
  v51 : ∀ w, (zeroValue (ρ.t 51)).run P w = .ok (Value.int IntKind.u64 0) w
  t60 : P.underlying (ρ.t 60) = some (TypeDesc.int IntKind.i64)
  a60 : ∀ w, (isAgg (ρ.t 60)).run P w = .ok false w
  z60 : ∀ w, (Go.sizeOf (ρ.t 60)).run P w = .ok 1 w
  v60 : ∀ w, (zeroValue (ρ.t 60)).run P w = .ok (Value.int IntKind.i64 0) w
  t61 : P.underlying (ρ.t 61) = some (TypeDesc.tuple #[ρ.t 3, ρ.t 60])
  a61 : ∀ w, (isAgg (ρ.t 61)).run P w = .ok false w
  z61 : ∀ w, (Go.sizeOf (ρ.t 61)).run P w = .ok 1 w
  v61 : ∀ w, (zeroValue (ρ.t 61)).run P w = .ok (Value.tuple #[Value.int IntKind.i64 0, Value.int IntKind.i64 0]) w
  t67 : P.underlying (ρ.t 67) = some (TypeDesc.int IntKind.u32)
  a67 : ∀ w, (isAgg (ρ.t 67)).run P w = .ok false w
  z67 : ∀ w, (Go.sizeOf (ρ.t 67)).run P w = .ok 1 w
  v67 : ∀ w, (zeroValue (ρ.t 67)).run P w = .ok (Value.int IntKind.u32 0) w
  t69 : P.underlying (ρ.t 69) = some (TypeDesc.int IntKind.u64)
  a69 : ∀ w, (isAgg (ρ.t 69)).run P w = .ok false w
  z69 : ∀ w, (Go.sizeOf (ρ.t 69)).run P w = .ok 1 w
  v69 : ∀ w, (zeroValue (ρ.t 69)).run P w = .ok (Value.int IntKind.u64 0) w
  t75 : P.underlying (ρ.t 75) = some (TypeDesc.int IntKind.u64)
  a75 : ∀ w, (isAgg (ρ.t 75)).run P w = .ok false w
  z75 : ∀ w, (Go.sizeOf (ρ.t 75)).run P w = .ok 1 w
  v75 : ∀ w, (zeroValue (ρ.t 75)).run P w = .ok (Value.int IntKind.u64 0) w
  t79 : P.underlying (ρ.t 79) = some (TypeDesc.pointer (ρ.t 3))
  a79 : ∀ w, (isAgg (ρ.t 79)).run P w = .ok false w
  z79 : ∀ w, (Go.sizeOf (ρ.t 79)).run P w = .ok 1 w
  v79 : ∀ w, (zeroValue (ρ.t 79)).run P w = .ok (Value.pointer none) w
  t83 : P.underlying (ρ.t 83) = some (TypeDesc.pointer (ρ.t 75))
  a83 : ∀ w, (isAgg (ρ.t 83)).run P w = .ok false w
  z83 : ∀ w, (Go.sizeOf (ρ.t 83)).run P w = .ok 1 w
  v83 : ∀ w, (zeroValue (ρ.t 83)).run P w = .ok (Value.pointer none) w
  t84 : P.underlying (ρ.t 84) = some (TypeDesc.tuple #[ρ.t 3, ρ.t 3])
  a84 : ∀ w, (isAgg (ρ.t 84)).run P w = .ok false w
  z84 : ∀ w, (Go.sizeOf (ρ.t 84)).run P w = .ok 1 w
  v84 : ∀ w, (zeroValue (ρ.t 84)).run P w = .ok (Value.tuple #[Value.int IntKind.i64 0, Value.int IntKind.i64 0]) w

structure LaysU.n59 (P : Program) (ρ : Ren) : Prop where
  mixed : P.follows .mixedOrders = true
  f59 : Bears P (ρ.f 59) (SlBodyN.n59 ρ)
  f68 : Bears P (ρ.f 68) (SlBodyN.n68 ρ)
  t4 : P.underlying (ρ.t 4) = some (TypeDesc.bool)
  a4 : ∀ w, (isAgg (ρ.t 4)).run P w = .ok false w
  z4 : ∀ w, (Go.sizeOf (ρ.t 4)).run P w = .ok 1 w
  v4 : ∀ w, (zeroValue (ρ.t 4)).run P w = .ok (Value.bool false) w
  t23 : P.underlying (ρ.t 23) = some (TypeDesc.int IntKind.u64)
  a23 : ∀ w, (isAgg (ρ.t 23)).run P w = .ok false w
  z23 : ∀ w, (Go.sizeOf (ρ.t 23)).run P w = .ok 1 w
  v23 : ∀ w, (zeroValue (ρ.t 23)).run P w = .ok (Value.int IntKind.u64 0) w

structure LaysU.n63 (P : Program) (ρ : Ren) : Prop where
  mixed : P.follows .mixedOrders = true
  f59 : Bears P (ρ.f 59) (SlBodyN.n59 ρ)
  f63 : Bears P (ρ.f 63) (SlBodyN.n63 ρ)
  f64 : P.funcs[ρ.f 64]? = some (SlBodyN.n64 ρ)
  f68 : Bears P (ρ.f 68) (SlBodyN.n68 ρ)
  f70 : Bears P (ρ.f 70) (SlBodyN.n70 ρ)
  f71 : Bears P (ρ.f 71) (SlBodyN.n71 ρ)
  f72 : Bears P (ρ.f 72) (SlBodyN.n72 ρ)
  f73 : Bears P (ρ.f 73) (SlBodyN.n73 ρ)
  f74 : Bears P (ρ.f 74) (SlBodyN.n74 ρ)
  f75 : Bears P (ρ.f 75) (SlBodyN.n75 ρ)
  f76 : Bears P (ρ.f 76) (SlBodyN.n76 ρ)
  f77 : Bears P (ρ.f 77) (SlBodyN.n77 ρ)
  f78 : P.funcs[ρ.f 78]? = some (SlBodyN.n78 ρ)
  f79 : P.funcs[ρ.f 79]? = some (SlBodyN.n79 ρ)
  f88 : Bears P (ρ.f 88) (SlBodyN.n88 ρ)
  f89 : P.funcs[ρ.f 89]? = some (SlBodyN.n89 ρ)
  f90 : P.funcs[ρ.f 90]? = some (SlBodyN.n90 ρ)
  f91 : Bears P (ρ.f 91) (SlBodyN.n91 ρ)
  f92 : Bears P (ρ.f 92) (SlBodyN.n92 ρ)
  f96 : Bears P (ρ.f 96) (SlBodyN.n96 ρ)
  t0 : P.underlying (ρ.t 0) = some (TypeDesc.tuple #[])
  a0 : ∀ w, (isAgg (ρ.t 0)).run P w = .ok false w
  z0 : ∀ w, (Go.sizeOf (ρ.t 0)).run P w = .ok 1 w
  v0 : ∀ w, (zeroValue (ρ.t 0)).run P w = .ok (Value.tuple #[]) w
  t3 : P.underlying (ρ.t 3) = some (TypeDesc.int IntKind.i64)
  a3 : ∀ w, (isAgg (ρ.t 3)).run P w = .ok false w
  z3 : ∀ w, (Go.sizeOf (ρ.t 3)).run P w = .ok 1 w
  v3 : ∀ w, (zeroValue (ρ.t 3)).run P w = .ok (Value.int IntKind.i64 0) w
  t4 : P.underlying (ρ.t 4) = some (TypeDesc.bool)
  a4 : ∀ w, (isAgg (ρ.t 4)).run P w = .ok false w
  z4 : ∀ w, (Go.sizeOf (ρ.t 4)).run P w = .ok 1 w
  v4 : ∀ w, (zeroValue (ρ.t 4)).run P w = .ok (Value.bool false) w
  t5 : P.underlying (ρ.t 5) = some (TypeDesc.int IntKind.u8)
  a5 : ∀ w, (isAgg (ρ.t 5)).run P w = .ok false w
  z5 : ∀ w, (Go.sizeOf (ρ.t 5)).run P w = .ok 1 w
  v5 : ∀ w, (zeroValue (ρ.t 5)).run P w = .ok (Value.int IntKind.u8 0) w
  t9 : P.underlying (ρ.t 9) = some (TypeDesc.string)
  a9 : ∀ w, (isAgg (ρ.t 9)).run P w = .ok false w
  z9 : ∀ w, (Go.sizeOf (ρ.t 9)).run P w = .ok 1 w
  v9 : ∀ w, (zeroValue (ρ.t 9)).run P w = .ok (Value.string { data := #[] }) w
  t22 : P.underlying (ρ.t 22) = some (TypeDesc.slice (ρ.t 23))
  a22 : ∀ w, (isAgg (ρ.t 22)).run P w = .ok false w
  z22 : ∀ w, (Go.sizeOf (ρ.t 22)).run P w = .ok 1 w
  v22 : ∀ w, (zeroValue (ρ.t 22)).run P w = .ok (Value.slice none 0 0) w
  t23 : P.underlying (ρ.t 23) = some (TypeDesc.int IntKind.u64)
  a23 : ∀ w, (isAgg (ρ.t 23)).run P w = .ok false w
  z23 : ∀ w, (Go.sizeOf (ρ.t 23)).run P w = .ok 1 w
  v23 : ∀ w, (zeroValue (ρ.t 23)).run P w = .ok (Value.int IntKind.u64 0) w
  t44 : P.underlying (ρ.t 44) = some (TypeDesc.tuple #[ρ.t 3, ρ.t 4])
  a44 : ∀ w, (isAgg (ρ.t 44)).run P w = .ok false w
  z44 : ∀ w, (Go.sizeOf (ρ.t 44)).run P w = .ok 1 w
  v44 : ∀ w, (zeroValue (ρ.t 44)).run P w = .ok (Value.tuple #[Value.int IntKind.i64 0, Value.bool false]) w
  t51 : P.underlying (ρ.t 51) = some (TypeDesc.int IntKind.u64)
  a51 : ∀ w, (isAgg (ρ.t 51)).run P w = .ok false w
  z51 : ∀ w, (Go.sizeOf (ρ.t 51)).run P w = .ok 1 w
  v51 : ∀ w, (zeroValue (ρ.t 51)).run P w = .ok (Value.int IntKind.u64 0) w
  t60 : P.underlying (ρ.t 60) = some (TypeDesc.int IntKind.i64)
  a60 : ∀ w, (isAgg (ρ.t 60)).run P w = .ok false w
  z60 : ∀ w, (Go.sizeOf (ρ.t 60)).run P w = .ok 1 w
  v60 : ∀ w, (zeroValue (ρ.t 60)).run P w = .ok (Value.int IntKind.i64 0) w
  t61 : P.underlying (ρ.t 61) = some (TypeDesc.tuple #[ρ.t 3, ρ.t 60])
  a61 : ∀ w, (isAgg (ρ.t 61)).run P w = .ok false w
  z61 : ∀ w, (Go.sizeOf (ρ.t 61)).run P w = .ok 1 w
  v61 : ∀ w, (zeroValue (ρ.t 61)).run P w = .ok (Value.tuple #[Value.int IntKind.i64 0, Value.int IntKind.i64 0]) w
  t67 : P.underlying (ρ.t 67) = some (TypeDesc.int IntKind.u32)
  a67 : ∀ w, (isAgg (ρ.t 67)).run P w = .ok false w
  z67 : ∀ w, (Go.sizeOf (ρ.t 67)).run P w = .ok 1 w
  v67 : ∀ w, (zeroValue (ρ.t 67)).run P w = .ok (Value.int IntKind.u32 0) w
  t69 : P.underlying (ρ.t 69) = some (TypeDesc.int IntKind.u64)
  a69 : ∀ w, (isAgg (ρ.t 69)).run P w = .ok false w
  z69 : ∀ w, (Go.sizeOf (ρ.t 69)).run P w = .ok 1 w
  v69 : ∀ w, (zeroValue (ρ.t 69)).run P w = .ok (Value.int IntKind.u64 0) w
  t75 : P.underlying (ρ.t 75) = some (TypeDesc.int IntKind.u64)
  a75 : ∀ w, (isAgg (ρ.t 75)).run P w = .ok false w
  z75 : ∀ w, (Go.sizeOf (ρ.t 75)).run P w = .ok 1 w
  v75 : ∀ w, (zeroValue (ρ.t 75)).run P w = .ok (Value.int IntKind.u64 0) w
  t79 : P.underlying (ρ.t 79) = some (TypeDesc.pointer (ρ.t 3))
  a79 : ∀ w, (isAgg (ρ.t 79)).run P w = .ok false w
  z79 : ∀ w, (Go.sizeOf (ρ.t 79)).run P w = .ok 1 w
  v79 : ∀ w, (zeroValue (ρ.t 79)).run P w = .ok (Value.pointer none) w
  t83 : P.underlying (ρ.t 83) = some (TypeDesc.pointer (ρ.t 75))
  a83 : ∀ w, (isAgg (ρ.t 83)).run P w = .ok false w
  z83 : ∀ w, (Go.sizeOf (ρ.t 83)).run P w = .ok 1 w
  v83 : ∀ w, (zeroValue (ρ.t 83)).run P w = .ok (Value.pointer none) w
  t84 : P.underlying (ρ.t 84) = some (TypeDesc.tuple #[ρ.t 3, ρ.t 3])
  a84 : ∀ w, (isAgg (ρ.t 84)).run P w = .ok false w
  z84 : ∀ w, (Go.sizeOf (ρ.t 84)).run P w = .ok 1 w
  v84 : ∀ w, (zeroValue (ρ.t 84)).run P w = .ok (Value.tuple #[Value.int IntKind.i64 0, Value.int IntKind.i64 0]) w

structure LaysU.n68 (P : Program) (ρ : Ren) : Prop where
  mixed : P.follows .mixedOrders = true
  f68 : Bears P (ρ.f 68) (SlBodyN.n68 ρ)
  t4 : P.underlying (ρ.t 4) = some (TypeDesc.bool)
  a4 : ∀ w, (isAgg (ρ.t 4)).run P w = .ok false w
  z4 : ∀ w, (Go.sizeOf (ρ.t 4)).run P w = .ok 1 w
  v4 : ∀ w, (zeroValue (ρ.t 4)).run P w = .ok (Value.bool false) w
  t23 : P.underlying (ρ.t 23) = some (TypeDesc.int IntKind.u64)
  a23 : ∀ w, (isAgg (ρ.t 23)).run P w = .ok false w
  z23 : ∀ w, (Go.sizeOf (ρ.t 23)).run P w = .ok 1 w
  v23 : ∀ w, (zeroValue (ρ.t 23)).run P w = .ok (Value.int IntKind.u64 0) w

structure LaysU.n70 (P : Program) (ρ : Ren) : Prop where
  mixed : P.follows .mixedOrders = true
  f59 : Bears P (ρ.f 59) (SlBodyN.n59 ρ)
  f68 : Bears P (ρ.f 68) (SlBodyN.n68 ρ)
  f70 : Bears P (ρ.f 70) (SlBodyN.n70 ρ)
  t0 : P.underlying (ρ.t 0) = some (TypeDesc.tuple #[])
  a0 : ∀ w, (isAgg (ρ.t 0)).run P w = .ok false w
  z0 : ∀ w, (Go.sizeOf (ρ.t 0)).run P w = .ok 1 w
  v0 : ∀ w, (zeroValue (ρ.t 0)).run P w = .ok (Value.tuple #[]) w
  t3 : P.underlying (ρ.t 3) = some (TypeDesc.int IntKind.i64)
  a3 : ∀ w, (isAgg (ρ.t 3)).run P w = .ok false w
  z3 : ∀ w, (Go.sizeOf (ρ.t 3)).run P w = .ok 1 w
  v3 : ∀ w, (zeroValue (ρ.t 3)).run P w = .ok (Value.int IntKind.i64 0) w
  t4 : P.underlying (ρ.t 4) = some (TypeDesc.bool)
  a4 : ∀ w, (isAgg (ρ.t 4)).run P w = .ok false w
  z4 : ∀ w, (Go.sizeOf (ρ.t 4)).run P w = .ok 1 w
  v4 : ∀ w, (zeroValue (ρ.t 4)).run P w = .ok (Value.bool false) w
  t22 : P.underlying (ρ.t 22) = some (TypeDesc.slice (ρ.t 23))
  a22 : ∀ w, (isAgg (ρ.t 22)).run P w = .ok false w
  z22 : ∀ w, (Go.sizeOf (ρ.t 22)).run P w = .ok 1 w
  v22 : ∀ w, (zeroValue (ρ.t 22)).run P w = .ok (Value.slice none 0 0) w
  t23 : P.underlying (ρ.t 23) = some (TypeDesc.int IntKind.u64)
  a23 : ∀ w, (isAgg (ρ.t 23)).run P w = .ok false w
  z23 : ∀ w, (Go.sizeOf (ρ.t 23)).run P w = .ok 1 w
  v23 : ∀ w, (zeroValue (ρ.t 23)).run P w = .ok (Value.int IntKind.u64 0) w

structure LaysU.n71 (P : Program) (ρ : Ren) : Prop where
  mixed : P.follows .mixedOrders = true
  f59 : Bears P (ρ.f 59) (SlBodyN.n59 ρ)
  f68 : Bears P (ρ.f 68) (SlBodyN.n68 ρ)
  f71 : Bears P (ρ.f 71) (SlBodyN.n71 ρ)
  f88 : Bears P (ρ.f 88) (SlBodyN.n88 ρ)
  t0 : P.underlying (ρ.t 0) = some (TypeDesc.tuple #[])
  a0 : ∀ w, (isAgg (ρ.t 0)).run P w = .ok false w
  z0 : ∀ w, (Go.sizeOf (ρ.t 0)).run P w = .ok 1 w
  v0 : ∀ w, (zeroValue (ρ.t 0)).run P w = .ok (Value.tuple #[]) w
  t3 : P.underlying (ρ.t 3) = some (TypeDesc.int IntKind.i64)
  a3 : ∀ w, (isAgg (ρ.t 3)).run P w = .ok false w
  z3 : ∀ w, (Go.sizeOf (ρ.t 3)).run P w = .ok 1 w
  v3 : ∀ w, (zeroValue (ρ.t 3)).run P w = .ok (Value.int IntKind.i64 0) w
  t4 : P.underlying (ρ.t 4) = some (TypeDesc.bool)
  a4 : ∀ w, (isAgg (ρ.t 4)).run P w = .ok false w
  z4 : ∀ w, (Go.sizeOf (ρ.t 4)).run P w = .ok 1 w
  v4 : ∀ w, (zeroValue (ρ.t 4)).run P w = .ok (Value.bool false) w
  t22 : P.underlying (ρ.t 22) = some (TypeDesc.slice (ρ.t 23))
  a22 : ∀ w, (isAgg (ρ.t 22)).run P w = .ok false w
  z22 : ∀ w, (Go.sizeOf (ρ.t 22)).run P w = .ok 1 w
  v22 : ∀ w, (zeroValue (ρ.t 22)).run P w = .ok (Value.slice none 0 0) w
  t23 : P.underlying (ρ.t 23) = some (TypeDesc.int IntKind.u64)
  a23 : ∀ w, (isAgg (ρ.t 23)).run P w = .ok false w
  z23 : ∀ w, (Go.sizeOf (ρ.t 23)).run P w = .ok 1 w
  v23 : ∀ w, (zeroValue (ρ.t 23)).run P w = .ok (Value.int IntKind.u64 0) w

structure LaysU.n72 (P : Program) (ρ : Ren) : Prop where
  mixed : P.follows .mixedOrders = true
  f64 : P.funcs[ρ.f 64]? = some (SlBodyN.n64 ρ)
  f72 : Bears P (ρ.f 72) (SlBodyN.n72 ρ)
  f78 : P.funcs[ρ.f 78]? = some (SlBodyN.n78 ρ)
  f79 : P.funcs[ρ.f 79]? = some (SlBodyN.n79 ρ)
  f89 : P.funcs[ρ.f 89]? = some (SlBodyN.n89 ρ)
  f90 : P.funcs[ρ.f 90]? = some (SlBodyN.n90 ρ)
  t0 : P.underlying (ρ.t 0) = some (TypeDesc.tuple #[])
  a0 : ∀ w, (isAgg (ρ.t 0)).run P w = .ok false w
  z0 : ∀ w, (Go.sizeOf (ρ.t 0)).run P w = .ok 1 w
  v0 : ∀ w, (zeroValue (ρ.t 0)).run P w = .ok (Value.tuple #[]) w
  t3 : P.underlying (ρ.t 3) = some (TypeDesc.int IntKind.i64)
  a3 : ∀ w, (isAgg (ρ.t 3)).run P w = .ok false w
  z3 : ∀ w, (Go.sizeOf (ρ.t 3)).run P w = .ok 1 w
  v3 : ∀ w, (zeroValue (ρ.t 3)).run P w = .ok (Value.int IntKind.i64 0) w
  t4 : P.underlying (ρ.t 4) = some (TypeDesc.bool)
  a4 : ∀ w, (isAgg (ρ.t 4)).run P w = .ok false w
  z4 : ∀ w, (Go.sizeOf (ρ.t 4)).run P w = .ok 1 w
  v4 : ∀ w, (zeroValue (ρ.t 4)).run P w = .ok (Value.bool false) w
  t5 : P.underlying (ρ.t 5) = some (TypeDesc.int IntKind.u8)
  a5 : ∀ w, (isAgg (ρ.t 5)).run P w = .ok false w
  z5 : ∀ w, (Go.sizeOf (ρ.t 5)).run P w = .ok 1 w
  v5 : ∀ w, (zeroValue (ρ.t 5)).run P w = .ok (Value.int IntKind.u8 0) w
  t9 : P.underlying (ρ.t 9) = some (TypeDesc.string)
  a9 : ∀ w, (isAgg (ρ.t 9)).run P w = .ok false w
  z9 : ∀ w, (Go.sizeOf (ρ.t 9)).run P w = .ok 1 w
  v9 : ∀ w, (zeroValue (ρ.t 9)).run P w = .ok (Value.string { data := #[] }) w
  t22 : P.underlying (ρ.t 22) = some (TypeDesc.slice (ρ.t 23))
  a22 : ∀ w, (isAgg (ρ.t 22)).run P w = .ok false w
  z22 : ∀ w, (Go.sizeOf (ρ.t 22)).run P w = .ok 1 w
  v22 : ∀ w, (zeroValue (ρ.t 22)).run P w = .ok (Value.slice none 0 0) w
  t23 : P.underlying (ρ.t 23) = some (TypeDesc.int IntKind.u64)
  a23 : ∀ w, (isAgg (ρ.t 23)).run P w = .ok false w
  z23 : ∀ w, (Go.sizeOf (ρ.t 23)).run P w = .ok 1 w
  v23 : ∀ w, (zeroValue (ρ.t 23)).run P w = .ok (Value.int IntKind.u64 0) w
  t51 : P.underlying (ρ.t 51) = some (TypeDesc.int IntKind.u64)
  a51 : ∀ w, (isAgg (ρ.t 51)).run P w = .ok false w
  z51 : ∀ w, (Go.sizeOf (ρ.t 51)).run P w = .ok 1 w
  v51 : ∀ w, (zeroValue (ρ.t 51)).run P w = .ok (Value.int IntKind.u64 0) w
  t67 : P.underlying (ρ.t 67) = some (TypeDesc.int IntKind.u32)
  a67 : ∀ w, (isAgg (ρ.t 67)).run P w = .ok false w
  z67 : ∀ w, (Go.sizeOf (ρ.t 67)).run P w = .ok 1 w
  v67 : ∀ w, (zeroValue (ρ.t 67)).run P w = .ok (Value.int IntKind.u32 0) w
  t69 : P.underlying (ρ.t 69) = some (TypeDesc.int IntKind.u64)
  a69 : ∀ w, (isAgg (ρ.t 69)).run P w = .ok false w
  z69 : ∀ w, (Go.sizeOf (ρ.t 69)).run P w = .ok 1 w
  v69 : ∀ w, (zeroValue (ρ.t 69)).run P w = .ok (Value.int IntKind.u64 0) w
  t75 : P.underlying (ρ.t 75) = some (TypeDesc.int IntKind.u64)
  a75 : ∀ w, (isAgg (ρ.t 75)).run P w = .ok false w
  z75 : ∀ w, (Go.sizeOf (ρ.t 75)).run P w = .ok 1 w
  v75 : ∀ w, (zeroValue (ρ.t 75)).run P w = .ok (Value.int IntKind.u64 0) w
  t83 : P.underlying (ρ.t 83) = some (TypeDesc.pointer (ρ.t 75))
  a83 : ∀ w, (isAgg (ρ.t 83)).run P w = .ok false w
  z83 : ∀ w, (Go.sizeOf (ρ.t 83)).run P w = .ok 1 w
  v83 : ∀ w, (zeroValue (ρ.t 83)).run P w = .ok (Value.pointer none) w

structure LaysU.n73 (P : Program) (ρ : Ren) : Prop where
  mixed : P.follows .mixedOrders = true
  f59 : Bears P (ρ.f 59) (SlBodyN.n59 ρ)
  f68 : Bears P (ρ.f 68) (SlBodyN.n68 ρ)
  f73 : Bears P (ρ.f 73) (SlBodyN.n73 ρ)
  f91 : Bears P (ρ.f 91) (SlBodyN.n91 ρ)
  f92 : Bears P (ρ.f 92) (SlBodyN.n92 ρ)
  f96 : Bears P (ρ.f 96) (SlBodyN.n96 ρ)
  t0 : P.underlying (ρ.t 0) = some (TypeDesc.tuple #[])
  a0 : ∀ w, (isAgg (ρ.t 0)).run P w = .ok false w
  z0 : ∀ w, (Go.sizeOf (ρ.t 0)).run P w = .ok 1 w
  v0 : ∀ w, (zeroValue (ρ.t 0)).run P w = .ok (Value.tuple #[]) w
  t3 : P.underlying (ρ.t 3) = some (TypeDesc.int IntKind.i64)
  a3 : ∀ w, (isAgg (ρ.t 3)).run P w = .ok false w
  z3 : ∀ w, (Go.sizeOf (ρ.t 3)).run P w = .ok 1 w
  v3 : ∀ w, (zeroValue (ρ.t 3)).run P w = .ok (Value.int IntKind.i64 0) w
  t4 : P.underlying (ρ.t 4) = some (TypeDesc.bool)
  a4 : ∀ w, (isAgg (ρ.t 4)).run P w = .ok false w
  z4 : ∀ w, (Go.sizeOf (ρ.t 4)).run P w = .ok 1 w
  v4 : ∀ w, (zeroValue (ρ.t 4)).run P w = .ok (Value.bool false) w
  t22 : P.underlying (ρ.t 22) = some (TypeDesc.slice (ρ.t 23))
  a22 : ∀ w, (isAgg (ρ.t 22)).run P w = .ok false w
  z22 : ∀ w, (Go.sizeOf (ρ.t 22)).run P w = .ok 1 w
  v22 : ∀ w, (zeroValue (ρ.t 22)).run P w = .ok (Value.slice none 0 0) w
  t23 : P.underlying (ρ.t 23) = some (TypeDesc.int IntKind.u64)
  a23 : ∀ w, (isAgg (ρ.t 23)).run P w = .ok false w
  z23 : ∀ w, (Go.sizeOf (ρ.t 23)).run P w = .ok 1 w
  v23 : ∀ w, (zeroValue (ρ.t 23)).run P w = .ok (Value.int IntKind.u64 0) w
  t60 : P.underlying (ρ.t 60) = some (TypeDesc.int IntKind.i64)
  a60 : ∀ w, (isAgg (ρ.t 60)).run P w = .ok false w
  z60 : ∀ w, (Go.sizeOf (ρ.t 60)).run P w = .ok 1 w
  v60 : ∀ w, (zeroValue (ρ.t 60)).run P w = .ok (Value.int IntKind.i64 0) w
  t79 : P.underlying (ρ.t 79) = some (TypeDesc.pointer (ρ.t 3))
  a79 : ∀ w, (isAgg (ρ.t 79)).run P w = .ok false w
  z79 : ∀ w, (Go.sizeOf (ρ.t 79)).run P w = .ok 1 w
  v79 : ∀ w, (zeroValue (ρ.t 79)).run P w = .ok (Value.pointer none) w
  t84 : P.underlying (ρ.t 84) = some (TypeDesc.tuple #[ρ.t 3, ρ.t 3])
  a84 : ∀ w, (isAgg (ρ.t 84)).run P w = .ok false w
  z84 : ∀ w, (Go.sizeOf (ρ.t 84)).run P w = .ok 1 w
  v84 : ∀ w, (zeroValue (ρ.t 84)).run P w = .ok (Value.tuple #[Value.int IntKind.i64 0, Value.int IntKind.i64 0]) w

structure LaysU.n74 (P : Program) (ρ : Ren) : Prop where
  mixed : P.follows .mixedOrders = true
  f74 : Bears P (ρ.f 74) (SlBodyN.n74 ρ)
  t0 : P.underlying (ρ.t 0) = some (TypeDesc.tuple #[])
  a0 : ∀ w, (isAgg (ρ.t 0)).run P w = .ok false w
  z0 : ∀ w, (Go.sizeOf (ρ.t 0)).run P w = .ok 1 w
  v0 : ∀ w, (zeroValue (ρ.t 0)).run P w = .ok (Value.tuple #[]) w
  t3 : P.underlying (ρ.t 3) = some (TypeDesc.int IntKind.i64)
  a3 : ∀ w, (isAgg (ρ.t 3)).run P w = .ok false w
  z3 : ∀ w, (Go.sizeOf (ρ.t 3)).run P w = .ok 1 w
  v3 : ∀ w, (zeroValue (ρ.t 3)).run P w = .ok (Value.int IntKind.i64 0) w
  t4 : P.underlying (ρ.t 4) = some (TypeDesc.bool)
  a4 : ∀ w, (isAgg (ρ.t 4)).run P w = .ok false w
  z4 : ∀ w, (Go.sizeOf (ρ.t 4)).run P w = .ok 1 w
  v4 : ∀ w, (zeroValue (ρ.t 4)).run P w = .ok (Value.bool false) w
  t22 : P.underlying (ρ.t 22) = some (TypeDesc.slice (ρ.t 23))
  a22 : ∀ w, (isAgg (ρ.t 22)).run P w = .ok false w
  z22 : ∀ w, (Go.sizeOf (ρ.t 22)).run P w = .ok 1 w
  v22 : ∀ w, (zeroValue (ρ.t 22)).run P w = .ok (Value.slice none 0 0) w
  t23 : P.underlying (ρ.t 23) = some (TypeDesc.int IntKind.u64)
  a23 : ∀ w, (isAgg (ρ.t 23)).run P w = .ok false w
  z23 : ∀ w, (Go.sizeOf (ρ.t 23)).run P w = .ok 1 w
  v23 : ∀ w, (zeroValue (ρ.t 23)).run P w = .ok (Value.int IntKind.u64 0) w

structure LaysU.n75 (P : Program) (ρ : Ren) : Prop where
  mixed : P.follows .mixedOrders = true
  f59 : Bears P (ρ.f 59) (SlBodyN.n59 ρ)
  f68 : Bears P (ρ.f 68) (SlBodyN.n68 ρ)
  f75 : Bears P (ρ.f 75) (SlBodyN.n75 ρ)
  t0 : P.underlying (ρ.t 0) = some (TypeDesc.tuple #[])
  a0 : ∀ w, (isAgg (ρ.t 0)).run P w = .ok false w
  z0 : ∀ w, (Go.sizeOf (ρ.t 0)).run P w = .ok 1 w
  v0 : ∀ w, (zeroValue (ρ.t 0)).run P w = .ok (Value.tuple #[]) w
  t3 : P.underlying (ρ.t 3) = some (TypeDesc.int IntKind.i64)
  a3 : ∀ w, (isAgg (ρ.t 3)).run P w = .ok false w
  z3 : ∀ w, (Go.sizeOf (ρ.t 3)).run P w = .ok 1 w
  v3 : ∀ w, (zeroValue (ρ.t 3)).run P w = .ok (Value.int IntKind.i64 0) w
  t4 : P.underlying (ρ.t 4) = some (TypeDesc.bool)
  a4 : ∀ w, (isAgg (ρ.t 4)).run P w = .ok false w
  z4 : ∀ w, (Go.sizeOf (ρ.t 4)).run P w = .ok 1 w
  v4 : ∀ w, (zeroValue (ρ.t 4)).run P w = .ok (Value.bool false) w
  t22 : P.underlying (ρ.t 22) = some (TypeDesc.slice (ρ.t 23))
  a22 : ∀ w, (isAgg (ρ.t 22)).run P w = .ok false w
  z22 : ∀ w, (Go.sizeOf (ρ.t 22)).run P w = .ok 1 w
  v22 : ∀ w, (zeroValue (ρ.t 22)).run P w = .ok (Value.slice none 0 0) w
  t23 : P.underlying (ρ.t 23) = some (TypeDesc.int IntKind.u64)
  a23 : ∀ w, (isAgg (ρ.t 23)).run P w = .ok false w
  z23 : ∀ w, (Go.sizeOf (ρ.t 23)).run P w = .ok 1 w
  v23 : ∀ w, (zeroValue (ρ.t 23)).run P w = .ok (Value.int IntKind.u64 0) w

structure LaysU.n76 (P : Program) (ρ : Ren) : Prop where
  mixed : P.follows .mixedOrders = true
  f59 : Bears P (ρ.f 59) (SlBodyN.n59 ρ)
  f68 : Bears P (ρ.f 68) (SlBodyN.n68 ρ)
  f76 : Bears P (ρ.f 76) (SlBodyN.n76 ρ)
  t0 : P.underlying (ρ.t 0) = some (TypeDesc.tuple #[])
  a0 : ∀ w, (isAgg (ρ.t 0)).run P w = .ok false w
  z0 : ∀ w, (Go.sizeOf (ρ.t 0)).run P w = .ok 1 w
  v0 : ∀ w, (zeroValue (ρ.t 0)).run P w = .ok (Value.tuple #[]) w
  t3 : P.underlying (ρ.t 3) = some (TypeDesc.int IntKind.i64)
  a3 : ∀ w, (isAgg (ρ.t 3)).run P w = .ok false w
  z3 : ∀ w, (Go.sizeOf (ρ.t 3)).run P w = .ok 1 w
  v3 : ∀ w, (zeroValue (ρ.t 3)).run P w = .ok (Value.int IntKind.i64 0) w
  t4 : P.underlying (ρ.t 4) = some (TypeDesc.bool)
  a4 : ∀ w, (isAgg (ρ.t 4)).run P w = .ok false w
  z4 : ∀ w, (Go.sizeOf (ρ.t 4)).run P w = .ok 1 w
  v4 : ∀ w, (zeroValue (ρ.t 4)).run P w = .ok (Value.bool false) w
  t22 : P.underlying (ρ.t 22) = some (TypeDesc.slice (ρ.t 23))
  a22 : ∀ w, (isAgg (ρ.t 22)).run P w = .ok false w
  z22 : ∀ w, (Go.sizeOf (ρ.t 22)).run P w = .ok 1 w
  v22 : ∀ w, (zeroValue (ρ.t 22)).run P w = .ok (Value.slice none 0 0) w
  t23 : P.underlying (ρ.t 23) = some (TypeDesc.int IntKind.u64)
  a23 : ∀ w, (isAgg (ρ.t 23)).run P w = .ok false w
  z23 : ∀ w, (Go.sizeOf (ρ.t 23)).run P w = .ok 1 w
  v23 : ∀ w, (zeroValue (ρ.t 23)).run P w = .ok (Value.int IntKind.u64 0) w

structure LaysU.n77 (P : Program) (ρ : Ren) : Prop where
  mixed : P.follows .mixedOrders = true
  f59 : Bears P (ρ.f 59) (SlBodyN.n59 ρ)
  f68 : Bears P (ρ.f 68) (SlBodyN.n68 ρ)
  f77 : Bears P (ρ.f 77) (SlBodyN.n77 ρ)
  t0 : P.underlying (ρ.t 0) = some (TypeDesc.tuple #[])
  a0 : ∀ w, (isAgg (ρ.t 0)).run P w = .ok false w
  z0 : ∀ w, (Go.sizeOf (ρ.t 0)).run P w = .ok 1 w
  v0 : ∀ w, (zeroValue (ρ.t 0)).run P w = .ok (Value.tuple #[]) w
  t3 : P.underlying (ρ.t 3) = some (TypeDesc.int IntKind.i64)
  a3 : ∀ w, (isAgg (ρ.t 3)).run P w = .ok false w
  z3 : ∀ w, (Go.sizeOf (ρ.t 3)).run P w = .ok 1 w
  v3 : ∀ w, (zeroValue (ρ.t 3)).run P w = .ok (Value.int IntKind.i64 0) w
  t4 : P.underlying (ρ.t 4) = some (TypeDesc.bool)
  a4 : ∀ w, (isAgg (ρ.t 4)).run P w = .ok false w
  z4 : ∀ w, (Go.sizeOf (ρ.t 4)).run P w = .ok 1 w
  v4 : ∀ w, (zeroValue (ρ.t 4)).run P w = .ok (Value.bool false) w
  t22 : P.underlying (ρ.t 22) = some (TypeDesc.slice (ρ.t 23))
  a22 : ∀ w, (isAgg (ρ.t 22)).run P w = .ok false w
  z22 : ∀ w, (Go.sizeOf (ρ.t 22)).run P w = .ok 1 w
  v22 : ∀ w, (zeroValue (ρ.t 22)).run P w = .ok (Value.slice none 0 0) w
  t23 : P.underlying (ρ.t 23) = some (TypeDesc.int IntKind.u64)
  a23 : ∀ w, (isAgg (ρ.t 23)).run P w = .ok false w
  z23 : ∀ w, (Go.sizeOf (ρ.t 23)).run P w = .ok 1 w
  v23 : ∀ w, (zeroValue (ρ.t 23)).run P w = .ok (Value.int IntKind.u64 0) w

structure LaysU.n88 (P : Program) (ρ : Ren) : Prop where
  mixed : P.follows .mixedOrders = true
  f59 : Bears P (ρ.f 59) (SlBodyN.n59 ρ)
  f68 : Bears P (ρ.f 68) (SlBodyN.n68 ρ)
  f88 : Bears P (ρ.f 88) (SlBodyN.n88 ρ)
  t0 : P.underlying (ρ.t 0) = some (TypeDesc.tuple #[])
  a0 : ∀ w, (isAgg (ρ.t 0)).run P w = .ok false w
  z0 : ∀ w, (Go.sizeOf (ρ.t 0)).run P w = .ok 1 w
  v0 : ∀ w, (zeroValue (ρ.t 0)).run P w = .ok (Value.tuple #[]) w
  t3 : P.underlying (ρ.t 3) = some (TypeDesc.int IntKind.i64)
  a3 : ∀ w, (isAgg (ρ.t 3)).run P w = .ok false w
  z3 : ∀ w, (Go.sizeOf (ρ.t 3)).run P w = .ok 1 w
  v3 : ∀ w, (zeroValue (ρ.t 3)).run P w = .ok (Value.int IntKind.i64 0) w
  t4 : P.underlying (ρ.t 4) = some (TypeDesc.bool)
  a4 : ∀ w, (isAgg (ρ.t 4)).run P w = .ok false w
  z4 : ∀ w, (Go.sizeOf (ρ.t 4)).run P w = .ok 1 w
  v4 : ∀ w, (zeroValue (ρ.t 4)).run P w = .ok (Value.bool false) w
  t22 : P.underlying (ρ.t 22) = some (TypeDesc.slice (ρ.t 23))
  a22 : ∀ w, (isAgg (ρ.t 22)).run P w = .ok false w
  z22 : ∀ w, (Go.sizeOf (ρ.t 22)).run P w = .ok 1 w
  v22 : ∀ w, (zeroValue (ρ.t 22)).run P w = .ok (Value.slice none 0 0) w
  t23 : P.underlying (ρ.t 23) = some (TypeDesc.int IntKind.u64)
  a23 : ∀ w, (isAgg (ρ.t 23)).run P w = .ok false w
  z23 : ∀ w, (Go.sizeOf (ρ.t 23)).run P w = .ok 1 w
  v23 : ∀ w, (zeroValue (ρ.t 23)).run P w = .ok (Value.int IntKind.u64 0) w

structure LaysU.n91 (P : Program) (ρ : Ren) : Prop where
  mixed : P.follows .mixedOrders = true
  f59 : Bears P (ρ.f 59) (SlBodyN.n59 ρ)
  f68 : Bears P (ρ.f 68) (SlBodyN.n68 ρ)
  f91 : Bears P (ρ.f 91) (SlBodyN.n91 ρ)
  f92 : Bears P (ρ.f 92) (SlBodyN.n92 ρ)
  f96 : Bears P (ρ.f 96) (SlBodyN.n96 ρ)
  t0 : P.underlying (ρ.t 0) = some (TypeDesc.tuple #[])
  a0 : ∀ w, (isAgg (ρ.t 0)).run P w = .ok false w
  z0 : ∀ w, (Go.sizeOf (ρ.t 0)).run P w = .ok 1 w
  v0 : ∀ w, (zeroValue (ρ.t 0)).run P w = .ok (Value.tuple #[]) w
  t3 : P.underlying (ρ.t 3) = some (TypeDesc.int IntKind.i64)
  a3 : ∀ w, (isAgg (ρ.t 3)).run P w = .ok false w
  z3 : ∀ w, (Go.sizeOf (ρ.t 3)).run P w = .ok 1 w
  v3 : ∀ w, (zeroValue (ρ.t 3)).run P w = .ok (Value.int IntKind.i64 0) w
  t4 : P.underlying (ρ.t 4) = some (TypeDesc.bool)
  a4 : ∀ w, (isAgg (ρ.t 4)).run P w = .ok false w
  z4 : ∀ w, (Go.sizeOf (ρ.t 4)).run P w = .ok 1 w
  v4 : ∀ w, (zeroValue (ρ.t 4)).run P w = .ok (Value.bool false) w
  t22 : P.underlying (ρ.t 22) = some (TypeDesc.slice (ρ.t 23))
  a22 : ∀ w, (isAgg (ρ.t 22)).run P w = .ok false w
  z22 : ∀ w, (Go.sizeOf (ρ.t 22)).run P w = .ok 1 w
  v22 : ∀ w, (zeroValue (ρ.t 22)).run P w = .ok (Value.slice none 0 0) w
  t23 : P.underlying (ρ.t 23) = some (TypeDesc.int IntKind.u64)
  a23 : ∀ w, (isAgg (ρ.t 23)).run P w = .ok false w
  z23 : ∀ w, (Go.sizeOf (ρ.t 23)).run P w = .ok 1 w
  v23 : ∀ w, (zeroValue (ρ.t 23)).run P w = .ok (Value.int IntKind.u64 0) w
  t79 : P.underlying (ρ.t 79) = some (TypeDesc.pointer (ρ.t 3))
  a79 : ∀ w, (isAgg (ρ.t 79)).run P w = .ok false w
  z79 : ∀ w, (Go.sizeOf (ρ.t 79)).run P w = .ok 1 w
  v79 : ∀ w, (zeroValue (ρ.t 79)).run P w = .ok (Value.pointer none) w
  t84 : P.underlying (ρ.t 84) = some (TypeDesc.tuple #[ρ.t 3, ρ.t 3])
  a84 : ∀ w, (isAgg (ρ.t 84)).run P w = .ok false w
  z84 : ∀ w, (Go.sizeOf (ρ.t 84)).run P w = .ok 1 w
  v84 : ∀ w, (zeroValue (ρ.t 84)).run P w = .ok (Value.tuple #[Value.int IntKind.i64 0, Value.int IntKind.i64 0]) w

structure LaysU.n92 (P : Program) (ρ : Ren) : Prop where
  mixed : P.follows .mixedOrders = true
  f59 : Bears P (ρ.f 59) (SlBodyN.n59 ρ)
  f68 : Bears P (ρ.f 68) (SlBodyN.n68 ρ)
  f92 : Bears P (ρ.f 92) (SlBodyN.n92 ρ)
  f96 : Bears P (ρ.f 96) (SlBodyN.n96 ρ)
  t0 : P.underlying (ρ.t 0) = some (TypeDesc.tuple #[])
  a0 : ∀ w, (isAgg (ρ.t 0)).run P w = .ok false w
  z0 : ∀ w, (Go.sizeOf (ρ.t 0)).run P w = .ok 1 w
  v0 : ∀ w, (zeroValue (ρ.t 0)).run P w = .ok (Value.tuple #[]) w
  t3 : P.underlying (ρ.t 3) = some (TypeDesc.int IntKind.i64)
  a3 : ∀ w, (isAgg (ρ.t 3)).run P w = .ok false w
  z3 : ∀ w, (Go.sizeOf (ρ.t 3)).run P w = .ok 1 w
  v3 : ∀ w, (zeroValue (ρ.t 3)).run P w = .ok (Value.int IntKind.i64 0) w
  t4 : P.underlying (ρ.t 4) = some (TypeDesc.bool)
  a4 : ∀ w, (isAgg (ρ.t 4)).run P w = .ok false w
  z4 : ∀ w, (Go.sizeOf (ρ.t 4)).run P w = .ok 1 w
  v4 : ∀ w, (zeroValue (ρ.t 4)).run P w = .ok (Value.bool false) w
  t22 : P.underlying (ρ.t 22) = some (TypeDesc.slice (ρ.t 23))
  a22 : ∀ w, (isAgg (ρ.t 22)).run P w = .ok false w
  z22 : ∀ w, (Go.sizeOf (ρ.t 22)).run P w = .ok 1 w
  v22 : ∀ w, (zeroValue (ρ.t 22)).run P w = .ok (Value.slice none 0 0) w
  t23 : P.underlying (ρ.t 23) = some (TypeDesc.int IntKind.u64)
  a23 : ∀ w, (isAgg (ρ.t 23)).run P w = .ok false w
  z23 : ∀ w, (Go.sizeOf (ρ.t 23)).run P w = .ok 1 w
  v23 : ∀ w, (zeroValue (ρ.t 23)).run P w = .ok (Value.int IntKind.u64 0) w
  t79 : P.underlying (ρ.t 79) = some (TypeDesc.pointer (ρ.t 3))
  a79 : ∀ w, (isAgg (ρ.t 79)).run P w = .ok false w
  z79 : ∀ w, (Go.sizeOf (ρ.t 79)).run P w = .ok 1 w
  v79 : ∀ w, (zeroValue (ρ.t 79)).run P w = .ok (Value.pointer none) w
  t84 : P.underlying (ρ.t 84) = some (TypeDesc.tuple #[ρ.t 3, ρ.t 3])
  a84 : ∀ w, (isAgg (ρ.t 84)).run P w = .ok false w
  z84 : ∀ w, (Go.sizeOf (ρ.t 84)).run P w = .ok 1 w
  v84 : ∀ w, (zeroValue (ρ.t 84)).run P w = .ok (Value.tuple #[Value.int IntKind.i64 0, Value.int IntKind.i64 0]) w

structure LaysU.n96 (P : Program) (ρ : Ren) : Prop where
  mixed : P.follows .mixedOrders = true
  f59 : Bears P (ρ.f 59) (SlBodyN.n59 ρ)
  f68 : Bears P (ρ.f 68) (SlBodyN.n68 ρ)
  f96 : Bears P (ρ.f 96) (SlBodyN.n96 ρ)
  t0 : P.underlying (ρ.t 0) = some (TypeDesc.tuple #[])
  a0 : ∀ w, (isAgg (ρ.t 0)).run P w = .ok false w
  z0 : ∀ w, (Go.sizeOf (ρ.t 0)).run P w = .ok 1 w
  v0 : ∀ w, (zeroValue (ρ.t 0)).run P w = .ok (Value.tuple #[]) w
  t3 : P.underlying (ρ.t 3) = some (TypeDesc.int IntKind.i64)
  a3 : ∀ w, (isAgg (ρ.t 3)).run P w = .ok false w
  z3 : ∀ w, (Go.sizeOf (ρ.t 3)).run P w = .ok 1 w
  v3 : ∀ w, (zeroValue (ρ.t 3)).run P w = .ok (Value.int IntKind.i64 0) w
  t4 : P.underlying (ρ.t 4) = some (TypeDesc.bool)
  a4 : ∀ w, (isAgg (ρ.t 4)).run P w = .ok false w
  z4 : ∀ w, (Go.sizeOf (ρ.t 4)).run P w = .ok 1 w
  v4 : ∀ w, (zeroValue (ρ.t 4)).run P w = .ok (Value.bool false) w
  t22 : P.underlying (ρ.t 22) = some (TypeDesc.slice (ρ.t 23))
  a22 : ∀ w, (isAgg (ρ.t 22)).run P w = .ok false w
  z22 : ∀ w, (Go.sizeOf (ρ.t 22)).run P w = .ok 1 w
  v22 : ∀ w, (zeroValue (ρ.t 22)).run P w = .ok (Value.slice none 0 0) w
  t23 : P.underlying (ρ.t 23) = some (TypeDesc.int IntKind.u64)
  a23 : ∀ w, (isAgg (ρ.t 23)).run P w = .ok false w
  z23 : ∀ w, (Go.sizeOf (ρ.t 23)).run P w = .ok 1 w
  v23 : ∀ w, (zeroValue (ρ.t 23)).run P w = .ok (Value.int IntKind.u64 0) w
  t79 : P.underlying (ρ.t 79) = some (TypeDesc.pointer (ρ.t 3))
  a79 : ∀ w, (isAgg (ρ.t 79)).run P w = .ok false w
  z79 : ∀ w, (Go.sizeOf (ρ.t 79)).run P w = .ok 1 w
  v79 : ∀ w, (zeroValue (ρ.t 79)).run P w = .ok (Value.pointer none) w

abbrev encU : Int → Value := fun x => Value.int .u64 x
open Go.Sort in
theorem holds_aside {e : Int → Value} {w : World} {blk off sb so n t : Nat} {d : Array Int} (h : Holds e w blk off d) (hne : sb ≠ blk) : Holds e (putRow (Value.int .i64) (Sort.ahead w n) sb so (one t)) blk off d := fun j hj =>
  ⟨by rw [cell?_putRow_other _ _ _ _ _ _ (Or.inl (Ne.symm hne))]; exact (h j hj).1, by rw [frozen?_putRow]; exact (h j hj).2⟩

end Go.Proofs.SuU
