/- What is known of strconv's tables, and the calls that the machine runs one by one. Conditions: none. -/
import Derived.Test.YtbdnlaepeladbaaGreatDoorNu
import Derived.Test.YtbdnlaepeladbaaGreatDoorRows
namespace Go.Proofs.YtbdnlaepeladbaaGreatDoor
open Go.Eng Go.RowKit

def gl : Nat → Option (List Value)
  | 1 => some (rowV (Rows.laid_internal_strconv_uint64pow10 (H := Unit)))
  | 6 => some (tabV Rows.laid_internal_strconv_pow10Tab)
  | _ => none

def eI4 : LitEnt := ⟨220, [.int .i64 4], .string ⟨#[52]⟩⟩
def eI1 : LitEnt := ⟨220, [.int .i64 1], .string ⟨#[49]⟩⟩
def eU100 : LitEnt := ⟨222, [.int .u64 100, .int .i64 10], .string ⟨#[49, 48, 48]⟩⟩
def eU1000 : LitEnt := ⟨222, [.int .u64 1000, .int .i64 10], .string ⟨#[49, 48, 48, 48]⟩⟩
def eU50 : LitEnt := ⟨222, [.int .u64 50, .int .i64 10], .string ⟨#[53, 48]⟩⟩
def eU200 : LitEnt := ⟨222, [.int .u64 200, .int .i64 10], .string ⟨#[50, 48, 48]⟩⟩
def eT : LitEnt := ⟨224, [.float .f64 4598175219545276416], .string ⟨#[48, 46, 50, 53]⟩⟩

/-- The machine over what is known of some calls. -/
noncomputable abbrev runs (l : List LitEnt) (K : Fix) : CallF := evalCall Tryz.prog K (extOf extT) (orElse (litOracles l) orc) 3000 60

end Go.Proofs.YtbdnlaepeladbaaGreatDoor
