/- The machine's runs joined: the law returns true in every world where the listed variables hold what the row lists. Conditions: that. -/
import Derived.Test.YtbdnlaepeladbaaGreatDoorRows
import Derived.ProofKit
import Derived.OpenShut
import Derived.LaidMore
import Derived.Lay
import Derived.Test.YtbdnlaepeladbaaGreatDoorRunA
import Derived.Test.YtbdnlaepeladbaaGreatDoorRunB
import Derived.Test.YtbdnlaepeladbaaGreatDoorRunC
import Derived.Test.YtbdnlaepeladbaaGreatDoorRunD
import Derived.Test.YtbdnlaepeladbaaGreatDoorRunE
namespace Go.Proofs.YtbdnlaepeladbaaGreatDoor
open Go.ChangeShapes Go.WideShapes Go.ChangeAt Go.RowKit Go.Eng

theorem own : ownKnob Tryz.prog.godebug = none := by kernel_rfl

theorem var_lt {P : Program} {w : World} {n : String} {g : Nat} {cs : Array Value} (hg : P.globalNamed n = some g) (h : w.var? P n = some cs) : g < w.heap.size := by
  simp only [World.var?, hg, Option.bind_some] at h
  split at h
  · rename_i hb; exact (Array.getElem?_eq_some_iff.1 hb).1
  · cases h

theorem gl_ok {W : World} (h : laidMetH Tryz.prog Rows.bagPlaysRow.laid W) : ∀ g l, gl g = some l → g < W.heap.size ∧ ∀ i v, l[i]? = some v → W.cell? ⟨g, i, none⟩ = some v := by
  rw [MakeChecks.laidMetH_plain _ _ _ (by kernel_rfl)] at h
  obtain ⟨ps, ⟨_, _, _, _, _, _, _, _, _, _, ⟨_, _, _, _, _, _, _, _, _, _, ⟨_, _, _, _, _, _, _, _, _, _, ⟨g4, t4, cs4, fuel4, p4, q4, hg4, ht4, hv4, hd4, ⟨_, _, _, _, _, _, _, _, _, _, ⟨g6, t6, cs6, fuel6, p6, q6, hg6, ht6, hv6, hd6, _, _⟩, _⟩, _⟩, _⟩, _⟩, _⟩, _, _⟩ := h
  obtain rfl := Option.some.inj ((show Tryz.prog.globalNamed "internal/strconv.uint64pow10" = some 1 by kernel_rfl).symm.trans hg4)
  obtain rfl := Option.some.inj ((show (Tryz.prog.globals[1]?).map (·.type) = some 354 by kernel_rfl).symm.trans ht4)
  obtain rfl := Option.some.inj ((show Tryz.prog.globalNamed "internal/strconv.pow10Tab" = some 6 by kernel_rfl).symm.trans hg6)
  obtain rfl := Option.some.inj ((show (Tryz.prog.globals[6]?).map (·.type) = some 400 by kernel_rfl).symm.trans ht6)
  have r1 := row_cells (q := .u64) Tryz.underlying354 Tryz.underlying22 (by kernel_rfl) (by kernel_rfl) hd4
  have r6 := tab_cells (k := 2) Tryz.underlying400 (fun hy => pair_cells (q := .u64) Tryz.underlying399 (by kernel_rfl) (by kernel_rfl) (by kernel_rfl) (by kernel_rfl) rfl rfl (by kernel_rfl) hy) (by kernel_rfl) (by kernel_rfl) hd6
  intro g l hgl
  unfold gl at hgl
  split at hgl
  · simp only [Option.some.injEq] at hgl; subst hgl
    refine ⟨var_lt hg4 hv4, fun i v hi => ?_⟩
    rw [World.var?_cell hg4 hv4 i]
    have : cs4.toList[i]? = some v := by rw [← r1]; exact hi
    simpa using this
  · simp only [Option.some.injEq] at hgl; subst hgl
    refine ⟨var_lt hg6 hv6, fun i v hi => ?_⟩
    rw [World.var?_cell hg6 hv6 i]
    have : cs6.toList[i]? = some v := by rw [← r6]; exact hi
    simpa using this
  · cases hgl

theorem runs_ok {l : List LitEnt} (h : ∀ K : Fix, K.glob = gl → CallOk Tryz.prog K (litOracles l)) : ∀ K : Fix, K.glob = gl → CallOk Tryz.prog K (runs l K) :=
  fun _ hK => evalCall_sound (fun _ _ _ => extOf_ok extOk) (fun K2 hG _ => orElse_ok (h K2 ((congrArg Glb.glob hG).trans hK)) orc_ok) fol 3000 60

theorem nil_ok : ∀ K : Fix, K.glob = gl → CallOk Tryz.prog K (litOracles []) := fun _ _ => noOracle_ok
theorem cons_ok {e : LitEnt} {l : List LitEnt} (h : ∀ K : Fix, K.glob = gl → CallOk Tryz.prog K (litOracle e)) (k : ∀ K : Fix, K.glob = gl → CallOk Tryz.prog K (litOracles l)) : ∀ K : Fix, K.glob = gl → CallOk Tryz.prog K (litOracles (e :: l)) :=
  fun K hK => orElse_ok (h K hK) (k K hK)

theorem lit_ok {l : List LitEnt} {e : LitEnt} (hl : ∀ K : Fix, K.glob = gl → CallOk Tryz.prog K (litOracles l))
    (hr : ∀ (n0 : Nat) (w0 : World) (h) (ob) (vs), allIs e.res (runs l ⟨gl, n0, w0, h, ob, vs⟩ e.f (e.args.map .lit) S0) = true) : ∀ K : Fix, K.glob = gl → CallOk Tryz.prog K (litOracle e) :=
  litOracle_run (call := runs l) (runs_ok hl) (fun K hK => by
    obtain ⟨g, n0, w0, h, ob, vs⟩ := K
    change g = gl at hK
    subst hK
    exact hr n0 w0 h ob vs)

theorem ok_eI4 : ∀ K : Fix, K.glob = gl → CallOk Tryz.prog K (litOracle eI4) := lit_ok nil_ok run_eI4
theorem ok_eI1 : ∀ K : Fix, K.glob = gl → CallOk Tryz.prog K (litOracle eI1) := lit_ok nil_ok run_eI1
theorem ok_eU100 : ∀ K : Fix, K.glob = gl → CallOk Tryz.prog K (litOracle eU100) := lit_ok nil_ok run_eU100
theorem ok_eU1000 : ∀ K : Fix, K.glob = gl → CallOk Tryz.prog K (litOracle eU1000) := lit_ok nil_ok run_eU1000
theorem ok_eU50 : ∀ K : Fix, K.glob = gl → CallOk Tryz.prog K (litOracle eU50) := lit_ok nil_ok run_eU50
theorem ok_eU200 : ∀ K : Fix, K.glob = gl → CallOk Tryz.prog K (litOracle eU200) := lit_ok nil_ok run_eU200
theorem ok_eT : ∀ K : Fix, K.glob = gl → CallOk Tryz.prog K (litOracle eT) := lit_ok nil_ok run_eT
theorem ok06 : ∀ K : Fix, K.glob = gl → CallOk Tryz.prog K (litOracle (trueEnt 355)) := lit_ok nil_ok run06
theorem ok07 : ∀ K : Fix, K.glob = gl → CallOk Tryz.prog K (litOracle (trueEnt 348)) := lit_ok (cons_ok ok06 nil_ok) run07
theorem ok08 : ∀ K : Fix, K.glob = gl → CallOk Tryz.prog K (litOracle (trueEnt 344)) := lit_ok (cons_ok ok07 nil_ok) run08
theorem ok09 : ∀ K : Fix, K.glob = gl → CallOk Tryz.prog K (litOracle (trueEnt 337)) := lit_ok (cons_ok ok08 nil_ok) run09
theorem ok10 : ∀ K : Fix, K.glob = gl → CallOk Tryz.prog K (litOracle (trueEnt 292)) := lit_ok (cons_ok ok09 nil_ok) run10
theorem ok11 : ∀ K : Fix, K.glob = gl → CallOk Tryz.prog K (litOracle (trueEnt 243)) := lit_ok (cons_ok ok10 nil_ok) run11
theorem ok12 : ∀ K : Fix, K.glob = gl → CallOk Tryz.prog K (litOracle (trueEnt 195)) := lit_ok (cons_ok ok11 nil_ok) run12
theorem ok13 : ∀ K : Fix, K.glob = gl → CallOk Tryz.prog K (litOracle (trueEnt 66)) := lit_ok (cons_ok ok_eI4 (cons_ok ok_eI1 (cons_ok ok_eU100 (cons_ok ok_eU1000 (cons_ok ok_eU50 (cons_ok ok_eU200 (cons_ok ok_eT (cons_ok ok12 nil_ok)))))))) run13
theorem ok14 : ∀ K : Fix, K.glob = gl → CallOk Tryz.prog K (litOracle (trueEnt 91)) := lit_ok (cons_ok ok13 nil_ok) run14

theorem isTrue_of {o : Option (List (AVal × St))} (h : allIs (.bool true) o = true) : allTrue o = true := by
  cases o with
  | none => cases h
  | some l =>
    simp only [allIs, allTrue, List.all_eq_true] at h ⊢
    intro p hp
    rw [isLit_eq (h p hp)]; rfl

theorem awake_true (W : World) (hL : laidMetH Tryz.prog Rows.bagPlaysRow.laid W) : Calls Tryz.prog 29 #[] W fun e w' => e = .returned (.bool true) ∧ Below W.heap.size W w' :=
  calls_true ⟨gl, W.heap.size, W, gl_ok hL, Objs.none, fun _ => none⟩ rfl rfl (runs_ok (l := [trueEnt 91]) (cons_ok ok14 nil_ok) _ rfl) 29 (isTrue_of (run15 _ _ _ _ _))

end Go.Proofs.YtbdnlaepeladbaaGreatDoor
