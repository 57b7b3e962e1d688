/- The row FnExactMachineOk: the law returns true, whatever its arguments. No condition. -/
import Derived.Test.YtbfjkjdbdejnmaaGreatWalk19
namespace Go.Proofs.YtbfjkjdbdejnmaaGreat.RowFnExactMachineOk
open Go.ChangeShapes Go.WideShapes Go.ChangeAt Go.RowKit Go.Proofs.YtbfjkjdbdejnmaaGreat.Ab
set_option linter.unusedVariables false
set_option linter.unusedSimpArgs false

theorem own : ownKnob Tryz.prog.godebug = none := by kernel_rfl
set_option maxRecDepth 100000 in
theorem lifted (os : Os) (started : os.Started) (H : Type) (enc : TypeId × Value → H) :
    ReturnsInHanded {} Tryz.checked os 6 .any (Rows.fnExactMachineOkSpec.pre6 enc Tryz.prog Tryz.f6 Rows.fnExactMachineOkRow.domain false) (Rows.fnExactMachineOkSpec.post enc Tryz.prog Tryz.f6 false true false false) := by
  refine returnsInHanded_of_change_sized (C := Tryz.checked) own started (by kernel_rfl) Tryz.func6
    (ChangeSpec.witness6 (enc := enc) (C := Tryz.checked) false ⟨#[], #[.agg #[.slice none 0 0, .int .i64 0, .int .i64 0, .int .i64 0, .int .i64 0, .int .i64 0, .slice none 0 0, .slice none 0 0, .slice none 0 0, .slice none 0 0, .int .i64 0, .int .i64 0, .slice none 0 0, .slice none 0 0, .int .i64 0]], []⟩ 8 (by kernel_rfl) (by kernel_rfl) (by kernel_rfl) (by kernel_rfl)) ?_
  intro W base args ds gs before hval0 hW hcnd hsz0 _
  have hval : ∀ (j : Nat) t v, Tryz.f6.params[j]? = some t → args[j]? = some v → Value.okWide Tryz.prog W .any base t v := hval0
  have hW' := hW
  obtain ⟨p, q, hA0, hV, rfl, hfz, hnd⟩ := hW
  have hA : DataW.TrodAll enc Tryz.prog W 0 (fun _ => true) true Tryz.f6.params.toList args.toList ds p := hA0
  have hsz : (DataW.weightsEach Tryz.prog (Tryz.f6.params.toList ++ Rows.fnExactMachineOkSpec.plain.varTypes Tryz.prog) (ds ++ gs)).all (· ≤ reachBytes) = true := hsz0
  obtain ⟨rfl, rfl⟩ := trodVars_none hV
  obtain ⟨xs, h1, h2, h3⟩ := open_args (S := fun _ => False) (n := 7) (P := Tryz.prog) (by kernel_rfl) hA hsz (fun j t v h1 h2 => hval j t v (by simpa using h1) (by simpa using h2))
  obtain ⟨d0, rfl⟩ : ∃ d0 : DataW H, ds = [d0] := by
    have hlen : ds.length = 1 := trodAll_len hA
    rcases ds with _ | ⟨d0, _ | ⟨_, _⟩⟩ <;> simp at hlen
    exact ⟨d0, rfl⟩
  refine (law_calls (Hd := inlH _ _ _ _) (inlF cx6_ok mixed Tryz.func6 rfl) (by simpa using h2) h3 (s6 xs h1)).mono fun e W' ⟨he, bel⟩ => ?_
  subst he
  exact ⟨_, rfl, _, _, _, [], _, [], hW', trodAll_mk1 (shut_bool Tryz.underlying4 _), trodAll_below (by kernel_rfl) bel (by kernel_rfl) hA (fun x hx => hW'.lt x (List.mem_append_left _ hx)), rfl, bel.frame _, fun h => by cases h⟩
theorem over : Rows.fnExactMachineOkRow.holds Tryz.pinned (OpenSpec.ofChange Rows.fnExactMachineOkSpec) :=
  OpenClaim.holds_of_wide 6 Tryz.f6 rfl rfl rfl rfl rfl rfl rfl ⟨rfl, rfl, rfl, rfl, rfl⟩ rfl rfl rfl rfl rfl (by kernel_rfl) Tryz.func6 (by kernel_rfl)
    (of_decide_eq_true (by kernel_rfl)) (by unfold Func.isWrapper; first | (rw [if_pos (by decide +kernel)]; kernel_rfl) | (rw [if_neg (by decide +kernel)]; exact ⟨rfl, rfl⟩))
    (fun os started H enc _ => lifted os started H enc)
end Go.Proofs.YtbfjkjdbdejnmaaGreat.RowFnExactMachineOk
namespace Go.Proofs.YtbfjkjdbdejnmaaGreat
/-- The row, under a short name, for the claim. -/
theorem fnExactMachineOk_holds : Rows.FnExactMachineOkSaid := RowFnExactMachineOk.over
#print axioms fnExactMachineOk_holds
end Go.Proofs.YtbfjkjdbdejnmaaGreat
