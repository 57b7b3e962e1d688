/- What a law's arguments are: lists of regions. No condition. -/
import Derived.Test.YtijjonafmmhhbaaTArgs
import Derived.Test.YtijjonafmmhhbaaTRegs
namespace Go.Proofs.Ytijjonafmmhhbaa.Ab
set_option maxRecDepth 100000

theorem list_of {R : Type} {C : R → List AV} {S : List AV → Prop} {Q : R → Prop} (h : ∀ el, S el → ∃ r, el = C r ∧ Q r) : ∀ ll : List (List AV), (∀ el ∈ ll, S el) → ∃ rs : List R, ll = rs.map C ∧ ∀ r ∈ rs, Q r
  | [], _ => ⟨[], rfl, fun _ h => by cases h⟩
  | el :: ll, hs => by
    obtain ⟨rs, rfl, hq⟩ := list_of h ll fun e he => hs e (List.mem_cons_of_mem _ he)
    obtain ⟨r, rfl, h1⟩ := h el (hs el List.mem_cons_self)
    refine ⟨r :: rs, rfl, fun q hq' => ?_⟩
    rcases List.mem_cons.1 hq' with rfl | h2
    · exact h1
    · exact hq q h2
theorem sh_int {n : Nat} {c : List AV} (hs : Sh Try.prog (n + 1) 3 c) : ∃ a, c = [.v (.int .i64 a)] ∧ I64 a := by
  simp only [Sh, Try.underlying3] at hs
  obtain ⟨w, rfl, hw⟩ := hs
  exact ⟨w, rfl, wf_i64 hw⟩
theorem sh_bool {n : Nat} {c : List AV} (hs : Sh Try.prog (n + 1) 4 c) : ∃ a, c = [.v (.bool a)] := by
  simp only [Sh, Try.underlying4] at hs
  exact hs
theorem lendC {R : Type} (C : R → List AV) (bs : List R) : List.take bs.length (List.drop 0 (bs.map C)) = bs.map C := by rw [List.drop_zero, ← List.length_map (f := C), List.take_length]
end Go.Proofs.Ytijjonafmmhhbaa.Ab
