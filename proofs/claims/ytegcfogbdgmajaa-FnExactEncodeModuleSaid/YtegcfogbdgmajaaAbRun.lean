/- How the model's own operations run on memory that is known. No condition. -/
import Derived.Test.YtegcfogbdgmajaaAbSeg
namespace Go.Proofs.Ytegcfogbdgmajaa.Ab
set_option linter.unusedVariables false
set_option linter.unusedSimpArgs false

/-- A zero cell. -/
def Z0 (x : AV) (v : Value) : Prop := (∃ y, x = .v y ∧ v = y ∧ y.oneCell' = true) ∨ (∃ s, x = .sl s [] ∧ v = .slice none 0 0)
theorem Z0.c0 {G w Ro S x v} (h : Z0 x v) : C0 G w Ro S x v := by
  rcases h with ⟨y, rfl, rfl, h⟩ | ⟨s, rfl, rfl⟩
  · exact .inl ⟨rfl, .ir _ _ rfl (.v _ _ h), h⟩
  · exact .inr ⟨s, none, rfl, rfl⟩

def descAgg : TypeDesc → Bool | .struct _ => true | .array _ _ => true | _ => false

def KindOk (P : Program) : TypeDesc → TK → Prop
  | .int k, .int k' => k = k'
  | .slice e, .slice e' es => e = e' ∧ ∃ i, P.info? e = some i ∧ i.size = es
  | .struct fs, .struct fs' => fs.size = fs'.length ∧ ∀ (n : Nat) f, fs[n]? = some f → ∃ i, P.info? f.type = some i ∧ fs'[n]? = some (f.offset, i.size)
  | .array n e, .array n' es => n = n' ∧ ∃ i, P.info? e = some i ∧ i.size = es
  | .bool, .bool => True
  | .string, .str => True
  | .map k e, .map k' e' => k = k' ∧ e = e'
  | _, .ptr => True
  | _, .func => True
  | _, .other => True
  | _, _ => False

structure TIok (P : Program) (ty : TypeId) (i : TI) : Prop where
  all : ∃ info d z, P.info? ty = some info ∧ info.size = i.size ∧ info.bytes = i.bytes ∧ P.underlying ty = some d ∧ i.agg = descAgg d ∧ KindOk P d i.kind ∧
    info.zero = some z ∧ z.cells.size = i.size ∧ i.zero.length = i.size ∧ (∀ (j : Nat) x, i.zero[j]? = some x → Z0 x (z.cells.getD j undef)) ∧ 0 < i.size

section
variable {P : Program} {w : World}

theorem run_isAgg {t : TypeId} {d : TypeDesc} (h : P.underlying t = some d) : (isAgg t).run P w = .ok (descAgg d) w := by
  simp [isAgg, run_underlying h]
  cases d <;> rfl
theorem run_sizeOf' {t : TypeId} {i : TypeInfo} (h : P.info? t = some i) : (sizeOf t).run P w = .ok i.size w := by
  simp [sizeOf, typeInfo, h]
theorem run_zero {t : TypeId} {i : TypeInfo} {z : Value} (h : P.info? t = some i) (hz : i.zero = some z) : (zeroValue t).run P w = .ok z w := by
  simp [zeroValue, typeInfo, h, hz]

theorem add_off (b o n : Nat) : Addr.add ⟨b, o, none⟩ n = ⟨b, o + n, none⟩ := by
  unfold Addr.add
  split
  · subst_vars; rfl
  · rfl

/-- The values that lie in an array's part. -/
def segV (cs : Array Value) (o n : Nat) : List Value := (List.range n).map fun j => cs.getD (o + j) undef
theorem segV_length (cs : Array Value) (o n : Nat) : (segV cs o n).length = n := by simp [segV]
theorem segV_getD (cs : Array Value) (o n j : Nat) (h : j < n) : (segV cs o n).getD j undef = cs.getD (o + j) undef := by
  simp [segV, List.getD_eq_getElem?_getD, h]

theorem run_loadVar {ty : TypeId} {i : TI} (hi : TIok P ty i) {b o : Nat} {cs : Array Value} {T fz} (hb : w.heap[b]? = some (.cells cs T fz)) (ho : o + i.size ≤ cs.size) :
    (loadVar ty ⟨b, o, none⟩).run P w = .ok (if i.agg then .agg (segV cs o i.size).toArray else cs.getD o undef) w := by
  obtain ⟨info, d, z, h1, h2, h3, h4, h5, h6, h7, h8, h9, h10, h11⟩ := hi
  have hc : ∀ j, j < i.size → w.cell? ⟨b, o + j, none⟩ = some (cs.getD (o + j) undef) := fun j hj => by
    simp [World.cell?, hb, show o + j < cs.size by omega]
  unfold loadVar
  simp only [Sem.run_bind, run_isAgg h4, Result.andThen_ok, h5]
  cases hd : descAgg d with
  | true =>
    simp only [if_true, Sem.run_bind, run_sizeOf' h1, Result.andThen_ok, h2]
    rw [run_loadCells (P := P) w ⟨b, o, none⟩ i.size (fun j => cs.getD (o + j) undef) (fun j hj => by rw [add_off]; exact hc j hj)]
    rfl
  | false =>
    have := hc 0 h11
    simp only [Nat.add_zero] at this
    simp [run_load, this]

theorem run_storeVar {ty : TypeId} {i : TI} (hi : TIok P ty i) {b o : Nat} {cs : Array Value} {T} (hb : w.heap[b]? = some (.cells cs T (0, 0))) {v : Value} {vs : List Value} (hv : v.cells = vs.toArray) (hl : vs.length = i.size)
    (ho : o + i.size ≤ cs.size) (h1 : ∀ x ∈ vs, x.oneCell' = true) :
    (storeVar ty ⟨b, o, none⟩ v).run P w = .ok () (w.setRow b (cs.toList.take o ++ vs ++ cs.toList.drop (o + vs.length)).toArray) := by
  obtain ⟨info, d, z, p1, p2, _⟩ := hi
  unfold storeVar
  simp only [Sem.run_bind, run_sizeOf' p1, Result.andThen_ok, hv, p2]
  rw [if_neg (by simp [hl])]
  have := run_storeCells_at P b o T vs 0 cs w hb (by omega) h1
  simpa using this
end

end Go.Proofs.Ytegcfogbdgmajaa.Ab
