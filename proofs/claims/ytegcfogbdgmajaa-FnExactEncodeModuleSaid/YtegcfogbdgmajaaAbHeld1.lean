/- One operation, looked at with other temporaries or in another memory. No condition. -/
import Derived.Test.YtegcfogbdgmajaaAbCan
namespace Go.Proofs.Ytegcfogbdgmajaa.Ab
set_option linter.unusedVariables false
set_option linter.unusedSimpArgs false

theorem putK_eq (t : TS) (d : Option Tmp) (x : AV) (k : TS → Prop) : putK t d x k = k (putF t d x) := by
  cases d with
  | none => rfl
  | some i => simp only [putK, putF, setK_eq]
theorem putF_length (t : TS) (d : Option Tmp) (x : AV) : (putF t d x).length = t.length := by cases d <;> simp [putF]

/-- The end that names what is left. -/
def kx (o : Oper) (x : AV) (h2 : HP) (t : TS) : TS → HP → Prop := fun t' h' => t' = putF t o.dst x ∧ h' = h2
theorem kx_congr {o : Oper} {x : AV} {h2 : HP} {t s : TS} (hl : t.length = s.length) (z : AV) (h' : HP) : kx o x h2 t (putF t o.dst z) h' = kx o x h2 s (putF s o.dst z) h' := by
  cases hd : o.dst with
  | none => simp [kx, putF, hd]
  | some d =>
    simp only [kx, putF, hd]
    have key : ∀ (l : TS), (l.set d z = l.set d x) = (d < l.length → z = x) := fun l => propext ⟨fun h hlt => by
      have := congrArg (·[d]?) h
      simpa [hlt] using this, fun h => by
      by_cases hlt : d < l.length
      · rw [h hlt]
      · rw [List.set_eq_of_length_le (Nat.le_of_not_lt hlt), List.set_eq_of_length_le (Nat.le_of_not_lt hlt)]⟩
    rw [key, key, hl]

/-- The end that says what is left. -/
def kr (o : Oper) (Res : AV → HP → Prop) (t : TS) : TS → HP → Prop := fun t' h' => ∃ x h2, Res x h2 ∧ t' = putF t o.dst x ∧ h' = h2
theorem kr_congr {o : Oper} {Res : AV → HP → Prop} {t s : TS} (hl : t.length = s.length) (z : AV) (h' : HP) : kr o Res t (putF t o.dst z) h' = kr o Res s (putF s o.dst z) h' := by
  unfold kr
  congr 1; funext x; congr 1; funext h2
  have := kx_congr (o := o) (x := x) (h2 := h2) hl z h'
  unfold kx at this
  rw [this]

theorem bndK_congr {t s : TS} {o : Option Operand} {d : Nat} {k : Nat → Prop} (h : ∀ x, o = some x → evF t x = evF s x) : bndK t o d k = bndK s o d k := by
  cases o with
  | none => rfl
  | some x => simp only [bndK, evK_eq, h x rfl]
theorem elemsK_congr {t s : TS} {ei : TI} : ∀ (l : List (Nat × Operand)) (j : Nat) (h : HP) (k : List (List AV) → HP → Prop), (∀ p ∈ l, evF t p.2 = evF s p.2) → elemsK t ei j l h k = elemsK s ei j l h k
  | [], j, h, k, he => rfl
  | (i, x) :: l, j, h, k, he => by
    simp only [elemsK, evK_eq]
    rw [he (i, x) List.mem_cons_self]
    have : ∀ j h k, elemsK t ei j l h k = elemsK s ei j l h k := fun j h k => elemsK_congr l j h k fun p hp => he p (List.mem_cons_of_mem _ hp)
    simp only [this]
theorem map_evF_congr {t s : TS} {l : List Operand} (h : ∀ x ∈ l, evF t x = evF s x) : l.map (evF t) = l.map (evF s) := List.map_congr_left h

theorem kp_congr {o : Oper} {x : AV} {h2 : HP} {t s : TS} (hl : t.length = s.length) (z : AV) (h' : HP) : (putK t o.dst z fun t' => kx o x h2 t t' h') = (putK s o.dst z fun t' => kx o x h2 s t' h') := by
  rw [putK_eq, putK_eq]; exact kx_congr hl z h'
set_option maxHeartbeats 1000000 in
theorem opP_congrK {C : Ctx} {o : Oper} {t s : TS} {h : HP} {k1 k2 : TS → HP → Prop} (he : ∀ y ∈ o.op.operands, evF t y = evF s y) (key : ∀ z h', (putK t o.dst z fun t' => k1 t' h') = (putK s o.dst z fun t' => k2 t' h')) : opP C o t h k1 = opP C o s h k2 := by
  unfold opP
  cases ho : o.op <;> rw [ho] at he <;> simp only [Op.operands] at he
  case build ty ps =>
    have : ps.toList.map (fun p => (p.1, evF t p.2)) = ps.toList.map (fun p => (p.1, evF s p.2)) := List.map_congr_left fun p hp => by rw [he p.2 (by simp; exact ⟨p.1, by simpa using hp⟩)]
    simp only [mapK_ps, this, key]
  case buildSlice ty n ps =>
    have : ∀ ei j h k, elemsK t ei j ps.toList h k = elemsK s ei j ps.toList h k := fun ei j h k => elemsK_congr _ j h k fun p hp => he p.2 (by simp; exact ⟨p.1, by simpa using hp⟩)
    simp only [this, key]
  case makeFunc f fs cs =>
    have : cs.toList.map (evF t) = cs.toList.map (evF s) := map_evF_congr fun x hx => he x (by simp at hx ⊢; exact .inr hx)
    simp only [mapK_ev, this, key]
  case call c =>
    have : c.args.toList.map (evF t) = c.args.toList.map (evF s) := map_evF_congr fun x hx => he x (by simp at hx; simp [Call.operands, hx])
    simp only [mapK_ev, this, evK_eq, key]
    have hf : ∀ f, c.callee = .value f → evF t f = evF s f := fun f hf => he f (by simp [Call.operands, hf])
    split <;> try rfl
    rename_i f hcal
    rw [hf f hcal]
  case slice ty y lo hi mx =>
    have h1 : evF t y = evF s y := he y (by cases lo <;> cases hi <;> cases mx <;> simp)
    have hlo : ∀ d k, bndK t lo d k = bndK s lo d k := fun d k => bndK_congr fun z hz => by subst hz; exact he z (by cases hi <;> cases mx <;> simp)
    have hhi : ∀ d k, bndK t hi d k = bndK s hi d k := fun d k => bndK_congr fun z hz => by subst hz; exact he z (by cases lo <;> cases mx <;> simp)
    have hmx : ∀ d k, bndK t mx d k = bndK s mx d k := fun d k => bndK_congr fun z hz => by subst hz; exact he z (by cases lo <;> cases hi <;> simp)
    simp only [evK_eq, h1, sliceP, hlo, hhi, hmx, key]
  case makeMap ty r => cases r <;> simp only [key]
  all_goals (first | rfl | (simp at he; simp only [evK_eq, he, key]))
theorem opP_congr {C : Ctx} {o : Oper} {t s : TS} {h h2 : HP} {x : AV} (hl : t.length = s.length) (he : ∀ y ∈ o.op.operands, evF t y = evF s y) : opP C o t h (kx o x h2 t) = opP C o s h (kx o x h2 s) :=
  opP_congrK he fun z h' => kp_congr hl z h'
theorem opP_congrR {C : Ctx} {o : Oper} {t s : TS} {h : HP} {Res : AV → HP → Prop} (hl : t.length = s.length) (he : ∀ y ∈ o.op.operands, evF t y = evF s y) : opP C o t h (kr o Res t) = opP C o s h (kr o Res s) :=
  opP_congrK he fun z h' => by rw [putK_eq, putK_eq]; exact kr_congr hl z h'
end Go.Proofs.Ytegcfogbdgmajaa.Ab
