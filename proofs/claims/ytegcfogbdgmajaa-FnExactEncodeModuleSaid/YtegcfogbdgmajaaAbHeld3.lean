/- Operations that may come up at any time. No condition. -/
import Derived.Test.YtegcfogbdgmajaaAbHeld2
namespace Go.Proofs.Ytegcfogbdgmajaa.Ab
set_option linter.unusedVariables false
set_option linter.unusedSimpArgs false

section
variable {C : Ctx} {o : Oper} {t : TS} {h : HP} {k : TS → HP → Prop} {n : Nat}
def FlR (C : Ctx) (o : Oper) (t : TS) (h : HP) (n : Nat) (k : TS → HP → Prop) : Prop :=
  ∃ x, k (putF t o.dst x) h ∧ opP C o t h (kx o x h t) ∧ (n = 0 → ∀ h2, opP C o t h2 (kx o x h2 t))
theorem fl_mk {V : (AV → Prop) → Prop} (hV : Fnl V) (hE : ∀ h' k, (n = 0 ∨ h' = h) → opP C o t h' k = V (fun x => k (putF t o.dst x) h')) (hp : opP C o t h k) : FlR C o t h n k := by
  rw [hE _ _ (.inr rfl)] at hp
  obtain ⟨x, h1, h2⟩ := hV _ hp
  exact ⟨x, h1, by rw [hE _ _ (.inr rfl)]; exact h2 _ ⟨rfl, rfl⟩, fun hn h' => by rw [hE _ _ (.inl hn)]; exact h2 _ ⟨rfl, rfl⟩⟩

theorem fl_move {x : Operand} (ho : o.op = .move x) (hp : opP C o t h k) : FlR C o t h n k :=
  fl_mk (V := fun K => K (evF t x)) (.pure _) (fun h' k _ => by unfold opP; simp only [ho, evK_eq, putK_eq]) hp
theorem fl_assign {x : Operand} (ho : o.op = .assign x) (hx : evF t x ≠ .nils) (hp : opP C o t h k) : FlR C o t h n k := by
  refine fl_mk (V := fun K => K (evF t x)) (.pure _) (fun h' k _ => ?_) hp
  unfold opP
  simp only [ho, evK_eq, putK_eq]
theorem fl_pick {c x y : Operand} (ho : o.op = .pick c x y) (hp : opP C o t h k) : FlR C o t h n k := by
  refine fl_mk (V := fun K => match evF t c with | .v (.bool b) => (b = true → K (evF t x)) ∧ (b = false → K (evF t y)) | _ => False) ?_ (fun h' k _ => by unfold opP; simp only [ho, evK_eq, putK_eq]; rfl) hp
  split
  · exact .bool (.pure _) (.pure _)
  · exact .none
theorem fl_nilCheck {x : Operand} (ho : o.op = .nilCheck x) (hp : opP C o t h k) : FlR C o t h n k := by
  refine fl_mk (V := fun K => match evF t x with | .ptr r e f n => K (.ptr r e f n) | .aptr r f j => K (.aptr r f j) | .iptr b l => K (.iptr b l) | .fn f c => K (.fn f c) | _ => False) ?_ (fun h' k _ => by unfold opP; simp only [ho, evK_eq, putK_eq]; rfl) hp
  split <;> first | exact .pure _ | exact .none
theorem fl_extract {x : Operand} {m : Nat} (ho : o.op = .extract x m) (hp : opP C o t h k) : FlR C o t h n k := by
  refine fl_mk (V := fun K => match evF t x with | .tup l => on l[m]? K | _ => False) ?_ (fun h' k _ => by unfold opP; simp only [ho, evK_eq, putK_eq]; rfl) hp
  split
  · exact .on fun _ => .pure _
  · exact .none
theorem fl_fieldAddr {ty : TypeId} {x : Operand} {m : Nat} (ho : o.op = .fieldAddr ty x m) (hp : opP C o t h k) : FlR C o t h n k := by
  refine fl_mk (V := fun K => on (C.tab ty) fun i => match i.kind with
    | .struct fs => on fs[m]? fun f => (match evF t x with
      | .ptr r e b _ => if f.2 == 0 then False else K (.ptr r e (b + f.1) f.2)
      | .iptr b l => if f.2 == 0 then False else cutK l f.1 f.2 fun l => K (.iptr b l)
      | _ => False)
    | _ => False) (.on fun i => ?_) (fun h' k _ => by unfold opP; simp only [ho, evK_eq, putK_eq]; rfl) hp
  split
  · refine .on fun f => ?_
    split
    · exact .ite .none (.pure _)
    · exact .ite .none (.bind (.cut _ _ _) fun _ => .pure _)
    · exact .none
  · exact .none
theorem fl_binOp {op : BinOp} {ty ty' : TypeId} {x y : Operand} (ho : o.op = .binOp op ty x y ty') (hy : evF t y ≠ .nils) (hp : opP C o t h k) : FlR C o t h n k :=
  fl_mk (.bin op (C.tab ty) (evF t x) (evF t y) hy) (fun h' k _ => by unfold opP; simp only [ho, evK_eq, putK_eq]) hp
theorem fl_unOp {op : UnOp} {ty : TypeId} {x : Operand} (ho : o.op = .unOp op ty x) (hp : opP C o t h k) : FlR C o t h n k := by
  refine fl_mk (V := fun K => match (generalizing := false) op, evF t x with
    | .not, .v (.bool b) => K (.v (.bool (!b)))
    | .neg, .v (.int n a) => intOp .sub n 0 a K
    | .xor, .v (.int n a) => intOp .xor n (if n.signed then -1 else n.max) a K
    | _, _ => False) ?_ (fun h' k _ => by unfold opP; simp only [ho, evK_eq, putK_eq]; rfl) hp
  split
  · exact .pure _
  · exact .intO _ _ _ _
  · exact .intO _ _ _ _
  · exact .none
theorem fl_index {ty : TypeId} {x y : Operand} (ho : o.op = .index ty x y) (hp : opP C o t h k) : FlR C o t h n k := by
  refine fl_mk (V := fun K => on (C.tab ty) fun i => match i.kind, evF t x, evF t y with
    | .str, .v (.string s), .v (.int _ z) => ∃ j : Nat, z = (j : Int) ∧ ∃ b, s.data[j]? = some b ∧ K (.v (.int .u8 b.toNat))
    | _, _, _ => False) (.on fun i => ?_) (fun h' k _ => by unfold opP; simp only [ho, evK_eq, putK_eq]; rfl) hp
  split
  · exact .ex fun _ => .and (.ex fun _ => .and (.pure _))
  · exact .none
theorem fl_build {ty : TypeId} {ps : Array (Nat × Operand)} (ho : o.op = .build ty ps) (hp : opP C o t h k) : FlR C o t h n k := by
  refine fl_mk (V := fun K => on (C.tab ty) fun i => match i.kind with
    | .struct fs => fillK (fun n => fs[n]?) (ps.toList.map fun p => (p.1, evF t p.2)) (i.zero.map nilF) fun l => K (.agg l)
    | .array _ es => fillK (fun n => some (n * es, es)) (ps.toList.map fun p => (p.1, evF t p.2)) (i.zero.map nilF) fun l => K (.agg l)
    | _ => False) (.on fun i => ?_) (fun h' k _ => by unfold opP; simp only [ho, mapK_ps, mapK_nil, putK_eq]; rfl) hp
  split
  · exact .bind (.fill _ _ _) fun _ => .pure _
  · exact .bind (.fill _ _ _) fun _ => .pure _
  · exact .none
theorem fl_convert {s d : TypeId} {x : Operand} (ho : o.op = .convert s d x) {i : TI} {m : IntKind} (hi : C.tab d = some i) (hk : i.kind = .int m) (hp : opP C o t h k) : FlR C o t h n k := by
  refine fl_mk (V := fun K => on (C.tab s) fun _ => match evF t x with | .v (.int _ a) => K (.v (.int m (m.wrap a))) | _ => False) (.on fun _ => ?_) (fun h' k _ => by unfold opP; simp only [ho, evK_eq, putK_eq, hi, on, hk]; generalize evF t x = a; cases a <;> first | rfl | (rename_i u; cases u <;> rfl)) hp
  split
  · exact .pure _
  · exact .none
theorem fl_len {c : Call} (ho : o.op = .call c) (hc : c.callee = .builtin .len) (hp : opP C o t h k) : FlR C o t h n k := by
  refine fl_mk (V := fun K => on (c.argTypes[0]?) fun ty => on (C.tab ty) fun i => lenP i (c.args.toList.map (evF t)) K) (.on fun _ => .on fun i => ?_) (fun h' k _ => by unfold opP; simp only [ho, mapK_ev, hc, putK_eq]) hp
  intro K hK
  unfold lenP at hK ⊢
  split at hK <;> first | exact hK.elim | exact ⟨_, hK, fun _ h => h⟩
theorem Fnl.imm (b : Bool) (l : List AV) : Fnl (mapK (immCellK b) l) := by
  induction l with
  | nil => exact .pure _
  | cons a l ih =>
    refine .bind (V := immCellK b a) ?_ fun _ => .bind ih fun _ => .pure _
    cases a <;> exact .pure _
theorem Fnl.val (i : TI) (cs : List AV) : Fnl (valK i cs) := by
  intro K hK
  unfold valK at hK ⊢
  split at hK <;> first | exact hK.elim | exact ⟨_, hK, fun _ h => h⟩
theorem fl_loadI {ty : TypeId} {x : Operand} (ho : o.op = .load ty x) {b : Bool} {l : List AV} (hx : evF t x = .iptr b l) (hp : opP C o t h k) : FlR C o t h n k := by
  refine fl_mk (V := fun K => on (C.tab ty) fun i => cutK l 0 i.size fun cs => mapK (immCellK b) cs fun cs => valK i cs K) (.on fun _ => .bind (.cut _ _ _) fun _ => .bind (.imm _ _) fun _ => .val _ _) (fun h' k _ => by unfold opP; simp only [ho, evK_eq, hx, loadP, putK_eq]) hp
theorem outK_none : ∀ {cs : List AV} {h : HP} {k : List AV → HP → Prop}, cs.any AV.isSl = false → outK cs h k = k cs h
  | [], h, k, _ => rfl
  | c :: cs, h, k, hs => by
    simp only [List.any_cons, Bool.or_eq_false_iff] at hs
    have : ∀ h k, outK cs h k = k cs h := fun h k => outK_none hs.2
    cases c <;> simp [AV.isSl] at hs <;> simp only [outK, this]
theorem fl_loadB {ty : TypeId} {x : Operand} (ho : o.op = .load ty x) {i : TI} (hi : C.tab ty = some i) {r f m : Nat} {cells : List AV} (hx : evF t x = .ptr r 0 f m) (hr : h[r]? = some (.box cells)) (hs : ((cells.drop f).take i.size).any AV.isSl = false)
    (hn : n ≠ 0) (hp : opP C o t h k) : FlR C o t h n k := by
  have e : ∀ k, opP C o t h k = (f + i.size ≤ cells.length ∧ valK i ((cells.drop f).take i.size) fun x => k (putF t o.dst x) h) := by
    intro k
    unfold opP
    have hrk : ∀ (k : Root → Prop), rootK h r k = k (.box cells) := fun k => by
      clear hx hp
      induction h generalizing r with
      | nil => simp at hr
      | cons a h ih => cases r with
        | zero => simp at hr; subst hr; rfl
        | succ r => exact ih (by simpa using hr)
    have hset : h.set r (.box cells) = h := by
      apply List.ext_getElem?
      intro j
      rw [List.getElem?_set]
      split
      · rename_i hj; subst hj
        split
        · exact hr.symm
        · rename_i hlt; rw [List.getElem?_eq_none (by omega)]
      · rfl
    simp only [ho, evK_eq, hx, loadP, hi, on, hrk, cutK_eq, outK_none hs, layK_eq, putK_eq, setK_eq]
    refine propext ⟨fun ⟨h1, h2, h3⟩ => ?_, fun ⟨h1, h3⟩ => ?_⟩
    · refine ⟨h1, ?_⟩
      have hl : lay cells f ((cells.drop f).take i.size) = cells := by
        unfold lay
        rw [show ((cells.drop f).take i.size).length = i.size by simp; omega, List.append_assoc, show cells.drop (f + i.size) = (cells.drop f).drop i.size by rw [List.drop_drop], List.take_append_drop, List.take_append_drop]
      rw [hl, hset] at h3
      exact h3
    · refine ⟨h1, by simp; omega, ?_⟩
      have hl : lay cells f ((cells.drop f).take i.size) = cells := by
        unfold lay
        rw [show ((cells.drop f).take i.size).length = i.size by simp; omega, List.append_assoc, show cells.drop (f + i.size) = (cells.drop f).drop i.size by rw [List.drop_drop], List.take_append_drop, List.take_append_drop]
      rw [hl, hset]
      exact h3
  exact fl_mk (V := fun K => f + i.size ≤ cells.length ∧ valK i ((cells.drop f).take i.size) K) (.and (.val _ _)) (fun h' k hh => by rcases hh with hh | rfl; exact absurd hh hn; exact e k) hp
theorem Fnl.root (h : HP) (r : Nat) : Fnl (rootK h r) := by
  induction h generalizing r with
  | nil => exact .none
  | cons a h ih => cases r with
    | zero => exact .pure a
    | succ r => exact ih r
theorem fl_loadA {ty : TypeId} {x : Operand} (ho : o.op = .load ty x) {r f j : Nat} (hx : evF t x = .aptr r f j) (hn : n ≠ 0) (hp : opP C o t h k) : FlR C o t h n k := by
  refine fl_mk (V := fun K => on (C.tab ty) fun i => match i.agg with
    | true => False
    | false => rootK h r fun root => match root with
      | .box cells => ∃ x, cells[j + f]? = some x ∧ x.isSl = false ∧ (match Nat.beq i.size 1 with | true => K x | false => False)
      | _ => False) (.on fun i => ?_) (fun h' k hh => by rcases hh with hh | rfl; exact absurd hh hn; unfold opP; simp only [ho, evK_eq, hx, loadP, putK_eq]; rfl) hp
  split
  · exact .none
  · refine .bind (.root h r) fun root => ?_
    split
    · refine .ex fun x => .and (.and ?_)
      split
      · exact .pure _
      · exact .none
    · exact .none
theorem fl_indexAddr {ty : TypeId} {x y : Operand} (ho : o.op = .indexAddr ty x y) (hn : n ≠ 0) (hp : opP C o t h k) : FlR C o t h n k := by
  refine fl_mk (V := fun K => on (C.tab ty) fun i => match i.kind, evF t x, evF t y with
    | .slice _ es, .slc r b n _, .v (.int _ z) => rootK h r fun root => match root with
      | .lst s _ => if s == es then ∃ j : Nat, z = (j : Int) ∧ j < n ∧ K (.ptr r (b + j) 0 es) else False
      | _ => False
    | .slice _ es, .imm b _ s l, .v (.int _ z) => if s == es then ∃ j : Nat, z = (j : Int) ∧ ∃ el, l[j]? = some el ∧ K (.iptr b el) else False
    | .array n 1, .ptr r 0 f _, .v (.int _ z) => ∃ j : Nat, z = (j : Int) ∧ j < n ∧ K (.aptr r f j)
    | .array n 1, .iptr b l, .v (.int _ z) => ∃ j : Nat, z = (j : Int) ∧ j < n ∧ ∃ x, l[j]? = some x ∧ K (.iptr b [x])
    | _, _, _ => False) (.on fun i => ?_) (fun h' k hh => ?_) hp
  · split
    · refine .bind (.root h _) fun root => ?_
      split
      · exact .ite (.ex fun _ => .and (.and (.pure _))) .none
      · exact .none
    · exact .ite (.ex fun _ => .and (.ex fun _ => .and (.pure _))) .none
    · exact .ex fun _ => .and (.and (.pure _))
    · exact .ex fun _ => .and (.and (.ex fun _ => .and (.pure _)))
    · exact .none
  · rcases hh with hh | rfl
    · exact absurd hh hn
    unfold opP
    simp only [ho, evK_eq, putK_eq]
    rfl

theorem avO_evF {t : TS} {x : Operand} {a : AV} (h : avO t x = a) (ha : a ≠ .top) : evF t x = a := by
  cases x <;> simp only [avO, evF] at * <;> first | exact h | exact absurd h.symm ha
theorem evF_avO {t : TS} {x : Operand} (ha : avO t x ≠ .top) : evF t x = avO t x := avO_evF rfl ha
theorem fl_spec {ops : List Oper} (hf : flK C ops t h o = n + 1) (hg : gOff ops t o = false) (hn : n = 0 ∨ n = 1) (hp : opP C o t h k) : FlR C o t h n k := by
  unfold flK at hf
  simp only [hg] at hf
  cases ho : o.op <;> simp only [ho] at hf
  case move x => exact fl_move ho hp
  case assign x =>
    refine fl_assign ho (fun he => ?_) hp
    split at hf
    · rename_i i
      simp only [evF] at he
      rw [he] at hf
      cases hf
    · cases hf
    · rename_i h1 h2
      cases x with
      | tmp i => exact h1 i rfl
      | const v =>
        simp only [evF] at he
        split at he <;> first | exact h2 _ _ _ rfl | cases he
      | global g => cases he
      | func f => cases he
  case pick c x y => exact fl_pick ho hp
  case nilCheck x => exact fl_nilCheck ho hp
  case extract x m => exact fl_extract ho hp
  case fieldAddr ty x m => exact fl_fieldAddr ho hp
  case binOp op ty x y ty' =>
    refine fl_binOp ho (fun he => ?_) hp
    split at hf
    · rename_i i
      simp only [evF] at he
      rw [he] at hf
      cases hf
    · cases hf
    · rename_i h1 h2
      cases y with
      | tmp i => exact h1 i rfl
      | const v =>
        simp only [evF] at he
        split at he <;> first | exact h2 _ _ _ rfl | cases he
      | global g => cases he
      | func f => cases he
  case unOp op ty x => exact fl_unOp ho hp
  case index ty x y => exact fl_index ho hp
  case build ty ps => exact fl_build ho hp
  case convert s d x =>
    split at hf
    · rename_i i hi
      split at hf
      · rename_i m hk
        exact fl_convert ho hi hk hp
      · omega
    · omega
  case load ty x =>
    split at hf
    · rename_i i hi
      split at hf
      · rename_i b l hx; exact fl_loadI ho (avO_evF hx (by simp)) hp
      · rename_i r e f m hx
        split at hf
        · omega
        · rename_i cells hr
          split at hf
          · split at hf
            · omega
            · rename_i hs
              exact fl_loadB ho hi (avO_evF hx (by simp)) hr hs (by omega) hp
          · omega
        · omega
      · rename_i r f j hx; exact fl_loadA ho (avO_evF hx (by simp)) (by omega) hp
      · omega
    · omega
  case indexAddr ty x y => exact fl_indexAddr ho (by omega) hp
  case call c =>
    split at hf
    · rename_i hc; exact fl_len ho hc hp
    · omega
  all_goals omega
end
end Go.Proofs.Ytegcfogbdgmajaa.Ab
