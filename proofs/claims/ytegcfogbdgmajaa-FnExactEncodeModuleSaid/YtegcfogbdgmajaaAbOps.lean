/- Each operation of the abstract machine is sound: what it asks makes the model's own operation run and leaves memory as it says. No condition. -/
import Derived.Test.YtegcfogbdgmajaaAbRun
namespace Go.Proofs.Ytegcfogbdgmajaa.Ab
set_option linter.unusedVariables false
set_option linter.unusedSimpArgs false

section inv
variable {G : List Gh} {w : World} {Ro S : BS} {v : Value}
theorem VR.v_inv {x : Value} (h : VR G w Ro S (.v x) v) : v = x ∧ x.oneCell' = true := by
  cases h with
  | ir _ _ _ h => cases h with
    | v _ _ h => exact ⟨rfl, h⟩
theorem VR.nils_inv (h : VR G w Ro S .nils v) : v = .slice none 0 0 := by
  cases h with
  | ir _ _ _ h => cases h
  | nils => rfl
theorem VR.ptr_inv {r i o k} (h : VR G w Ro S (.ptr r i o k) v) : ∃ b g, G[r]? = some g ∧ g.ob = some b ∧ v = .pointer (some ⟨b, i * g.s + o, none⟩) := by
  cases h with
  | ir _ _ _ h => cases h
  | ptr _ _ _ _ b g h1 h2 => exact ⟨b, g, h1, h2, rfl⟩
theorem VR.slc_inv {r o n z} (h : VR G w Ro S (.slc r o n z) v) : ∃ (g : Gh) (a : Option Addr) (c : Nat), G[r]? = some g ∧ v = .slice a n c ∧ n ≤ c ∧ (z = true → c = n) ∧ (c = 0 ∨ ∃ b, g.ob = some b ∧ a = some ⟨b, o * g.s, none⟩ ∧ (o + c) * g.s ≤ g.sz) := by
  cases h with
  | ir _ _ _ h => cases h
  | slc _ _ _ _ g a c h1 h2 h3 h4 => exact ⟨g, a, c, h1, rfl, h2, h3, h4⟩
theorem VR.aptr_inv {r o j} (h : VR G w Ro S (.aptr r o j) v) : ∃ b g, G[r]? = some g ∧ g.ob = some b ∧ v = .pointer (some ⟨b, j + o, none⟩) := by
  cases h with
  | ir _ _ _ h => cases h
  | aptr _ _ _ b g h1 h2 => exact ⟨b, g, h1, h2, rfl⟩
theorem VR.bsl_inv {r o n} (h : VR G w Ro S (.bsl r o n) v) : ∃ b g c, G[r]? = some g ∧ g.ob = some b ∧ n ≤ c ∧ v = .slice (some ⟨b, o, none⟩) n c := by
  cases h with
  | ir _ _ _ h => cases h
  | bsl _ _ _ b c g h1 h2 h3 => exact ⟨b, g, c, h1, h2, h3, rfl⟩
theorem VR.mapr_inv {r} (h : VR G w Ro S (.mapr r) v) : ∃ b g, G[r]? = some g ∧ g.ob = some b ∧ v = .map (some b) := by
  cases h with
  | ir _ _ _ h => cases h
  | mapr _ b g h1 h2 => exact ⟨b, g, h1, h2, rfl⟩
theorem VR.pan_inv {x} (h : VR G w Ro S (.pan x) v) : False := by
  cases h with
  | ir _ _ _ h => cases h
theorem VR.imm_inv {t z s l} (h : VR G w Ro S (.imm t z s l) v) : ∃ (a : Option Addr) (c : Nat), v = .slice a l.length c ∧ (z = true → c = l.length) ∧ IR w Ro S t (.sl s l) (.slice a l.length c) := by
  cases h with
  | ir _ _ _ h => cases h with
    | imm _ _ _ _ _ a n c h1 h2 h3 =>
      have : n = l.length := by cases h2 <;> simp
      subst this
      exact ⟨a, c, rfl, h3, h2⟩
theorem VR.iptr_inv {t l} (h : VR G w Ro S (.iptr t l) v) : ∃ (b off : Nat) (cs : Array Value) (T : TypeId) (fz : Nat × Nat) (cv : Nat → Value), v = .pointer (some ⟨b, off, none⟩) ∧ sel Ro S t b ∧ w.heap[b]? = some (.cells cs T fz) ∧ (∀ j, j < l.length → cs[off + j]? = some (cv j)) ∧
    (∀ j x, l[j]? = some x → IR w Ro S t x (cv j)) := by
  cases h with
  | ir _ _ _ h => cases h with
    | iptr _ _ _ b off cs T fz cv h0 h1 h2 h3 h4 => exact ⟨b, off, cs, T, fz, cv, rfl, h1, h2, h3, h4⟩
theorem VR.fn_inv {f caps} (h : VR G w Ro S (.fn f caps) v) : ∃ vs : List Value, v = .func (.func f) #[] vs.toArray ∧ caps.length = vs.length ∧ ∀ j x, caps[j]? = some x → VR G w Ro S x (vs.getD j undef) := by
  cases h with
  | ir _ _ _ h => cases h with
    | fn _ _ _ vs h1 h2 h3 => exact ⟨vs, rfl, h1, fun j x hj => .ir _ _ (h2 x (List.mem_of_getElem? hj)) (h3 j x hj)⟩
  | fn _ _ vs h1 h2 => exact ⟨vs, rfl, h1, h2⟩
theorem VR.agg_inv {l} (h : VR G w Ro S (.agg l) v) : ∃ vs : List Value, v = .agg vs.toArray ∧ l.length = vs.length ∧ (∀ u ∈ vs, u.oneCell' = true) ∧ ∀ j x, l[j]? = some x → VR G w Ro S x (vs.getD j undef) := by
  cases h with
  | ir _ _ _ h => cases h
  | agg _ vs h1 h2 h3 => exact ⟨vs, rfl, h1, h2, h3⟩
theorem VR.tup_inv {l} (h : VR G w Ro S (.tup l) v) : ∃ vs : List Value, v = .tuple vs.toArray ∧ l.length = vs.length ∧ ∀ j x, l[j]? = some x → VR G w Ro S x (vs.getD j undef) := by
  cases h with
  | ir _ _ _ h => cases h
  | tup _ vs h1 h2 => exact ⟨vs, rfl, h1, h2⟩
theorem VR.one {x : AV} (h : VR G w Ro S x v) (h0 : x.isSl = false) (h1 : x ≠ .top) (h2 : ∀ l, x ≠ .agg l) (h3 : ∀ l, x ≠ .tup l) : v.oneCell' = true := by
  cases h with
  | top => exact absurd rfl h1
  | ir _ _ _ h => cases h <;> first | assumption | rfl | simp [AV.isSl] at h0
  | nils => rfl
  | ptr => rfl
  | aptr => rfl
  | bsl => rfl
  | mapr => rfl
  | slc => rfl
  | fn => rfl
  | agg l => exact absurd rfl (h2 l)
  | tup l => exact absurd rfl (h3 l)
theorem VR.notSl {x : AV} (h : VR G w Ro S x v) : x.isSl = false := by
  cases h <;> first | assumption | rfl
end inv

theorem VR.ptr0 {G : List Gh} {w : World} {Ro S : BS} (r k b : Nat) (g : Gh) (h1 : G[r]? = some g) (h2 : g.ob = some b) : VR G w Ro S (.ptr r 0 0 k) (.pointer (some ⟨b, 0, none⟩)) := by
  have := VR.ptr (w := w) (Ro := Ro) (S := S) r 0 0 k b g h1 h2
  rwa [Nat.zero_mul] at this

theorem heap_new (w : World) (ob : Obj) : (w.alloc ob).heap[w.heap.size]? = some ob := by
  show (w.heap.push ob)[w.heap.size]? = some ob
  simp

def Kept (D : List Deferred × Nat) (a : Act) : Prop := a.defers = D.1 ∧ a.tmps.size = D.2
theorem Kept.put {D : List Deferred × Nat} {a : Act} (h : Kept D a) (d : Option Tmp) (v : Value) : Kept D (a.put d v) := by
  cases d with
  | none => exact h
  | some d => exact ⟨h.1, by simpa [Act.put] using h.2⟩
def Rel (E : Env) (D : List Deferred × Nat) (t : TS) (h : HP) (a : Act) (w : World) : Prop := ∃ G S F, Good E G h w S F ∧ TR G w E.Ro S t a ∧ Kept D a

/-- A handler is sound: what it asks makes the call return, and memory is as it says. -/
def HSound (P : Program) (f : FuncId) (H : Handler) : Prop := ∀ (E : Env) (G : List Gh) (S : BS) (F : Nat → BS) (h : HP) (w : World) (args : List AV) (vs : List Value) (K : AV → HP → Prop),
  Good E G h w S F → args.length = vs.length → (∀ j x, args[j]? = some x → VR G w E.Ro S x (vs.getD j undef)) → H args h K →
  Calls P f vs.toArray w fun e w' => ∃ x h' G' S' F', K x h' ∧ Good E G' h' w' S' F' ∧ Ext E G w S G' w' S' ∧ ((∃ v, e = .returned v ∧ VR G' w' E.Ro S' x v) ∨ ∃ v, e = .panicked [{ v, recovered := false }] ∧ x = .pan v)

def FnOk (P : Program) (f : FuncId) : Prop := ∃ fn, P.funcs[f]? = some fn ∧ (fn.name == "runtime.NumGoroutine") = false ∧ fn.body.isSome = true

/-- A type of a plain kind. -/
def basicB (P : Program) (ty : TypeId) (n : Nat) : Bool := match P.underlying ty, n with | some .bool, 1 => true | some (.int _), 0 => true | some .string, 2 => true | _, _ => false
/-- A type whose values are compared cell by cell, the cells of these kinds. -/
def eqB (P : Program) (ty : TypeId) (ks : List Nat) : Bool := match P.underlying ty with
  | some (.struct fs) => !P.stoodInHeld ty && !P.eqGuardType P.depth ty && fs.size == ks.length && ((fs.toList.zip ks).zipIdx.all fun p => p.1.1.name != "_" && p.1.1.offset == p.2 && basicB P p.1.1.type p.1.2)
  | some (.array 2 e) => (match P.underlying e, P.info? e, ks with | some (.int .i64), some j, [0, 0] => !P.eqGuardType P.depth ty && j.size == 1 | _, _, _ => false)
  | _ => false
/-- A type's zero is a struct's value just where the type is a struct's or an array's. -/
def zeroOk (P : Program) (ty : TypeId) (ag : Bool) : Bool := match P.info? ty with
  | some info => (match info.zero, ag with | some (.agg _), true => true | some (.agg _), false => false | some _, false => true | _, _ => false)
  | none => false
structure CtxOk (P : Program) (C : Ctx) : Prop where
  tab : ∀ ty i, C.tab ty = some i → TIok P ty i
  eqs : ∀ ty i, C.tab ty = some i → i.eqs ≠ [] → eqB P ty i.eqs = true
  zok : ∀ ty i, C.tab ty = some i → zeroOk P ty i.agg = true
  call : ∀ f H, C.call f = some H → HSound P f H ∧ FnOk P f

theorem on_spec {α : Type} {o : Option α} {k : α → Prop} (h : on o k) : ∃ a, o = some a ∧ k a := by
  cases o with
  | none => exact h.elim
  | some a => exact ⟨a, rfl, h⟩

section
variable {P : Program} {E : Env} {D : List Deferred × Nat} {o : Oper} {t : TS} {h : HP} {a : Act} {w : World} {k : TS → HP → Prop} {next : Act → World → Prop} {Q : Exit → Act → World → Prop}

theorem wp_val {v : Value} {w' : World} (hr : (execOp a.eval o).run P w = .ok (.value v) w') (hn : next (a.put o.dst v) w') : o.wp P a w next Q := by
  unfold Oper.wp
  rw [hr]
  exact hn
theorem wp_skp {w' : World} (hr : (execOp a.eval o).run P w = .ok .skip w') (hn : next (a.put o.dst undef) w') : o.wp P a w next Q := by
  unfold Oper.wp
  rw [hr]
  exact hn


/-- An operation's value is laid into its temporary. -/
theorem rel_put {G S F} (hg : Good E G h w S F) (ht : TR G w E.Ro S t a) (hd : Kept D a) {x : AV} {v : Value} (hv : VR G w E.Ro S x v) (hk : putK t o.dst x fun t => k t h)
    (hc : ∀ t' h' a' w', k t' h' → Rel E D t' h' a' w' → next a' w') : next (a.put o.dst v) w := by
  obtain ⟨t', h1, h2⟩ := putK_spec ht hv hk
  exact hc _ _ _ _ h1 ⟨G, S, F, hg, h2, hd.put o.dst v⟩

def OpS (P : Program) (C : Ctx) (o : Oper) : Prop := ∀ (E : Env) (D : List Deferred × Nat) (t : TS) (h : HP) (a : Act) (w : World) (k : TS → HP → Prop) (next : Act → World → Prop) (Q : Exit → Act → World → Prop),
  opP C o t h k → Rel E D t h a w → (∀ v t h a w, C.pan v h → Rel E D t h a w → Q (.panic [{ v, recovered := false }]) a w) → (∀ t' h' a' w', k t' h' → Rel E D t' h' a' w' → next a' w') → o.wp P a w next Q

/-- An operation that leaves the world alone: one value, in whatever world that is as this one below. -/
def QRes (P : Program) (E : Env) (D : List Deferred × Nat) (o : Oper) (a : Act) (w : World) (k : TS → HP → Prop) : Prop :=
  ∃ v t' h', k t' h' ∧ ∀ w2, Chg w w2 (fun _ => False) → (execOp a.eval o).run P w2 = .ok (.value v) w2 ∧ Rel E D t' h' (a.put o.dst v) w2
def OpQ (P : Program) (C : Ctx) (o : Oper) : Prop := ∀ (E : Env) (D : List Deferred × Nat) (t : TS) (h : HP) (a : Act) (w : World) (k : TS → HP → Prop),
  opP C o t h k → Rel E D t h a w → QRes P E D o a w k
theorem q_val {G S F} {v : Value} (hr : ∀ w2, Chg w w2 (fun _ => False) → (execOp a.eval o).run P w2 = .ok (.value v) w2) (hg : Good E G h w S F) (ht : TR G w E.Ro S t a) (hd : Kept D a) {x : AV} (hv : VR G w E.Ro S x v)
    (hk : putK t o.dst x fun t => k t h) : QRes P E D o a w k := by
  obtain ⟨t', h1, h2⟩ := putK_spec ht hv hk
  exact ⟨v, t', h, h1, fun w2 hw => ⟨hr w2 hw, G, S, F, hg.chg hw, h2.ext (hg.ext_none hw (fun _ _ h => h)), hd.put o.dst v⟩⟩

/-- The same, whatever the world. -/
def URes (P : Program) (E : Env) (D : List Deferred × Nat) (o : Oper) (a : Act) (w : World) (k : TS → HP → Prop) : Prop :=
  ∃ v t' h', k t' h' ∧ (∀ w2, (execOp a.eval o).run P w2 = .ok (.value v) w2) ∧ Rel E D t' h' (a.put o.dst v) w
def OpU (P : Program) (C : Ctx) (o : Oper) : Prop := ∀ (E : Env) (D : List Deferred × Nat) (t : TS) (h : HP) (a : Act) (w : World) (k : TS → HP → Prop),
  opP C o t h k → Rel E D t h a w → URes P E D o a w k
theorem u_val {G S F} {v : Value} (hr : ∀ w2, (execOp a.eval o).run P w2 = .ok (.value v) w2) (hg : Good E G h w S F) (ht : TR G w E.Ro S t a) (hd : Kept D a) {x : AV} (hv : VR G w E.Ro S x v)
    (hk : putK t o.dst x fun t => k t h) : URes P E D o a w k := by
  obtain ⟨t', h1, h2⟩ := putK_spec ht hv hk
  exact ⟨v, t', h, h1, hr, G, S, F, hg, h2, hd.put o.dst v⟩

variable {C : Ctx}

theorem OpQ.toS (hq : OpQ P C o) : OpS P C o := by
  intro E D t h a w k next Q hp hr _ hc
  obtain ⟨v, t', h', h1, h2⟩ := hq E D t h a w k hp hr
  obtain ⟨h3, h4⟩ := h2 w (Chg.refl w _)
  exact wp_val h3 (hc _ _ _ _ h1 h4)

theorem q_move {x : Operand} (ho : o.op = .move x) : OpQ P C o := by
  intro E D t h a w k hp ⟨G, S, F, hg, ht, hd⟩
  unfold opP at hp
  simp only [ho, evK_eq] at hp
  exact q_val (v := a.eval x) (fun w2 _ => by simp [execOp, ho]) hg ht hd (evF_spec ht x) hp
theorem u_move {x : Operand} (ho : o.op = .move x) : OpU P C o := by
  intro E D t h a w k hp ⟨G, S, F, hg, ht, hd⟩
  unfold opP at hp
  simp only [ho, evK_eq] at hp
  exact u_val (v := a.eval x) (fun w2 => by simp [execOp, ho]) hg ht hd (evF_spec ht x) hp

theorem q_pick {c x y : Operand} (ho : o.op = .pick c x y) : OpQ P C o := by
  intro E D t h a w k hp ⟨G, S, F, hg, ht, hd⟩
  unfold opP at hp
  simp only [ho, evK_eq] at hp
  have hv := evF_spec ht c
  split at hp
  · rename_i b hb
    rw [hb] at hv
    have hv := hv.v_inv.1
    cases b with
    | true => exact q_val (v := a.eval x) (fun w2 _ => by simp [execOp, ho, hv, asBool]) hg ht hd (evF_spec ht x) (hp.1 rfl)
    | false => exact q_val (v := a.eval y) (fun w2 _ => by simp [execOp, ho, hv, asBool]) hg ht hd (evF_spec ht y) (hp.2 rfl)
  · exact hp.elim
theorem u_pick {c x y : Operand} (ho : o.op = .pick c x y) : OpU P C o := by
  intro E D t h a w k hp ⟨G, S, F, hg, ht, hd⟩
  unfold opP at hp
  simp only [ho, evK_eq] at hp
  have hv := evF_spec ht c
  split at hp
  · rename_i b hb
    rw [hb] at hv
    have hv := hv.v_inv.1
    cases b with
    | true => exact u_val (v := a.eval x) (fun w2 => by simp [execOp, ho, hv, asBool]) hg ht hd (evF_spec ht x) (hp.1 rfl)
    | false => exact u_val (v := a.eval y) (fun w2 => by simp [execOp, ho, hv, asBool]) hg ht hd (evF_spec ht y) (hp.2 rfl)
  · exact hp.elim

theorem q_nilCheck {x : Operand} (ho : o.op = .nilCheck x) : OpQ P C o := by
  intro E D t h a w k hp ⟨G, S, F, hg, ht, hd⟩
  unfold opP at hp
  simp only [ho, evK_eq] at hp
  have hv := evF_spec ht x
  split at hp
  · rename_i r e f n hb
    rw [hb] at hv
    obtain ⟨b, g, h1, h2, h3⟩ := hv.ptr_inv
    exact q_val (v := a.eval x) (fun w2 _ => by simp [execOp, ho, h3]) hg ht hd hv hp
  · rename_i r f j hb
    rw [hb] at hv
    obtain ⟨b, g, h1, h2, h3⟩ := hv.aptr_inv
    exact q_val (v := a.eval x) (fun w2 _ => by simp [execOp, ho, h3]) hg ht hd hv hp
  · rename_i b l hb
    rw [hb] at hv
    obtain ⟨b, off, cs, T, fz, cv, h3, _⟩ := hv.iptr_inv
    exact q_val (v := a.eval x) (fun w2 _ => by simp [execOp, ho, h3]) hg ht hd hv hp
  · rename_i f c hb
    rw [hb] at hv
    obtain ⟨vs, h3, _⟩ := hv.fn_inv
    exact q_val (v := a.eval x) (fun w2 _ => by simp [execOp, ho, h3]) hg ht hd hv hp
  · exact hp.elim
theorem u_nilCheck {x : Operand} (ho : o.op = .nilCheck x) : OpU P C o := by
  intro E D t h a w k hp ⟨G, S, F, hg, ht, hd⟩
  unfold opP at hp
  simp only [ho, evK_eq] at hp
  have hv := evF_spec ht x
  split at hp
  · rename_i r e f n hb
    rw [hb] at hv
    obtain ⟨b, g, h1, h2, h3⟩ := hv.ptr_inv
    exact u_val (v := a.eval x) (fun w2 => by simp [execOp, ho, h3]) hg ht hd hv hp
  · rename_i r f j hb
    rw [hb] at hv
    obtain ⟨b, g, h1, h2, h3⟩ := hv.aptr_inv
    exact u_val (v := a.eval x) (fun w2 => by simp [execOp, ho, h3]) hg ht hd hv hp
  · rename_i b l hb
    rw [hb] at hv
    obtain ⟨b, off, cs, T, fz, cv, h3, _⟩ := hv.iptr_inv
    exact u_val (v := a.eval x) (fun w2 => by simp [execOp, ho, h3]) hg ht hd hv hp
  · rename_i f c hb
    rw [hb] at hv
    obtain ⟨vs, h3, _⟩ := hv.fn_inv
    exact u_val (v := a.eval x) (fun w2 => by simp [execOp, ho, h3]) hg ht hd hv hp
  · exact hp.elim

theorem q_extract {x : Operand} {n : Nat} (ho : o.op = .extract x n) : OpQ P C o := by
  intro E D t h a w k hp ⟨G, S, F, hg, ht, hd⟩
  unfold opP at hp
  simp only [ho, evK_eq] at hp
  have hv := evF_spec ht x
  split at hp
  · rename_i l hb
    rw [hb] at hv
    obtain ⟨vs, h1, h2, h3⟩ := hv.tup_inv
    obtain ⟨y, h4, h5⟩ := on_spec hp
    have hn : n < vs.length := by have := (List.getElem?_eq_some_iff.1 h4).1; omega
    refine q_val (v := vs.getD n undef) (fun w2 _ => ?_) hg ht hd (h3 n y h4) h5
    simp [execOp, ho, h1, Instr.extract, hn, List.getD_eq_getElem?_getD]
  · exact hp.elim
theorem u_extract {x : Operand} {n : Nat} (ho : o.op = .extract x n) : OpU P C o := by
  intro E D t h a w k hp ⟨G, S, F, hg, ht, hd⟩
  unfold opP at hp
  simp only [ho, evK_eq] at hp
  have hv := evF_spec ht x
  split at hp
  · rename_i l hb
    rw [hb] at hv
    obtain ⟨vs, h1, h2, h3⟩ := hv.tup_inv
    obtain ⟨y, h4, h5⟩ := on_spec hp
    have hn : n < vs.length := by have := (List.getElem?_eq_some_iff.1 h4).1; omega
    refine u_val (v := vs.getD n undef) (fun w2 => ?_) hg ht hd (h3 n y h4) h5
    simp [execOp, ho, h1, Instr.extract, hn, List.getD_eq_getElem?_getD]
  · exact hp.elim

theorem q_fieldAddr {ty : TypeId} {x : Operand} {n : Nat} (hC : CtxOk P C) (ho : o.op = .fieldAddr ty x n) : OpQ P C o := by
  intro E D t h a w k hp ⟨G, S, F, hg, ht, hd⟩
  unfold opP at hp
  simp only [ho, evK_eq] at hp
  obtain ⟨i, hi, hp⟩ := on_spec hp
  obtain ⟨info, dd, z, h1, h2, h3, h4, h5, h6, _⟩ := hC.tab _ _ hi
  have hv := evF_spec ht x
  split at hp
  · rename_i fs hk
    rw [hk] at h6
    obtain ⟨f, hf, hp⟩ := on_spec hp
    cases dd <;> simp only [KindOk] at h6
    rename_i flds
    obtain ⟨h7, h8⟩ := h6
    have hn : n < flds.size := by have := (List.getElem?_eq_some_iff.1 hf).1; omega
    obtain ⟨fi, h9, h10⟩ := h8 n flds[n] (by simp [hn])
    rw [hf] at h10
    cases h10
    split at hp
    · rename_i r e b kk hb
      rw [hb] at hv
      obtain ⟨bb, g, p1, p2, p3⟩ := hv.ptr_inv
      split at hp
      · exact hp.elim
      · rename_i hz
        have hz : ¬ fi.size = 0 := by simpa using hz
        refine q_val (v := .pointer (some ⟨bb, e * g.s + (b + flds[n].offset), none⟩)) (fun w2 _ => ?_) hg ht hd (.ptr _ _ _ _ bb g p1 p2) hp
        simp [execOp, ho, p3, Instr.fieldAt, run_underlying h4, hn, Instr.sureAddr, fieldPlace, run_sizeOf' h9, hz, add_off, Nat.add_assoc]
    · rename_i b l hb
      rw [hb] at hv
      obtain ⟨bb, off, cs, T, fz, cv, p1, p2, p3, p4, p5⟩ := hv.iptr_inv
      split at hp
      · exact hp.elim
      · rename_i hz
        have hz : ¬ fi.size = 0 := by simpa using hz
        obtain ⟨hl, hp⟩ := cutK_spec _ _ _ _ hp
        refine q_val (v := .pointer (some ⟨bb, off + flds[n].offset, none⟩)) (fun w2 _ => ?_) hg ht hd (.ir _ _ rfl (.iptr _ _ _ bb (off + flds[n].offset) cs T fz (fun j => cv (flds[n].offset + j)) (by simp) p2 p3 ?_ ?_)) hp
        · simp [execOp, ho, p1, Instr.fieldAt, run_underlying h4, hn, Instr.sureAddr, fieldPlace, run_sizeOf' h9, hz, add_off]
        · intro j hj
          simp at hj
          rw [Nat.add_assoc]
          exact p4 _ (by omega)
        · intro j y hj
          rw [List.getElem?_take] at hj
          split at hj
          · rw [List.getElem?_drop] at hj
            exact p5 _ _ hj
          · simp at hj
    · exact hp.elim
  · exact hp.elim
theorem u_fieldAddr {ty : TypeId} {x : Operand} {n : Nat} (hC : CtxOk P C) (ho : o.op = .fieldAddr ty x n) : OpU P C o := by
  intro E D t h a w k hp ⟨G, S, F, hg, ht, hd⟩
  unfold opP at hp
  simp only [ho, evK_eq] at hp
  obtain ⟨i, hi, hp⟩ := on_spec hp
  obtain ⟨info, dd, z, h1, h2, h3, h4, h5, h6, _⟩ := hC.tab _ _ hi
  have hv := evF_spec ht x
  split at hp
  · rename_i fs hk
    rw [hk] at h6
    obtain ⟨f, hf, hp⟩ := on_spec hp
    cases dd <;> simp only [KindOk] at h6
    rename_i flds
    obtain ⟨h7, h8⟩ := h6
    have hn : n < flds.size := by have := (List.getElem?_eq_some_iff.1 hf).1; omega
    obtain ⟨fi, h9, h10⟩ := h8 n flds[n] (by simp [hn])
    rw [hf] at h10
    cases h10
    split at hp
    · rename_i r e b kk hb
      rw [hb] at hv
      obtain ⟨bb, g, p1, p2, p3⟩ := hv.ptr_inv
      split at hp
      · exact hp.elim
      · rename_i hz
        have hz : ¬ fi.size = 0 := by simpa using hz
        refine u_val (v := .pointer (some ⟨bb, e * g.s + (b + flds[n].offset), none⟩)) (fun w2 => ?_) hg ht hd (.ptr _ _ _ _ bb g p1 p2) hp
        simp [execOp, ho, p3, Instr.fieldAt, run_underlying h4, hn, Instr.sureAddr, fieldPlace, run_sizeOf' h9, hz, add_off, Nat.add_assoc]
    · rename_i b l hb
      rw [hb] at hv
      obtain ⟨bb, off, cs, T, fz, cv, p1, p2, p3, p4, p5⟩ := hv.iptr_inv
      split at hp
      · exact hp.elim
      · rename_i hz
        have hz : ¬ fi.size = 0 := by simpa using hz
        obtain ⟨hl, hp⟩ := cutK_spec _ _ _ _ hp
        refine u_val (v := .pointer (some ⟨bb, off + flds[n].offset, none⟩)) (fun w2 => ?_) hg ht hd (.ir _ _ rfl (.iptr _ _ _ bb (off + flds[n].offset) cs T fz (fun j => cv (flds[n].offset + j)) (by simp) p2 p3 ?_ ?_)) hp
        · simp [execOp, ho, p1, Instr.fieldAt, run_underlying h4, hn, Instr.sureAddr, fieldPlace, run_sizeOf' h9, hz, add_off]
        · intro j hj
          simp at hj
          rw [Nat.add_assoc]
          exact p4 _ (by omega)
        · intro j y hj
          rw [List.getElem?_take] at hj
          split at hj
          · rw [List.getElem?_drop] at hj
            exact p5 _ _ hj
          · simp at hj
    · exact hp.elim
  · exact hp.elim

theorem q_indexAddr {ty : TypeId} {x ix : Operand} (hC : CtxOk P C) (ho : o.op = .indexAddr ty x ix) : OpQ P C o := by
  intro E D t h a w k hp ⟨G, S, F, hg, ht, hd⟩
  unfold opP at hp
  simp only [ho, evK_eq] at hp
  obtain ⟨i, hi, hp⟩ := on_spec hp
  obtain ⟨info, dd, z, h1, h2, h3, h4, h5, h6, _⟩ := hC.tab _ _ hi
  have hv := evF_spec ht x
  have hz := evF_spec ht ix
  split at hp
  · rename_i e es r b n zz q y hk hb hq
    rw [hb] at hv
    rw [hq] at hz
    have hz := hz.v_inv.1
    obtain ⟨g, ad, c, p1, p2, p3, p4, p5⟩ := hv.slc_inv
    obtain ⟨root, hr, hp⟩ := rootK_spec hp
    split at hp
    · rename_i s l
      split at hp
      · rename_i hs
        have hs : s = es := by simpa using hs
        subst hs
        obtain ⟨j, rfl, hj, hp⟩ := hp
        rw [hk] at h6
        cases dd <;> simp only [KindOk] at h6
        obtain ⟨rfl, ei, h7, h8⟩ := h6
        have hgs : g.s = s := (hg.root r _ g hr p1).1
        rcases p5 with rfl | ⟨bb, p5, p6, p7⟩
        · omega
        · subst p6
          refine q_val (v := .pointer (some ⟨bb, (b + j) * g.s + 0, none⟩)) (fun w2 _ => ?_) hg ht hd (.ptr _ _ _ _ bb g p1 p5) hp
          have hlt : ¬ n ≤ j := by omega
          simp [execOp, ho, p2, hz, Instr.indexAt, run_underlying h4, asIntOf, hlt, run_sizeOf' h7, h8, hgs, add_off, Nat.add_mul]
      · exact hp.elim
    · exact hp.elim
  · rename_i e es b zz s l q y hk hb hq
    rw [hb] at hv
    rw [hq] at hz
    have hz := hz.v_inv.1
    obtain ⟨ad, c, p1, p2, p3⟩ := hv.imm_inv
    split at hp
    · rename_i hs
      have hs : s = es := by simpa using hs
      subst hs
      obtain ⟨j, rfl, el, hj, hp⟩ := hp
      rw [hk] at h6
      cases dd <;> simp only [KindOk] at h6
      obtain ⟨rfl, ei, h7, h8⟩ := h6
      have hjl : j < l.length := (List.getElem?_eq_some_iff.1 hj).1
      generalize hn : l.length = n at p1 p3
      cases p3 with
      | sl0 => simp at hjl
      | sl _ _ _ bb off _ cs T fz cv q1 q2 q3 q0 q4 q5 =>
        clear hn
        have hel : el.length = s := q3 el (List.mem_of_getElem? hj)
        refine q_val (v := .pointer (some ⟨bb, off + j * s, none⟩)) (fun w2 _ => ?_) hg ht hd (.ir _ _ rfl (.iptr _ _ _ bb (off + j * s) cs T fz (fun i => cv (j * s + i)) (by simp) q1 q2 ?_ ?_)) hp
        · have hlt : ¬ l.length ≤ j := by omega
          simp [execOp, ho, p1, hz, Instr.indexAt, run_underlying h4, asIntOf, hlt, run_sizeOf' h7, h8, add_off]
        · intro i hi
          rw [Nat.add_assoc]
          refine q4 _ ?_
          have h1 := flat_get s l q3 j el hj i (by omega)
          rw [List.getElem?_eq_getElem hi] at h1
          exact (List.getElem?_eq_some_iff.1 h1).1
        · intro i y hi
          have hil : i < el.length := (List.getElem?_eq_some_iff.1 hi).1
          have h1 := flat_get s l q3 j el hj i (by omega)
          exact q5 _ _ (h1.trans hi)
    · exact hp.elim
  · rename_i n r f kk q y hk hb hq
    rw [hb] at hv
    rw [hq] at hz
    have hz := hz.v_inv.1
    obtain ⟨j, rfl, hj, hp⟩ := hp
    obtain ⟨bb, g, p1, p2, p3⟩ := hv.ptr_inv
    rw [hk] at h6
    cases dd <;> simp only [KindOk] at h6
    obtain ⟨rfl, ei, h7, h8⟩ := h6
    refine q_val (v := .pointer (some ⟨bb, j + f, none⟩)) (fun w2 _ => ?_) hg ht hd (.aptr _ _ _ bb g p1 p2) hp
    simp [execOp, ho, p3, hz, Instr.indexAt, run_underlying h4, asIntOf, hj, run_sizeOf' h7, h8, add_off, Instr.sureAddr, Nat.add_comm]
  · rename_i n b l q y hk hb hq
    rw [hb] at hv
    rw [hq] at hz
    have hz := hz.v_inv.1
    obtain ⟨j, rfl, hj, el, hel, hp⟩ := hp
    obtain ⟨bb, off, cs, T, fz, cv, p1, p2, p3, p4, p5⟩ := hv.iptr_inv
    rw [hk] at h6
    cases dd <;> simp only [KindOk] at h6
    obtain ⟨rfl, ei, h7, h8⟩ := h6
    have hjl := (List.getElem?_eq_some_iff.1 hel).1
    refine q_val (v := .pointer (some ⟨bb, off + j, none⟩)) (fun w2 _ => ?_) hg ht hd (.ir _ _ rfl (.iptr _ _ _ bb (off + j) cs T fz (fun i => cv (j + i)) (by simp) p2 p3 ?_ ?_)) hp
    · simp [execOp, ho, p1, hz, Instr.indexAt, run_underlying h4, asIntOf, hj, run_sizeOf' h7, h8, add_off, Instr.sureAddr]
    · intro i hi
      simp at hi
      subst hi
      exact p4 j hjl
    · intro i z hi
      cases i with
      | zero => simp at hi; subst hi; exact p5 _ _ hel
      | succ i => simp at hi
  · exact hp.elim
theorem u_indexAddr {ty : TypeId} {x ix : Operand} (hC : CtxOk P C) (ho : o.op = .indexAddr ty x ix) : OpU P C o := by
  intro E D t h a w k hp ⟨G, S, F, hg, ht, hd⟩
  unfold opP at hp
  simp only [ho, evK_eq] at hp
  obtain ⟨i, hi, hp⟩ := on_spec hp
  obtain ⟨info, dd, z, h1, h2, h3, h4, h5, h6, _⟩ := hC.tab _ _ hi
  have hv := evF_spec ht x
  have hz := evF_spec ht ix
  split at hp
  · rename_i e es r b n zz q y hk hb hq
    rw [hb] at hv
    rw [hq] at hz
    have hz := hz.v_inv.1
    obtain ⟨g, ad, c, p1, p2, p3, p4, p5⟩ := hv.slc_inv
    obtain ⟨root, hr, hp⟩ := rootK_spec hp
    split at hp
    · rename_i s l
      split at hp
      · rename_i hs
        have hs : s = es := by simpa using hs
        subst hs
        obtain ⟨j, rfl, hj, hp⟩ := hp
        rw [hk] at h6
        cases dd <;> simp only [KindOk] at h6
        obtain ⟨rfl, ei, h7, h8⟩ := h6
        have hgs : g.s = s := (hg.root r _ g hr p1).1
        rcases p5 with rfl | ⟨bb, p5, p6, p7⟩
        · omega
        · subst p6
          refine u_val (v := .pointer (some ⟨bb, (b + j) * g.s + 0, none⟩)) (fun w2 => ?_) hg ht hd (.ptr _ _ _ _ bb g p1 p5) hp
          have hlt : ¬ n ≤ j := by omega
          simp [execOp, ho, p2, hz, Instr.indexAt, run_underlying h4, asIntOf, hlt, run_sizeOf' h7, h8, hgs, add_off, Nat.add_mul]
      · exact hp.elim
    · exact hp.elim
  · rename_i e es b zz s l q y hk hb hq
    rw [hb] at hv
    rw [hq] at hz
    have hz := hz.v_inv.1
    obtain ⟨ad, c, p1, p2, p3⟩ := hv.imm_inv
    split at hp
    · rename_i hs
      have hs : s = es := by simpa using hs
      subst hs
      obtain ⟨j, rfl, el, hj, hp⟩ := hp
      rw [hk] at h6
      cases dd <;> simp only [KindOk] at h6
      obtain ⟨rfl, ei, h7, h8⟩ := h6
      have hjl : j < l.length := (List.getElem?_eq_some_iff.1 hj).1
      generalize hn : l.length = n at p1 p3
      cases p3 with
      | sl0 => simp at hjl
      | sl _ _ _ bb off _ cs T fz cv q1 q2 q3 q0 q4 q5 =>
        clear hn
        have hel : el.length = s := q3 el (List.mem_of_getElem? hj)
        refine u_val (v := .pointer (some ⟨bb, off + j * s, none⟩)) (fun w2 => ?_) hg ht hd (.ir _ _ rfl (.iptr _ _ _ bb (off + j * s) cs T fz (fun i => cv (j * s + i)) (by simp) q1 q2 ?_ ?_)) hp
        · have hlt : ¬ l.length ≤ j := by omega
          simp [execOp, ho, p1, hz, Instr.indexAt, run_underlying h4, asIntOf, hlt, run_sizeOf' h7, h8, add_off]
        · intro i hi
          rw [Nat.add_assoc]
          refine q4 _ ?_
          have h1 := flat_get s l q3 j el hj i (by omega)
          rw [List.getElem?_eq_getElem hi] at h1
          exact (List.getElem?_eq_some_iff.1 h1).1
        · intro i y hi
          have hil : i < el.length := (List.getElem?_eq_some_iff.1 hi).1
          have h1 := flat_get s l q3 j el hj i (by omega)
          exact q5 _ _ (h1.trans hi)
    · exact hp.elim
  · rename_i n r f kk q y hk hb hq
    rw [hb] at hv
    rw [hq] at hz
    have hz := hz.v_inv.1
    obtain ⟨j, rfl, hj, hp⟩ := hp
    obtain ⟨bb, g, p1, p2, p3⟩ := hv.ptr_inv
    rw [hk] at h6
    cases dd <;> simp only [KindOk] at h6
    obtain ⟨rfl, ei, h7, h8⟩ := h6
    refine u_val (v := .pointer (some ⟨bb, j + f, none⟩)) (fun w2 => ?_) hg ht hd (.aptr _ _ _ bb g p1 p2) hp
    simp [execOp, ho, p3, hz, Instr.indexAt, run_underlying h4, asIntOf, hj, run_sizeOf' h7, h8, add_off, Instr.sureAddr, Nat.add_comm]
  · rename_i n b l q y hk hb hq
    rw [hb] at hv
    rw [hq] at hz
    have hz := hz.v_inv.1
    obtain ⟨j, rfl, hj, el, hel, hp⟩ := hp
    obtain ⟨bb, off, cs, T, fz, cv, p1, p2, p3, p4, p5⟩ := hv.iptr_inv
    rw [hk] at h6
    cases dd <;> simp only [KindOk] at h6
    obtain ⟨rfl, ei, h7, h8⟩ := h6
    have hjl := (List.getElem?_eq_some_iff.1 hel).1
    refine u_val (v := .pointer (some ⟨bb, off + j, none⟩)) (fun w2 => ?_) hg ht hd (.ir _ _ rfl (.iptr _ _ _ bb (off + j) cs T fz (fun i => cv (j + i)) (by simp) p2 p3 ?_ ?_)) hp
    · simp [execOp, ho, p1, hz, Instr.indexAt, run_underlying h4, asIntOf, hj, run_sizeOf' h7, h8, add_off, Instr.sureAddr]
    · intro i hi
      simp at hi
      subst hi
      exact p4 j hjl
    · intro i z hi
      cases i with
      | zero => simp at hi; subst hi; exact p5 _ _ hel
      | succ i => simp at hi
  · exact hp.elim

theorem s_alloc {ty : TypeId} (hC : CtxOk P C) (ho : o.op = .alloc ty) : OpS P C o := by
  intro E D t h a w k next Q hp ⟨G, S, F, hg, ht, hd⟩ hpan hc
  unfold opP at hp
  simp only [ho] at hp
  obtain ⟨i, hi, hp⟩ := on_spec hp
  obtain ⟨info, dd, z, h1, h2, h3, h4, h5, h6, h7, h8, h9, h10, h11⟩ := hC.tab _ _ hi
  have hp := newK_spec hp
  have hg1 := hg.chg (Chg.alloc w (.cells z.cells ty) _)
  have he := hg.ext_none (Chg.alloc w (.cells z.cells ty) _) (pre_append G ⟨some w.heap.size, i.size, i.size⟩)
  have hnew : (w.alloc (.cells z.cells ty)).heap[w.heap.size]? = some (.cells z.cells ty (0, 0)) := heap_new w _
  have hg2 := hg1.addRoot ⟨some w.heap.size, i.size, i.size⟩ (.box i.zero) (fun k => k = w.heap.size)
    ⟨w.heap.size, z.cells, ty, rfl, hnew, by omega, blkR_new i.zero w.heap.size z.cells (by omega) (fun j x hj => (h10 j x hj).c0)⟩
    (fun r k hk hf => by have := (hg.own r k hk).1; omega) (fun k hk => by subst hk; exact ⟨by simp, .inr hg.size, fun hs => by have := hg.sb _ hs; omega⟩)
  refine wp_val (v := .pointer (some ⟨w.heap.size, 0, none⟩)) (w' := w.alloc (.cells z.cells ty)) ?_ (rel_put hg2 (ht.ext he) hd (.ptr0 _ _ w.heap.size ⟨some w.heap.size, i.size, i.size⟩ ?_ rfl) hp hc)
  · simp [execOp, ho, Instr.alloc, run_zero h1 h7, newVar, newRow, newObj, Sem.run]
  · rw [List.getElem?_append_right (by rw [hg.len]; exact Nat.le_refl _)]; simp [hg.len]

theorem normK_spec : ∀ (l z : List AV) (k : List AV → Prop), normK l z k → ∃ cs : List AV, k cs ∧ cs.length = l.length ∧ ∀ (j : Nat) (y : AV), cs[j]? = some y → l[j]? = some y ∨ (l[j]? = some AV.nils ∧ ∃ s, y = AV.sl s [])
  | [], z, k, hp => ⟨[], hp, rfl, by simp⟩
  | _ :: _, [], k, hp => hp.elim
  | x :: l, z :: zs, k, hp => by
    have keep : ∀ k' : List AV → Prop, normK l zs (fun l => k' (x :: l)) → ∃ cs : List AV, k' cs ∧ cs.length = (x :: l).length ∧ ∀ (j : Nat) (y : AV), cs[j]? = some y → (x :: l)[j]? = some y ∨ ((x :: l)[j]? = some AV.nils ∧ ∃ s, y = AV.sl s []) := by
      intro k' hp
      obtain ⟨cs, q1, q2, q3⟩ := normK_spec l zs _ hp
      refine ⟨x :: cs, q1, by simp [q2], fun j y hj => ?_⟩
      cases j with
      | zero => exact .inl hj
      | succ j => simpa using q3 j y (by simpa using hj)
    cases x with
    | sl s l' => simp only [normK] at hp
    | nils =>
      cases z with
      | sl es _ =>
        simp only [normK] at hp
        obtain ⟨cs, q1, q2, q3⟩ := normK_spec l zs _ hp
        refine ⟨.sl es [] :: cs, q1, by simp [q2], fun j y hj => ?_⟩
        cases j with
        | zero => simp at hj; subst hj; exact .inr ⟨rfl, es, rfl⟩
        | succ j => simpa using q3 j y (by simpa using hj)
      | _ => exact keep k (by simpa only [normK] using hp)
    | _ => exact keep k (by cases z <;> simpa only [normK] using hp)

/-- What is laid into a variable, as cells. -/
theorem cells_spec {G : List Gh} {Ro S : BS} {i : TI} {x : AV} {v : Value} {k : List AV → Prop} (hv : VR G w Ro S x v) (hp : cellsK i x k) :
    ∃ (cs : List AV) (vs : List Value), k cs ∧ v.cells = vs.toArray ∧ vs.length = i.size ∧ cs.length = vs.length ∧ (∀ j y, cs[j]? = some y → C0 G w Ro S y (vs.getD j undef)) ∧ ∀ u ∈ vs, u.oneCell' = true := by
  unfold cellsK at hp
  have one : x.isSl = false → x ≠ .top → (∀ l, x ≠ .agg l) → (∀ l, x ≠ .tup l) → (if i.size == 1 then k [x] else False) → ∃ (cs : List AV) (vs : List Value), k cs ∧ v.cells = vs.toArray ∧ vs.length = i.size ∧ cs.length = vs.length ∧
      (∀ j y, cs[j]? = some y → C0 G w Ro S y (vs.getD j undef)) ∧ ∀ u ∈ vs, u.oneCell' = true := by
    intro h0 h1 h2 h3 h
    have hone := hv.one h0 h1 h2 h3
    split at h
    · rename_i hs
      have hs : i.size = 1 := by simpa using hs
      have hcells : v.cells = #[v] := by cases v <;> simp_all [Value.cells, Value.oneCell']
      refine ⟨[x], [v], h, hcells, hs.symm, rfl, ?_, by simpa using hone⟩
      intro j y hj
      cases j with
      | zero => simp at hj; subst hj; exact .inl ⟨h0, by simpa using hv, by simpa using hone⟩
      | succ j => simp at hj
    · exact h.elim
  cases hagg : i.agg with
  | true =>
    cases x <;> simp only [hagg] at hp
    case agg l =>
      split at hp
      · rename_i hs
        have hs : l.length = i.size := by simpa using hs
        obtain ⟨vs, rfl, h2, h3, h4⟩ := hv.agg_inv
        obtain ⟨cs, q1, q2, q3⟩ := normK_spec l i.zero k hp
        refine ⟨cs, vs, q1, rfl, by omega, by omega, fun j y hj => ?_, h3⟩
        have hjl : j < vs.length := by have := (List.getElem?_eq_some_iff.1 hj).1; omega
        have hone : (vs.getD j undef).oneCell' = true := by
          rw [List.getD_eq_getElem?_getD, List.getElem?_eq_getElem hjl]
          exact h3 _ (by simp)
        rcases q3 j y hj with h | ⟨h, s, rfl⟩
        · exact .inl ⟨(h4 j y h).notSl, h4 j y h, hone⟩
        · exact .inr ⟨s, none, rfl, (h4 j _ h).nils_inv⟩
      · exact hp.elim
    all_goals exact hp.elim
  | false =>
    cases x <;> simp only [hagg] at hp
    case nils =>
      split at hp
      · rename_i hk es hkind
        have := hv.nils_inv
        subst this
        split at hp
        · rename_i hs
          have hs : i.size = 1 := by simpa using hs
          refine ⟨[.sl es []], [.slice none 0 0], hp, rfl, hs.symm, rfl, ?_, by simp [Value.oneCell']⟩
          intro j y hj
          cases j with
          | zero => simp at hj; subst hj; exact .inr ⟨es, none, rfl, rfl⟩
          | succ j => simp at hj
        · exact hp.elim
      · exact hp.elim
    all_goals exact one rfl (by simp) (by simp) (by simp) hp

/-- A new block, and the root that stands for it. -/
theorem new_blk {G : List Gh} {S : BS} {F : Nat → BS} (hg : Good E G h w S F) (ht : TR G w E.Ro S t a) (cs : Array Value) (T : TypeId) (rt : Root) (g : Gh) (hgb : g.ob = some w.heap.size)
    (hrt : RootR (G ++ [g]) (w.alloc (.cells cs T)) E.Ro S rt g (fun k => k = w.heap.size)) :
    ∃ F', Good E (G ++ [g]) (h ++ [rt]) (w.alloc (.cells cs T)) S F' ∧ TR (G ++ [g]) (w.alloc (.cells cs T)) E.Ro S t a ∧ (G ++ [g])[h.length]? = some g := by
  have hg1 := hg.chg (Chg.alloc w (.cells cs T) _)
  have he := hg.ext_none (Chg.alloc w (.cells cs T) _) (pre_append G g)
  have hg2 := hg1.addRoot g rt (fun k => k = w.heap.size) hrt
    (fun r k hk hf => by have := (hg.own r k hk).1; omega) (fun k hk => by subst hk; exact ⟨by simp, .inr hg.size, fun hs => by have := hg.sb _ hs; omega⟩)
  exact ⟨_, hg2, ht.ext he, by rw [List.getElem?_append_right (by rw [hg.len]; exact Nat.le_refl _)]; simp [hg.len]⟩

theorem s_box {ty : TypeId} {x : Operand} (hC : CtxOk P C) (ho : o.op = .box ty x) : OpS P C o := by
  intro E D t h a w k next Q hp ⟨G, S, F, hg, ht, hd⟩ hpan hc
  unfold opP at hp
  simp only [ho, evK_eq] at hp
  obtain ⟨i, hi, hp⟩ := on_spec hp
  obtain ⟨cs, vs, hp, p1, p2, p3, p4, p5⟩ := cells_spec (evF_spec ht x) hp
  have hp := newK_spec hp
  have he := hg.ext_none (Chg.alloc w (.cells vs.toArray ty) _) (pre_append G ⟨some w.heap.size, i.size, i.size⟩)
  obtain ⟨F', hg2, ht2, hgl⟩ := new_blk hg ht vs.toArray ty (.box cs) ⟨some w.heap.size, i.size, i.size⟩ rfl
    ⟨w.heap.size, vs.toArray, ty, rfl, heap_new w _, by simp [p3], blkR_new cs w.heap.size vs.toArray (by simp [p3]) (fun j y hj => by simpa [Array.getD_eq_getD_getElem?, List.getD_eq_getElem?_getD] using (p4 j y hj).ext he)⟩
  refine wp_val (v := .pointer (some ⟨w.heap.size, 0, none⟩)) (w' := w.alloc (.cells vs.toArray ty)) ?_ (rel_put hg2 ht2 hd (.ptr0 _ _ w.heap.size _ hgl rfl) hp hc)
  simp [execOp, ho, Instr.box, newVar, newRow, newObj, Sem.run, p1]

theorem s_makeSlice {ty : TypeId} {x y : Operand} (hC : CtxOk P C) (ho : o.op = .makeSlice ty x y) : OpS P C o := by
  intro E D t h a w k next Q hp ⟨G, S, F, hg, ht, hd⟩ hpan hc
  unfold opP at hp
  simp only [ho, evK_eq] at hp
  obtain ⟨i, hi, hp⟩ := on_spec hp
  obtain ⟨info, dd, z, h1, h2, h3, h4, h5, h6, _⟩ := hC.tab _ _ hi
  have hv := evF_spec ht x
  have hw := evF_spec ht y
  split at hp
  · rename_i e es A B hk hx hy
    rw [hx] at hv
    rw [hy] at hw
    have hv := hv.v_inv.1
    have hw := hw.v_inv.1
    obtain ⟨ei, hei, hp2⟩ := on_spec hp
    split at hp2
    · exact hp2.elim
    rename_i hb0
    have hb0 : ei.bytes ≠ 0 := by simpa using hb0
    obtain ⟨m, hA, hB, hm, hp3⟩ := hp2
    subst hA; subst hB
    rw [hk] at h6
    cases dd <;> simp only [KindOk] at h6
    rename_i e'
    obtain ⟨he', fi, h7, h8⟩ := h6
    subst he'
    obtain ⟨info', dd', z', q1, q2, q3, q4, q5, q6, q7, q8, q9, q10, q11⟩ := hC.tab _ _ hei
    rw [h7] at q1
    have q1 := Option.some.inj q1
    subst q1
    have hp4 := newK_spec hp3
    have hes : es = ei.size := by omega
    subst hes
    -- the block's cells
    obtain ⟨cells, hcells⟩ : ∃ cells : Array Value, cells = madeCells z'.cells (m * ei.size) := ⟨_, rfl⟩
    have hcs : cells.size = m * ei.size := by simp [hcells, madeCells]
    have hget : ∀ j, j < m * ei.size → cells.getD j undef = z'.cells.getD (j % ei.size) undef := by
      intro j hj
      have : j % ei.size < z'.cells.size := by rw [q8]; exact Nat.mod_lt _ q11
      simp only [hcells, madeCells, Array.getD_eq_getD_getElem?, Array.getElem?_map, Array.getElem?_range, hj, if_true, Option.map_some, Option.getD_some]
      rw [q8, getElem!_pos z'.cells (j % ei.size) this]
      simp [this]
    have hfl : ∀ el ∈ List.replicate m ei.zero, el.length = ei.size := by
      intro el hel
      rw [List.eq_of_mem_replicate hel, q9]
    have he := hg.ext_none (Chg.alloc w (.cells cells e') _) (pre_append G ⟨some w.heap.size, ei.size, cells.size⟩)
    obtain ⟨F', hg2, ht2, hgl⟩ := new_blk hg ht cells e' (.lst ei.size (List.replicate m ei.zero)) ⟨some w.heap.size, ei.size, cells.size⟩ rfl
      ⟨rfl, hfl, .inr ⟨w.heap.size, cells, e', rfl, heap_new w _, rfl, by rw [flat_length ei.size _ hfl, hcs, List.length_replicate]; exact Nat.le_refl _, blkR_new _ w.heap.size cells (by rw [flat_length ei.size _ hfl, hcs, List.length_replicate]; exact Nat.le_refl _) (fun j y hj => by
        have hj1 := (List.getElem?_eq_some_iff.1 hj).1
        rw [flat_length ei.size _ hfl, List.length_replicate] at hj1
        have hdiv : j / ei.size < m := by rw [Nat.div_lt_iff_lt_mul q11]; omega
        have hmod := Nat.mod_lt j q11
        have h1 := flat_get ei.size _ hfl (j / ei.size) ei.zero (by simp [hdiv]) (j % ei.size) hmod
        rw [Nat.div_add_mod'] at h1
        rw [hget j hj1]
        exact (q10 _ _ (h1.symm.trans hj)).c0)⟩⟩
    refine wp_val (v := .slice (some ⟨w.heap.size, 0, none⟩) m m) (w' := w.alloc (.cells cells e')) ?_ (rel_put hg2 ht2 hd (.slc _ _ _ _ _ _ _ hgl (Nat.le_refl _) (fun _ => rfl) (.inr ⟨w.heap.size, rfl, by rw [Nat.zero_mul], by rw [Nat.zero_add, hcs]; exact Nat.le_refl _⟩)) hp4 hc)
    have hmb : m ≤ 281474976710656 := Nat.le_trans (Nat.le_mul_of_pos_left m (by omega)) hm
    have hrun := run_make (P := P) w ty e' fi z' h4 h7 q7 .i64 .i64 (m : Int) (m : Int) (by omega) (by omega) (by rw [q3, ← Int.natCast_mul]; exact Int.ofNat_le.2 hm) (by omega)
    simp only [Int.toNat_natCast, h8, ← hcells] at hrun
    simp [execOp, ho, hv, hw, hrun]
  · exact hp.elim
end

end Go.Proofs.Ytegcfogbdgmajaa.Ab
