/- Sums and comparisons, structs, lengths and calls: each is sound; and with them every operation. No condition. -/
import Derived.Test.YtegcfogbdgmajaaAbFold
import Derived.Laws.StructEq
import Derived.Laws.Slices
namespace Go.Proofs.Ytegcfogbdgmajaa.Ab
set_option linter.unusedVariables false
set_option linter.unusedSimpArgs false

section
variable {P : Program} {C : Ctx} {E : Env} {D : List Deferred × Nat} {o : Oper} {t : TS} {h : HP} {a : Act} {w : World} {k : TS → HP → Prop} {next : Act → World → Prop} {Q : Exit → Act → World → Prop}

theorem eqGuard_v {op : BinOp} {ty : TypeId} {x y : Operand} {u v : Value} (hu : (∃ k n, u = .int k n) ∨ (∃ b, u = .bool b) ∨ (∃ s, u = .string s)) : eqGuard op ty x y u v = pure () := by
  rcases hu with ⟨k, n, rfl⟩ | ⟨b, rfl⟩ | ⟨s, rfl⟩
  · exact eqGuard_at_int op ty x y v k n
  · exact eqGuard_at_bool op ty x y v b
  · exact eqGuard_at_string op ty x y v s

theorem run_equal_bool {w : World} {ty : TypeId} (h : P.underlying ty = some .bool) (p q : Bool) : (Op.equal ty (.bool p) (.bool q)).run P w = .ok (p == q) w := by
  unfold Op.equal Op.maxDepth
  rw [show (10000 : Nat) = 9999 + 1 from rfl, Op.equalIn]
  simp only [Sem.run_bind, run_underlying h, Result.andThen_ok]
  rfl

theorem run_part_basic {w : World} {t : TypeId} {n : Nat} {xs : Array Value} {o : Nat} {v : Value} (h : basicB P t n = true) (hx : xs[o]? = some v) : (part t xs o).run P w = .ok v w := by
  unfold basicB at h
  split at h
  · rename_i hu; simp [part, isAgg, run_underlying hu, hx]
  · rename_i hu; simp [part, isAgg, run_underlying hu, hx]
  · rename_i hu; simp [part, isAgg, run_underlying hu, hx]
  · cases h

/-- What cells of plain kinds are, compared. -/
def eqV : Nat → Value → Value → Option Bool
  | 0, .int j a, .int j' b => if j = j' then some (a == b) else none
  | 1, .bool a, .bool b => some (a == b)
  | 2, .string a, .string b => some (a == b)
  | _, _, _ => none
theorem run_equalIn_basic {w : World} {t : TypeId} {n : Nat} {x y : Value} {e : Bool} (h : basicB P t n = true) (he : eqV n x y = some e) (d : Nat) : (Op.equalIn (d + 1) t x y).run P w = .ok e w := by
  unfold basicB at h
  unfold eqV at he
  split at he
  · split at he
    · rename_i hjj
      subst hjj
      cases he
      split at h
      · rename_i h0; cases h0
      · rename_i hu _; exact run_equalIn_int w d t _ _ _ _ hu
      · rename_i h0; cases h0
      · cases h
    · cases he
  · cases he
    split at h
    · rename_i hu _; exact run_equalIn_bool' w d t _ _ hu
    · rename_i h0; cases h0
    · rename_i h0; cases h0
    · cases h
  · cases he
    split at h
    · rename_i h0; cases h0
    · rename_i h0; cases h0
    · rename_i hu _; rw [run_equalIn_string w d t _ _ hu, beq_toListBytes]
    · cases h
  · cases he

theorem eqCells_eq : ∀ (ks : List Nat) (l r : List AV) (k : Bool → Prop), eqCells ks l r k → l.length = ks.length ∧ r.length = ks.length ∧ ∃ bs : List Bool, k (bs.all id) ∧ bs.length = ks.length ∧
    ∀ (j : Nat) n, ks[j]? = some n → ∃ u v, l[j]? = some (.v u) ∧ r[j]? = some (.v v) ∧ ∃ e, bs[j]? = some e ∧ eqV n u v = some e
  | ks, l, r, k, h => by
    have step : ∀ (n : Nat) (ks : List Nat) (l r : List AV) (u v : Value) (e : Bool), eqV n u v = some e → ((l.length = ks.length ∧ r.length = ks.length ∧ ∃ bs : List Bool, k (e && bs.all id) ∧ bs.length = ks.length ∧
        ∀ (j : Nat) n, ks[j]? = some n → ∃ u v, l[j]? = some (.v u) ∧ r[j]? = some (.v v) ∧ ∃ e, bs[j]? = some e ∧ eqV n u v = some e)) →
        (AV.v u :: l).length = (n :: ks).length ∧ (AV.v v :: r).length = (n :: ks).length ∧ ∃ bs : List Bool, k (bs.all id) ∧ bs.length = (n :: ks).length ∧
        ∀ (j : Nat) m, (n :: ks)[j]? = some m → ∃ u' v', (AV.v u :: l)[j]? = some (.v u') ∧ (AV.v v :: r)[j]? = some (.v v') ∧ ∃ e, bs[j]? = some e ∧ eqV m u' v' = some e := by
      rintro n ks l r u v e he ⟨h1, h2, bs, h3, h4, h5⟩
      refine ⟨by simp [h1], by simp [h2], e :: bs, by simpa using h3, by simp [h4], fun j m hj => ?_⟩
      cases j with
      | zero => simp at hj; subst hj; exact ⟨u, v, rfl, rfl, e, rfl, he⟩
      | succ j => simpa using h5 j m (by simpa using hj)
    unfold eqCells at h
    split at h
    · exact ⟨rfl, rfl, [], h, rfl, by simp⟩
    · split at h
      · rename_i hjj; subst hjj; exact step _ _ _ _ _ _ _ (by simp [eqV]) (eqCells_eq _ _ _ _ h)
      · exact h.elim
    · exact step _ _ _ _ _ _ _ rfl (eqCells_eq _ _ _ _ h)
    · exact step _ _ _ _ _ _ _ rfl (eqCells_eq _ _ _ _ h)
    · exact h.elim

theorem eqFields_run {w : World} (d : Nat) (xs ys : Array Value) (bs : List Bool) : ∀ (fs : List Field) (ks : List Nat) (o : Nat), fs.length = ks.length → ((fs.zip ks).zipIdx o).all (fun p => p.1.1.name != "_" && p.1.1.offset == p.2 && basicB P p.1.1.type p.1.2) = true → bs.length = fs.length + o →
    (∀ (j : Nat) n, ks[j]? = some n → ∃ u v e, xs[o + j]? = some u ∧ ys[o + j]? = some v ∧ bs[o + j]? = some e ∧ eqV n u v = some e) → (Op.eqFields (d + 1) xs ys fs).run P w = .ok ((bs.drop o).all id) w
  | [], ks, o, _, _, h3, _ => by
    simp only [List.length_nil, Nat.zero_add] at h3
    simp [Op.eqFields, List.drop_eq_nil_of_le (show bs.length ≤ o by omega)]
  | f :: fs, [], o, h, _, _, _ => by simp at h
  | f :: fs, n :: ks, o, h0, h1, h3, h4 => by
    simp only [List.zip_cons_cons, List.zipIdx_cons, List.all_cons, Bool.and_eq_true, bne_iff_ne, ne_eq, beq_iff_eq] at h1
    obtain ⟨⟨⟨n1, n2⟩, n3⟩, n4⟩ := h1
    obtain ⟨u, v, e, q1, q2, q3, q4⟩ := h4 0 n rfl
    simp only [Nat.add_zero] at q1 q2 q3
    have ih := eqFields_run (w := w) d xs ys bs fs ks (o + 1) (by simpa using h0) n4 (by simp at h3; omega) (fun j g hg => by
      have := h4 (j + 1) g (by simpa using hg)
      rwa [show o + (j + 1) = o + 1 + j by omega] at this)
    have hol : o < bs.length := (List.getElem?_eq_some_iff.1 q3).1
    have hdrop : bs.drop o = e :: bs.drop (o + 1) := by
      rw [List.drop_eq_getElem_cons hol]
      rw [List.getElem?_eq_getElem hol] at q3
      cases q3; rfl
    simp only [Op.eqFields, n1, ne_eq, not_false_eq_true, if_true, Sem.run_bind, n2, run_part_basic n3 q1, run_part_basic n3 q2, Result.andThen_ok, run_equalIn_basic n3 q4]
    rw [hdrop]
    cases e
    · simp
    · simpa using ih

theorem eqAgg {G : List Gh} {Ro S : BS} {w0 : World} {ty : TypeId} {ks : List Nat} {l r : List AV} {xs ys : List Value} {K : Bool → Prop} (he : eqB P ty ks = true) (a1 : l.length = xs.length) (b1 : r.length = ys.length)
    (a3 : ∀ j x, l[j]? = some x → VR G w0 Ro S x (xs.getD j undef)) (b3 : ∀ j x, r[j]? = some x → VR G w0 Ro S x (ys.getD j undef)) (hp : eqCells ks l r K) :
    ∃ e, K e ∧ P.eqGuardType P.depth ty = false ∧ ∀ w : World, (Op.equalIn 10000 ty (.agg xs.toArray) (.agg ys.toArray)).run P w = .ok e w := by
  obtain ⟨h1, h2, bs, h3, h4, h5⟩ := eqCells_eq ks l r K hp
  have cell : ∀ (j : Nat) n, ks[j]? = some n → ∃ u v e, xs[j]? = some u ∧ ys[j]? = some v ∧ bs[j]? = some e ∧ eqV n u v = some e := by
    intro j n hj
    obtain ⟨u, v, q1, q2, e, q3, q4⟩ := h5 j n hj
    have r1 := (a3 j _ q1).v_inv.1
    have r2 := (b3 j _ q2).v_inv.1
    have l1 := (List.getElem?_eq_some_iff.1 q1).1
    have l2 := (List.getElem?_eq_some_iff.1 q2).1
    refine ⟨u, v, e, ?_, ?_, q3, q4⟩
    · rw [List.getD_eq_getElem?_getD, List.getElem?_eq_getElem (by omega)] at r1
      rw [List.getElem?_eq_getElem (by omega)]; simpa using r1
    · rw [List.getD_eq_getElem?_getD, List.getElem?_eq_getElem (by omega)] at r2
      rw [List.getElem?_eq_getElem (by omega)]; simpa using r2
  unfold eqB at he
  split at he
  · rename_i fs hu
    simp only [Bool.and_eq_true, Bool.not_eq_true', beq_iff_eq] at he
    obtain ⟨⟨⟨e1, e2⟩, e3⟩, e4⟩ := he
    refine ⟨_, h3, e2, fun w => ?_⟩
    have hfs : P.fieldsOf ty = fs := by simp [Program.fieldsOf, hu]
    rw [show (10000 : Nat) = 9999 + 1 from rfl, run_equalIn_struct w 9999 ty _ _ (by rw [hfs]; exact hu) e1, hfs]
    have := eqFields_run (P := P) (w := w) 9998 xs.toArray ys.toArray bs fs.toList ks 0 (by simpa using e3) e4 (by simp [h4, e3]) (fun j n hj => by simpa using cell j n hj)
    simpa using this
  · rename_i e hu
    split at he
    · rename_i hue hie
      simp only [Bool.and_eq_true, Bool.not_eq_true', beq_iff_eq] at he
      refine ⟨_, h3, he.1, fun w => ?_⟩
      obtain ⟨u0, v0, e0, p1, p2, p3, p4⟩ := cell 0 0 rfl
      obtain ⟨u1, v1, e1, q1, q2, q3, q4⟩ := cell 1 0 rfl
      have hb : bs = [e0, e1] := by
        rcases bs with _ | ⟨x, _ | ⟨y, _ | ⟨z, t⟩⟩⟩ <;> simp at h4 p3 q3
        subst p3; subst q3; rfl
      have hbas : basicB P e 0 = true := by simp [basicB, hue]
      subst hb
      rw [show (10000 : Nat) = 9999 + 1 from rfl]
      unfold Op.equalIn
      simp only [Sem.run_bind, run_underlying hu, Result.andThen_ok, run_sizeOf' hie, he.2]
      simp [Std.Legacy.Range.forIn_eq_forIn_range', Std.Legacy.Range.size, List.range', run_part_basic (w := w) hbas (show xs.toArray[0]? = some u0 by simpa using p1), run_part_basic (w := w) hbas (show ys.toArray[0]? = some v0 by simpa using p2), run_part_basic (w := w) hbas (show xs.toArray[1]? = some u1 by simpa using q1), run_part_basic (w := w) hbas (show ys.toArray[1]? = some v1 by simpa using q2), run_equalIn_basic (w := w) hbas p4 9998, run_equalIn_basic (w := w) hbas q4 9998]
      cases e0 <;> cases e1 <;> simp
    · cases he
  · cases he
theorem nilEq_spec {G : List Gh} {Ro S : BS} {w0 : World} {ty : TypeId} {i : TI} {x : AV} {u v : Value} {K : Bool → Prop} (hi : TIok P ty i) (hu : VR G w0 Ro S x u) (hv : VR G w0 Ro S .nils v) (hp : nilEq i.kind x K) :
    ∃ e, K e ∧ (∀ (op : BinOp) (p q : Operand) (w : World), (eqGuard op ty p q u v).run P w = .ok () w) ∧ (∀ w : World, (binOp .eql ty u v).run P w = .ok (.bool e) w) ∧ ∀ w : World, (binOp .neq ty u v).run P w = .ok (.bool (!e)) w := by
  have hv := hv.nils_inv
  subst hv
  obtain ⟨info, d, z, h1, h2, h3, h4, h5, h6, _⟩ := hi
  have fin : ∀ (a : Option Addr) (n c : Nat) (e : Bool), u = .slice a n c → e = a.isNone → (∃ el es, i.kind = .slice el es) → K e → ∃ e, K e ∧ (∀ (op : BinOp) (p q : Operand) (w : World), (eqGuard op ty p q u (.slice none 0 0)).run P w = .ok () w) ∧
      (∀ w : World, (binOp .eql ty u (.slice none 0 0)).run P w = .ok (.bool e) w) ∧ ∀ w : World, (binOp .neq ty u (.slice none 0 0)).run P w = .ok (.bool (!e)) w := by
    rintro a n c e rfl he ⟨el, es, hk⟩ hK
    rw [hk] at h6
    cases d <;> simp only [KindOk] at h6
    have heq : ∀ w : World, (Op.equal ty (.slice a n c) (.slice none 0 0)).run P w = .ok e w := by
      intro w
      unfold Op.equal Op.maxDepth
      rw [show (10000 : Nat) = 9999 + 1 from rfl, Op.equalIn]
      simp only [Sem.run_bind, run_underlying h4, Result.andThen_ok]
      cases a with
      | none => simp [he]
      | some a => simp [he]
    refine ⟨e, hK, fun op p q w => by cases op <;> simp [eqGuard], fun w => ?_, fun w => ?_⟩
    · simp [binOp, heq]
    · simp [binOp, heq]
  unfold nilEq at hp
  split at hp
  · rename_i hk
    obtain ⟨g, ad, c, p1, p2, p3, p4, p5⟩ := hu.slc_inv
    cases ad with
    | none =>
      refine fin none _ _ true p2 rfl ⟨_, _, hk⟩ (hp.1 ?_)
      rcases p5 with p5 | ⟨b, _, p6, _⟩
      · omega
      · cases p6
    | some ad => exact fin _ _ _ false p2 rfl ⟨_, _, hk⟩ hp.2
  · rename_i hk
    obtain ⟨b, g, c, p1, p2, p3, p4⟩ := hu.bsl_inv
    exact fin _ _ _ false p4 rfl ⟨_, _, hk⟩ hp.2
  · rename_i l hk
    obtain ⟨ad, c, p1, p2, p3⟩ := hu.imm_inv
    cases ad with
    | none =>
      refine fin none _ _ true p1 rfl ⟨_, _, hk⟩ (hp.1 ?_)
      generalize hn : l.length = n at p3
      cases p3 with
      | sl0 => simp
    | some ad => exact fin _ _ _ false p1 rfl ⟨_, _, hk⟩ hp.2
  · rename_i hk
    exact fin none 0 0 true hu.nils_inv rfl ⟨_, _, hk⟩ hp
  · exact hp.elim

theorem binP_spec {G : List Gh} {Ro S : BS} {op : BinOp} {ty : TypeId} {x y : AV} {u v : Value} {K : AV → Prop} (hC : CtxOk P C) (hu : VR G w Ro S x u) (hv : VR G w Ro S y v) (hp : binP op (C.tab ty) x y K) :
    ∃ z r, K z ∧ VR G w Ro S z r ∧ (∀ (p q : Operand) (w : World), (eqGuard op ty p q u v).run P w = .ok () w) ∧ ∀ w : World, (binOp op ty u v).run P w = .ok r w := by
  unfold binP at hp
  split at hp
  · obtain rfl := hu.v_inv.1
    obtain rfl := hv.v_inv.1
    exact ⟨_, _, hp.2, vr_int _ _ _ _ _ _, fun _ _ _ => by rw [eqGuard_v (.inl ⟨_, _, rfl⟩)]; rfl, fun w => by simp [binOp, Op.shift, Int.not_lt.2 hp.1]⟩
  · obtain rfl := hu.v_inv.1
    obtain rfl := hv.v_inv.1
    exact ⟨_, _, hp.2, vr_int _ _ _ _ _ _, fun _ _ _ => by rw [eqGuard_v (.inl ⟨_, _, rfl⟩)]; rfl, fun w => by simp [binOp, Op.shift, Int.not_lt.2 hp.1]⟩
  · obtain rfl := hu.v_inv.1
    obtain rfl := hv.v_inv.1
    exact ⟨_, _, hp, vr_bool _ _ _ _ _, fun _ _ _ => by rw [eqGuard_v (.inr (.inr ⟨_, rfl⟩))]; rfl, fun w => by simp [binOp, Op.stringOp]⟩
  · obtain rfl := hu.v_inv.1
    obtain rfl := hv.v_inv.1
    exact ⟨_, _, hp, vr_bool _ _ _ _ _, fun _ _ _ => by rw [eqGuard_v (.inr (.inr ⟨_, rfl⟩))]; rfl, fun w => by simp [binOp, Op.stringOp]⟩
  · obtain rfl := hu.v_inv.1
    obtain rfl := hv.v_inv.1
    exact ⟨_, _, hp.2, .ir _ _ rfl (.v _ _ rfl), fun _ _ _ => by rw [eqGuard_v (.inr (.inr ⟨_, rfl⟩))]; rfl, fun w => by rw [show binOp .add ty (.string _) (.string _) = Op.stringOp .add _ _ from rfl, run_string_add_sum w _ _ hp.1]⟩
  · obtain rfl := hu.v_inv.1
    obtain rfl := hv.v_inv.1
    obtain ⟨i, hi, hp⟩ := on_spec hp
    obtain ⟨info, d, z, h1, h2, h3, h4, h5, h6, _⟩ := hC.tab _ _ hi
    split at hp
    · rename_i hk
      rw [hk] at h6
      cases d <;> simp only [KindOk] at h6
      exact ⟨_, _, hp, vr_bool _ _ _ _ _, fun _ _ _ => by rw [eqGuard_v (.inr (.inl ⟨_, rfl⟩))]; rfl, fun w => by simp only [binOp, Sem.run_bind, run_equal_bool h4, Result.andThen_ok]; rfl⟩
    · exact hp.elim
  · obtain rfl := hu.v_inv.1
    obtain rfl := hv.v_inv.1
    obtain ⟨i, hi, hp⟩ := on_spec hp
    obtain ⟨info, d, z, h1, h2, h3, h4, h5, h6, _⟩ := hC.tab _ _ hi
    split at hp
    · rename_i hk
      rw [hk] at h6
      cases d <;> simp only [KindOk] at h6
      exact ⟨_, _, hp, vr_bool _ _ _ _ _, fun _ _ _ => by rw [eqGuard_v (.inr (.inl ⟨_, rfl⟩))]; rfl, fun w => by simp only [binOp, Sem.run_bind, run_equal_bool h4, Result.andThen_ok]; rfl⟩
    · exact hp.elim
  · obtain ⟨i, hi, hp⟩ := on_spec hp
    obtain ⟨xs, rfl, a1, a2, a3⟩ := hu.agg_inv
    obtain ⟨ys, rfl, b1, b2, b3⟩ := hv.agg_inv
    split at hp
    · exact hp.elim
    · rename_i he
      obtain ⟨e, h1, h2, h3⟩ := eqAgg (hC.eqs _ _ hi he) a1 b1 a3 b3 hp
      exact ⟨_, _, h1, vr_bool _ _ _ _ _, fun p q w => run_eqGuard_agg w _ _ _ _ _ _ h2, fun w => by rw [run_eql_struct, h3]; rfl⟩
  · obtain ⟨i, hi, hp⟩ := on_spec hp
    obtain ⟨xs, rfl, a1, a2, a3⟩ := hu.agg_inv
    obtain ⟨ys, rfl, b1, b2, b3⟩ := hv.agg_inv
    split at hp
    · exact hp.elim
    · rename_i he
      obtain ⟨e, h1, h2, h3⟩ := eqAgg (hC.eqs _ _ hi he) a1 b1 a3 b3 hp
      exact ⟨_, _, h1, vr_bool _ _ _ _ _, fun p q w => run_eqGuard_agg w _ _ _ _ _ _ h2, fun w => by rw [run_neq_struct, h3]; rfl⟩
  · obtain ⟨i, hi, hp⟩ := on_spec hp
    obtain ⟨e, h1, h2, h3, h3'⟩ := nilEq_spec (hC.tab _ _ hi) hu hv hp
    exact ⟨_, _, h1, vr_bool _ _ _ _ _, fun p q w => h2 _ p q w, h3⟩
  · obtain ⟨i, hi, hp⟩ := on_spec hp
    obtain ⟨e, h1, h2, h3, h3'⟩ := nilEq_spec (hC.tab _ _ hi) hu hv hp
    exact ⟨_, _, h1, vr_bool _ _ _ _ _, fun p q w => h2 _ p q w, h3'⟩
  · obtain rfl := hu.v_inv.1
    obtain rfl := hv.v_inv.1
    split at hp
    · rename_i hkk
      subst hkk
      obtain ⟨r, h1, h2, h3⟩ := intOp_spec (P := P) hp ty
      exact ⟨_, r, h1, .ir _ _ rfl (.v _ _ h2), fun _ _ _ => by rw [eqGuard_v (.inl ⟨_, _, rfl⟩)]; rfl, h3⟩
    · exact hp.elim
  · exact hp.elim

theorem q_binOp {op : BinOp} {ty ty' : TypeId} {x y : Operand} (hC : CtxOk P C) (ho : o.op = .binOp op ty x y ty') : OpQ P C o := by
  intro E D t h a w k hp ⟨G, S, F, hg, ht, hd⟩
  unfold opP at hp
  simp only [ho, evK_eq] at hp
  obtain ⟨z, r, h1, h2, h3, h4⟩ := binP_spec hC (evF_spec ht x) (evF_spec ht y) hp
  exact q_val (v := r) (fun w2 _ => by simp only [execOp, ho, Sem.run_bind, h3, Result.andThen_ok, h4]; rfl) hg ht hd h2 h1
theorem u_binOp {op : BinOp} {ty ty' : TypeId} {x y : Operand} (hC : CtxOk P C) (ho : o.op = .binOp op ty x y ty') : OpU P C o := by
  intro E D t h a w k hp ⟨G, S, F, hg, ht, hd⟩
  unfold opP at hp
  simp only [ho, evK_eq] at hp
  obtain ⟨z, r, h1, h2, h3, h4⟩ := binP_spec hC (evF_spec ht x) (evF_spec ht y) hp
  exact u_val (v := r) (fun w2 => by simp only [execOp, ho, Sem.run_bind, h3, Result.andThen_ok, h4]; rfl) hg ht hd h2 h1

theorem q_unOp {op : UnOp} {ty : TypeId} {x : Operand} (ho : o.op = .unOp op ty x) : OpQ P C o := by
  intro E D t h a w k hp ⟨G, S, F, hg, ht, hd⟩
  unfold opP at hp
  simp only [ho, evK_eq] at hp
  have hv := evF_spec ht x
  split at hp
  · rename_i b hb
    rw [hb] at hv
    have hv := hv.v_inv.1
    exact q_val (v := .bool (!b)) (fun w2 _ => by simp [execOp, ho, hv, Op.unary]) hg ht hd (vr_bool _ _ _ _ _) hp
  · rename_i n z hb
    rw [hb] at hv
    have hv := hv.v_inv.1
    obtain ⟨r, h1, h2, h3⟩ := intOp_spec (P := P) hp ty
    have h4 : ∀ w : World, (Op.intArith .sub n 0 z).run P w = .ok r w := fun w => by simpa [binOp] using h3 w
    exact q_val (v := r) (fun w2 _ => by simp [execOp, ho, hv, Op.unary, h4]) hg ht hd (.ir _ _ rfl (.v _ _ h2)) h1
  · rename_i n z hb
    rw [hb] at hv
    have hv := hv.v_inv.1
    obtain ⟨r, h1, h2, h3⟩ := intOp_spec (P := P) hp ty
    have h4 : ∀ w : World, (Op.intBits .xor n (if n.signed then -1 else n.max) z).run P w = .ok r w := fun w => by simpa [binOp] using h3 w
    exact q_val (v := r) (fun w2 _ => by simp [execOp, ho, hv, Op.unary, h4]) hg ht hd (.ir _ _ rfl (.v _ _ h2)) h1
  · exact hp.elim
theorem u_unOp {op : UnOp} {ty : TypeId} {x : Operand} (ho : o.op = .unOp op ty x) : OpU P C o := by
  intro E D t h a w k hp ⟨G, S, F, hg, ht, hd⟩
  unfold opP at hp
  simp only [ho, evK_eq] at hp
  have hv := evF_spec ht x
  split at hp
  · rename_i b hb
    rw [hb] at hv
    have hv := hv.v_inv.1
    exact u_val (v := .bool (!b)) (fun w2 => by simp [execOp, ho, hv, Op.unary]) hg ht hd (vr_bool _ _ _ _ _) hp
  · rename_i n z hb
    rw [hb] at hv
    have hv := hv.v_inv.1
    obtain ⟨r, h1, h2, h3⟩ := intOp_spec (P := P) hp ty
    have h4 : ∀ w : World, (Op.intArith .sub n 0 z).run P w = .ok r w := fun w => by simpa [binOp] using h3 w
    exact u_val (v := r) (fun w2 => by simp [execOp, ho, hv, Op.unary, h4]) hg ht hd (.ir _ _ rfl (.v _ _ h2)) h1
  · rename_i n z hb
    rw [hb] at hv
    have hv := hv.v_inv.1
    obtain ⟨r, h1, h2, h3⟩ := intOp_spec (P := P) hp ty
    have h4 : ∀ w : World, (Op.intBits .xor n (if n.signed then -1 else n.max) z).run P w = .ok r w := fun w => by simpa [binOp] using h3 w
    exact u_val (v := r) (fun w2 => by simp [execOp, ho, hv, Op.unary, h4]) hg ht hd (.ir _ _ rfl (.v _ _ h2)) h1
  · exact hp.elim

theorem argsRel {G S} (ht : TR G w E.Ro S t a) (l : List Operand) : ∀ (j : Nat) x, (l.map (evF t))[j]? = some x → VR G w E.Ro S x ((l.map a.eval).getD j undef) := by
  intro j x hj
  rw [List.getElem?_map] at hj
  cases hl : l[j]? with
  | none => simp [hl] at hj
  | some y =>
    simp [hl] at hj
    subst hj
    rw [List.getD_eq_getElem?_getD, List.getElem?_map, hl]
    exact evF_spec ht y

theorem q_len {c : Call} (hC : CtxOk P C) (ho : o.op = .call c) (hcal : c.callee = .builtin .len) : OpQ P C o := by
  intro E D t h a w k hp ⟨G, S, F, hg, ht, hd⟩
  unfold opP at hp
  simp only [ho, mapK_ev, hcal] at hp
  obtain ⟨ty, hty, hp⟩ := on_spec hp
  obtain ⟨i, hi, hp⟩ := on_spec hp
  obtain ⟨info, d, z, h1, h2, h3, h4, h5, h6, _⟩ := hC.tab _ _ hi
  have hl : (c.args.toList.map (evF t)).length = c.args.size := by simp
  have h0 : c.args.size = 1 → ∃ p, c.args = #[p] := fun hs => by
    clear hl
    rcases c with ⟨c1, ⟨l⟩, c3⟩
    cases l with
    | nil => simp at hs
    | cons p r => cases r with
      | nil => exact ⟨p, rfl⟩
      | cons _ _ => simp at hs
  have fin : ∀ (p : Operand), c.args = #[p] → ∀ (n : Int), (∀ w : World, (Builtin.len_ c.argTypes o.type #[a.eval p]).run P w = .ok (.int .i64 n) w) → (putK t o.dst (.v (.int .i64 n)) fun t => k t h) → QRes P E D o a w k := by
    intro p hpa n hr hk
    refine q_val (v := .int .i64 n) (fun w2 _ => ?_) hg ht hd (vr_int _ _ _ _ _ _) hk
    simp [execOp, ho, resolve, hcal, invoke, builtin, hpa, hr]
  unfold lenP at hp
  split at hp
  · rename_i e es r b n zz hk hb
    obtain ⟨p, hpa⟩ := h0 (by rw [← hl, hb]; rfl)
    have hv := evF_spec ht p
    rw [hpa] at hb
    simp at hb
    rw [hb] at hv
    obtain ⟨g, ad, cc, p1, p2, _⟩ := hv.slc_inv
    rw [hk] at h6
    cases d <;> simp only [KindOk] at h6
    exact fin p hpa n (fun w => by simp [Builtin.len_, hty, p2, run_underlying h4, goInt]) hp
  · rename_i e es r b n hk hb
    obtain ⟨p, hpa⟩ := h0 (by rw [← hl, hb]; rfl)
    have hv := evF_spec ht p
    rw [hpa] at hb
    simp at hb
    rw [hb] at hv
    obtain ⟨bb, g, cc, p1, p3, p4, p2⟩ := hv.bsl_inv
    rw [hk] at h6
    cases d <;> simp only [KindOk] at h6
    exact fin p hpa n (fun w => by simp [Builtin.len_, hty, p2, run_underlying h4, goInt]) hp
  · rename_i e es t' zz s l hk hb
    obtain ⟨p, hpa⟩ := h0 (by rw [← hl, hb]; rfl)
    have hv := evF_spec ht p
    rw [hpa] at hb
    simp at hb
    rw [hb] at hv
    obtain ⟨ad, cc, p2, _⟩ := hv.imm_inv
    rw [hk] at h6
    cases d <;> simp only [KindOk] at h6
    exact fin p hpa _ (fun w => by simp [Builtin.len_, hty, p2, run_underlying h4, goInt]) hp
  · rename_i e es hk hb
    obtain ⟨p, hpa⟩ := h0 (by rw [← hl, hb]; rfl)
    have hv := evF_spec ht p
    rw [hpa] at hb
    simp at hb
    rw [hb] at hv
    have p2 := hv.nils_inv
    rw [hk] at h6
    cases d <;> simp only [KindOk] at h6
    exact fin p hpa _ (fun w => by simp [Builtin.len_, hty, p2, run_underlying h4, goInt]) hp
  · rename_i s hk hb
    obtain ⟨p, hpa⟩ := h0 (by rw [← hl, hb]; rfl)
    have hv := evF_spec ht p
    rw [hpa] at hb
    simp at hb
    rw [hb] at hv
    have p2 := hv.v_inv.1
    rw [hk] at h6
    cases d <;> simp only [KindOk] at h6
    exact fin p hpa _ (fun w => by simp [Builtin.len_, hty, p2, run_underlying h4, goInt]) hp
  · exact hp.elim

theorem s_callv {c : Call} {f : Operand} (hC : CtxOk P C) (ho : o.op = .call c) (hcal : c.callee = .value f) : OpS P C o := by
  intro E D t h a w k next Q hp ⟨G, S, F, hg, ht, hd⟩ hpan hc
  unfold opP at hp
  simp only [ho, mapK_ev, hcal, evK_eq] at hp
  have hargs := argsRel ht c.args.toList
  have hv := evF_spec ht f
  split at hp
  · rename_i f' caps hb
    rw [hb] at hv
    obtain ⟨vs, q1, q2, q3⟩ := hv.fn_inv
    obtain ⟨H, hH, hp⟩ := on_spec hp
    obtain ⟨hs, fn, g1, g2, g3⟩ := hC.call _ _ hH
    have hcalls := hs E G S F h w (c.args.toList.map (evF t) ++ caps) (c.args.toList.map a.eval ++ vs) _ hg (by simp [q2]) (fun j x hj => by
      rw [List.getElem?_append] at hj
      split at hj
      · rename_i hlt
        have := hargs j x hj
        rw [List.getD_eq_getElem?_getD, List.getElem?_append_left (by simpa using hlt)]
        rwa [List.getD_eq_getElem?_getD] at this
      · rename_i hlt
        have := q3 _ x hj
        rw [List.getD_eq_getElem?_getD, List.getElem?_append_right (by simpa using hlt)]
        rw [List.getD_eq_getElem?_getD] at this
        simpa using this) hp
    have hrun : (execOp a.eval o).run P w = .ok (.enter f' (c.args.toList.map a.eval ++ vs).toArray) w := by
      have hnb : ¬ fn.body = none := by intro hfb; simp [hfb] at g3
      have hnn : ¬ fn.name = "runtime.NumGoroutine" := by simpa using g2
      simp [execOp, ho, resolve, hcal, Deferred.ofValue, q1, invoke, callFunc, program, Sem.run, g1, hnn, hnb]
    unfold Oper.wp
    rw [hrun]
    refine hcalls.mono ?_
    rintro e w' ⟨x, h', G', S', F', hk, hg', he, hx⟩
    rcases hx with ⟨v, rfl, hvx⟩ | ⟨v, rfl, rfl⟩
    · have hk : putK t o.dst x fun t => k t h' := by
        cases x <;> first | exact hk | exact hvx.pan_inv.elim
      exact rel_put hg' (ht.ext he) hd hvx hk hc
    · exact hpan v t h' a w' hk ⟨G', S', F', hg', ht.ext he, hd⟩
  · exact hp.elim

theorem foldl_get (off : Nat) : ∀ (vs : List Value) (q : Nat) (c : Array Value), off + q + vs.length ≤ c.size →
    ((vs.zipIdx q).foldl (fun cs (p : Value × Nat) => cs.setIfInBounds (off + p.2) p.1) c).size = c.size ∧
    ∀ j, ((vs.zipIdx q).foldl (fun cs (p : Value × Nat) => cs.setIfInBounds (off + p.2) p.1) c)[j]? = if off + q ≤ j ∧ j < off + q + vs.length then vs[j - (off + q)]? else c[j]?
  | [], q, c, _ => ⟨rfl, fun j => by rw [if_neg (by simp only [List.length_nil]; omega)]; rfl⟩
  | v :: vs, q, c, h => by
    simp only [List.length_cons] at h
    obtain ⟨h1, h2⟩ := foldl_get off vs (q + 1) (c.setIfInBounds (off + q) v) (by simp; omega)
    simp only [List.zipIdx_cons, List.foldl_cons]
    refine ⟨by rw [h1]; simp, fun j => ?_⟩
    rw [h2 j]
    simp only [List.length_cons]
    by_cases c1 : off + (q + 1) ≤ j ∧ j < off + (q + 1) + vs.length
    · rw [if_pos c1, if_pos (by omega), show j - (off + q) = (j - (off + (q + 1))) + 1 by omega]
      simp
    · rw [if_neg c1]
      by_cases c2 : j = off + q
      · subst c2
        rw [if_pos (by omega)]
        simp [show off + q < c.size by omega]
      · rw [if_neg (by omega), Array.getElem?_setIfInBounds_ne (by omega)]

/-- Struct cells as they are known. -/
def CellsR (G : List Gh) (w : World) (Ro S : BS) (l : List AV) (c : Array Value) : Prop := l.length = c.size ∧ (∀ j x, l[j]? = some x → VR G w Ro S x (c.getD j undef)) ∧ ∀ j, j < c.size → (c.getD j undef).oneCell' = true

theorem fill_spec {G : List Gh} {Ro S : BS} {placeA place : Nat → Option (Nat × Nat)} (hpl : ∀ n p, placeA n = some p → place n = some p) : ∀ (ps : List (Nat × AV)) (pv : List (Nat × Value)) (cells : List AV) (cv : Array Value) (K : List AV → Prop),
    ps.length = pv.length → (∀ (j : Nat) p, ps[j]? = some p → ∃ v, pv[j]? = some (p.1, v) ∧ VR G w Ro S p.2 v) → CellsR G w Ro S cells cv → fillK placeA ps cells K →
    ∃ l c, K l ∧ Instr.fill place cv pv = some c ∧ CellsR G w Ro S l c
  | [], pv, cells, cv, K, hl, _, hc, hp => by
    cases pv with
    | nil => exact ⟨cells, cv, hp, rfl, hc⟩
    | cons _ _ => simp at hl
  | (i, x) :: ps, pv, cells, cv, K, hl, hr, hc, hp => by
    obtain ⟨v, hv0, hv⟩ := hr 0 (i, x) rfl
    cases pv with
    | nil => simp at hl
    | cons q pv =>
      simp at hv0
      subst hv0
      simp only [fillK] at hp
      obtain ⟨p, hpi, hp2⟩ := on_spec hp
      clear hp
      have hp := hp2
      clear hp2
      have fin : ∀ (cs : List AV) (vs : List Value), v.cells = vs.toArray → cs.length = vs.length → vs.length = p.2 → (∀ j y, cs[j]? = some y → VR G w Ro S y (vs.getD j undef)) → (∀ u ∈ vs, u.oneCell' = true) →
          (layK cells p.1 cs fun cells => fillK placeA ps cells K) → ∃ l c, K l ∧ Instr.fill place cv ((i, v) :: pv) = some c ∧ CellsR G w Ro S l c := by
        intro cs vs h1 h2 h3 h4 h5 hp
        obtain ⟨h6, hp⟩ := layK_spec _ _ _ _ hp
        obtain ⟨g1, g2⟩ := foldl_get p.1 vs 0 cv (by rw [← hc.1]; omega)
        obtain ⟨c1, hc1⟩ : ∃ c1, c1 = (vs.zipIdx 0).foldl (fun cs (p_1 : Value × Nat) => cs.setIfInBounds (p.1 + p_1.2) p_1.1) cv := ⟨_, rfl⟩
        rw [← hc1] at g1 g2
        have hcr : CellsR G w Ro S (lay cells p.1 cs) c1 := by
          refine ⟨by rw [lay_length h6, g1]; exact hc.1, fun j y hj => ?_, fun j hj => ?_⟩
          · rw [lay_get h6] at hj
            rw [Array.getD_eq_getD_getElem?, g2 j]
            split at hj
            · rename_i hin
              rw [if_pos (by omega)]
              have := h4 _ y hj
              rwa [List.getD_eq_getElem?_getD] at this
            · rename_i hin
              rw [if_neg (by omega)]
              have := hc.2.1 j y hj
              rwa [Array.getD_eq_getD_getElem?] at this
          · rw [g1] at hj
            rw [Array.getD_eq_getD_getElem?, g2 j]
            split
            · rename_i hin
              have : j - (p.1 + 0) < vs.length := by omega
              rw [List.getElem?_eq_getElem this]
              exact h5 _ (by simp)
            · have := hc.2.2 j hj
              rwa [Array.getD_eq_getD_getElem?] at this
        obtain ⟨l, c, k1, k2, k3⟩ := fill_spec hpl ps pv _ c1 K (by simpa using hl) (fun j q hj => by simpa using hr (j + 1) q (by simpa using hj)) hcr hp
        refine ⟨l, c, k1, ?_, k3⟩
        have hfold : v.cells.zipIdx.foldl (fun cs (x : Value × Nat) => cs.setIfInBounds (p.1 + x.2) x.1) cv = c1 := by
          rw [hc1, h1, ← Array.foldl_toList, Array.toList_zipIdx]
        have hsz : v.cells.size = vs.length := by rw [h1]; simp
        simp only [Instr.fill, hpl _ _ hpi]
        rw [if_neg (by rw [hsz, h3]; have := hc.1; simp; omega)]
        exact (congrArg (fun z => Instr.fill place z pv) hfold).trans k2
      have one : x.isSl = false → x ≠ .top → (∀ l, x ≠ .agg l) → (∀ l, x ≠ .tup l) → (if p.2 == 1 then layK cells p.1 [x] fun cells => fillK placeA ps cells K else False) → ∃ l c, K l ∧ Instr.fill place cv ((i, v) :: pv) = some c ∧ CellsR G w Ro S l c := by
        intro h0 h1 h2 h3 hp
        have hone := hv.one h0 h1 h2 h3
        split at hp
        · rename_i hs
          have hcells : v.cells = #[v] := by cases v <;> simp_all [Value.cells, Value.oneCell']
          have hs : p.2 = 1 := by simpa using hs
          refine fin [x] [v] hcells rfl hs.symm ?_ (by simpa using hone) hp
          intro j y hj
          cases j with
          | zero => simp at hj; subst hj; simpa using hv
          | succ j => simp at hj
        · exact hp.elim
      cases x <;> simp only at hp
      case agg =>
        rename_i l
        obtain ⟨vs, rfl, h2, h3, h4⟩ := hv.agg_inv
        split at hp
        · rename_i hs
          have hs : l.length = p.2 := by simpa using hs
          exact fin l vs rfl h2 (by omega) h4 h3 hp
        · exact hp.elim
      all_goals first
        | exact hp.elim
        | exact one rfl (by simp) (by simp) (by simp) hp

def nilF (c : AV) : AV := match c with | .sl _ _ => .nils | x => x
theorem mapK_nil (l : List AV) (k : List AV → Prop) : mapK nilK l k = k (l.map nilF) := by
  induction l generalizing k with
  | nil => rfl
  | cons a l ih =>
    simp only [mapK, List.map_cons]
    cases a <;> simp only [nilK, nilF, ih]
theorem mapK_ps (t : TS) (l : List (Nat × Operand)) (k : List (Nat × AV) → Prop) : mapK (fun (p : Nat × Operand) k => evK t p.2 fun a => k (p.1, a)) l k = k (l.map fun p => (p.1, evF t p.2)) := by
  induction l generalizing k with
  | nil => rfl
  | cons a l ih =>
    simp only [mapK, List.map_cons]
    rw [evK_eq]
    exact ih _

theorem q_build {ty : TypeId} {ps : Array (Nat × Operand)} (hC : CtxOk P C) (ho : o.op = .build ty ps) : OpQ P C o := by
  intro E D t h a w k hp ⟨G, S, F, hg, ht, hd⟩
  unfold opP at hp
  simp only [ho] at hp
  obtain ⟨i, hi, hp⟩ := on_spec hp
  rw [mapK_ps, mapK_nil] at hp
  obtain ⟨info, d, z, h1, h2, h3, h4, h5, h6, h7, h8, h9, h10, h11⟩ := hC.tab _ _ hi
  have hz : CellsR G w E.Ro S (i.zero.map nilF) z.cells := by
    refine ⟨by simp; omega, fun j x hj => ?_, fun j hj => ?_⟩
    · rw [List.getElem?_map] at hj
      cases hij : i.zero[j]? with
      | none => simp [hij] at hj
      | some y =>
        simp [hij] at hj
        subst hj
        rcases h10 j y hij with ⟨q, rfl, r1, r2⟩ | ⟨s, rfl, r1⟩
        · rw [r1]; exact .ir _ _ rfl (.v _ _ r2)
        · rw [r1]; exact .nils
    · rcases h10 j i.zero[j] (List.getElem?_eq_getElem (by omega)) with ⟨q, _, r1, r2⟩ | ⟨s, _, r1⟩
      · rw [r1]; exact r2
      · rw [r1]; rfl
  have hrel : ∀ (j : Nat) p, (ps.toList.map fun p => (p.1, evF t p.2))[j]? = some p → ∃ v, (ps.map fun (i, x) => (i, a.eval x)).toList[j]? = some (p.1, v) ∧ VR G w E.Ro S p.2 v := by
    intro j p hj
    rw [List.getElem?_map] at hj
    cases hl : ps.toList[j]? with
    | none => simp [hl] at hj
    | some y =>
      simp [hl] at hj
      subst hj
      refine ⟨a.eval y.2, ?_, evF_spec ht y.2⟩
      rw [Array.toList_map, List.getElem?_map, hl]
      rfl
  have hlen : (ps.toList.map fun p => (p.1, evF t p.2)).length = (ps.map fun (i, x) => (i, a.eval x)).toList.length := by simp
  have fin : ∀ (l : List AV) (c : Array Value), (putK t o.dst (.agg l) fun t => k t h) → P.built ty (ps.map fun (i, x) => (i, a.eval x)).toList = some c → CellsR G w E.Ro S l c → QRes P E D o a w k := by
    intro l c hp hb hcr
    refine q_val (v := .agg c) (fun w2 _ => ?_) hg ht hd (x := .agg l) ?_ hp
    · simp [execOp, ho, run_build w2 ty _ c hb]
    · have := VR.agg (G := G) (w := w) (Ro := E.Ro) (S := S) l c.toList (by simpa using hcr.1) (fun v hv => by
        obtain ⟨j, hj, rfl⟩ := List.mem_iff_getElem.1 hv
        have := hcr.2.2 j (by simpa using hj)
        simpa [Array.getD_eq_getD_getElem?, show j < c.size by simpa using hj] using this) (fun j x hj => by
        have := hcr.2.1 j x hj
        simpa [Array.getD_eq_getD_getElem?, List.getD_eq_getElem?_getD] using this)
      simpa using this
  split at hp
  · rename_i fs hk
    rw [hk] at h6
    cases d <;> simp only [KindOk] at h6
    rename_i flds
    obtain ⟨q1, q2⟩ := h6
    have hplaces : flds.toList.mapM (fun f => (P.info? f.type).map fun i => (f.offset, i.size)) = some fs := by
      have : ∀ (fl : List Field) (fs : List (Nat × Nat)), fl.length = fs.length → (∀ (n : Nat) f, fl[n]? = some f → ∃ i, P.info? f.type = some i ∧ fs[n]? = some (f.offset, i.size)) →
          fl.mapM (fun f => (P.info? f.type).map fun i => (f.offset, i.size)) = some fs := by
        intro fl
        induction fl with
        | nil => intro fs h1 _; cases fs with
          | nil => rfl
          | cons _ _ => simp at h1
        | cons f fl ih =>
          intro fs h1 h2
          cases fs with
          | nil => simp at h1
          | cons g fs =>
            obtain ⟨i, r1, r2⟩ := h2 0 f rfl
            simp at r2
            have := ih fs (by simpa using h1) (fun n f hf => by simpa using h2 (n + 1) f (by simpa using hf))
            simp [List.mapM_cons, r1, this, r2]
      exact this _ _ (by simpa using q1) (fun n f hf => q2 n f (by simpa using hf))
    obtain ⟨l, c, k1, k2, k3⟩ := fill_spec (place := fun n => fs.toArray[n]?) (fun n p hnp => by simpa using hnp) _ _ _ _ _ hlen hrel hz hp
    exact fin l c k1 (by rw [Array.toList_map] at k2; simpa [Program.built, h1, h4, h7, hplaces] using k2) k3
  · rename_i n es hk
    rw [hk] at h6
    cases d <;> simp only [KindOk] at h6
    obtain ⟨rfl, ei, q1, q2⟩ := h6
    obtain ⟨l, c, k1, k2, k3⟩ := fill_spec (place := fun n => some (n * ei.size, ei.size)) (fun n p hnp => by rw [q2]; exact hnp) _ _ _ _ _ hlen hrel hz hp
    exact fin l c k1 (by rw [Array.toList_map] at k2; simpa [Program.built, h1, h4, h7, q1] using k2) k3
  · exact hp.elim
end

end Go.Proofs.Ytegcfogbdgmajaa.Ab
