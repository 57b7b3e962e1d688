/- Calls: a body in the memory of its caller; a contract over the roots that are lent, which come back. No condition. -/
import Derived.Test.YtegcfogbdgmajaaAbSound
namespace Go.Proofs.Ytegcfogbdgmajaa.Ab
set_option linter.unusedVariables false
set_option linter.unusedSimpArgs false

/-! ### Results -/

def resL (C : Ctx) (t : TS) : List ResultVar → HP → (List AV → HP → Prop) → Prop
  | [], h, k => k [] h
  | .tmp i :: r, h, k => getK t i fun a => resL C t r h fun l h => k (a :: l) h
  | .cell a ty :: r, h, k => getK t a fun p => loadP C ty p h fun x h => resL C t r h fun l h => k (x :: l) h
def oneK (l : List AV) (k : AV → Prop) : Prop := match l with | [x] => k x | l => k (.tup l)
def retP (C : Ctx) (rs : List ResultVar) (K : AV → HP → Prop) : Post
  | .normal, t, h => resL C t rs h fun l h => oneK l fun x => K x h
  | .ret, t, h => resL C t rs h fun l h => oneK l fun x => K x h
  | _, _, _ => False

section
variable {P : Program} {C : Ctx} {E : Env} {D : List Deferred × Nat} {t : TS} {h : HP} {a : Act} {w : World}

theorem resL_spec (hC : CtxOk P C) (f : ResultVar → Sem Value) (hf : ∀ u, f (.tmp u) = pure (a.tmps.getD u undef)) (hc : ∀ p ty, f (.cell p ty) = (do loadVar ty (← asAddr (a.tmps.getD p undef)))) :
    ∀ (rs : List ResultVar) (h : HP) (G : List Gh) (S : BS) (F : Nat → BS) (k : List AV → HP → Prop), Good E G h w S F → TR G w E.Ro S t a → resL C t rs h k →
    ∃ l h' G' F' us, k l h' ∧ Good E G' h' w S F' ∧ (∀ (i : Nat) (g : Gh), G[i]? = some g → G'[i]? = some g) ∧ (rs.mapM f).run P w = .ok us w ∧ l.length = us.length ∧ ∀ (j : Nat) x, l[j]? = some x → VR G' w E.Ro S x (us.getD j undef)
  | [], h, G, S, F, k, hg, ht, hp => ⟨[], h, G, F, [], hp, hg, fun _ _ h => h, by simp, rfl, by simp⟩
  | .tmp i :: r, h, G, S, F, k, hg, ht, hp => by
    simp only [resL, getK_eq] at hp
    obtain ⟨l, h', G', F', us, h1, h2, h3, h4, h5, h6⟩ := resL_spec hC f hf hc r h G S F _ hg ht hp
    refine ⟨_, h', G', F', a.tmps.getD i undef :: us, h1, h2, h3, by simp [List.mapM_cons, hf, h4], by simp [h5], fun j x hj => ?_⟩
    cases j with
    | zero => simp at hj; subst hj; simpa [List.getD_eq_getElem?_getD] using (ht.2 i).pre h3
    | succ j => simpa using h6 j x (by simpa using hj)
  | .cell p ty :: r, h, G, S, F, k, hg, ht, hp => by
    simp only [resL, getK_eq] at hp
    obtain ⟨y, h1, G1, F1, v, ad, b1, b2, b3, b4, b5, b6⟩ := loadP_spec hC hg (ht.2 p) hp
    obtain ⟨l, h', G', F', us, c1, c2, c3, c4, c5, c6⟩ := resL_spec hC f hf hc r h1 G1 S F1 _ b2 (ht.ext (hg.ext_none (Chg.refl w _) b3)) b1
    refine ⟨_, h', G', F', v :: us, c1, c2, fun i g hi => c3 i g (b3 i g hi), by simp [List.mapM_cons, hc, b4, asAddr, b5 w (Chg.refl w _), c4], by simp [c5], fun j x hj => ?_⟩
    cases j with
    | zero => simp at hj; subst hj; simpa using b6.pre c3
    | succ j => simpa using c6 j x (by simpa using hj)

theorem results_spec (hC : CtxOk P C) {fn : Func} {rs : List ResultVar} (hrs : fn.results.toList = rs) {G : List Gh} {S : BS} {F : Nat → BS} {K : AV → HP → Prop} (hg : Good E G h w S F) (ht : TR G w E.Ro S t a)
    (hp : resL C t rs h fun l h => oneK l fun x => K x h) :
    ∃ x h' G' F' v, K x h' ∧ Good E G' h' w S F' ∧ (∀ (i : Nat) (g : Gh), G[i]? = some g → G'[i]? = some g) ∧ (results fn a.tmps).run P w = .ok v w ∧ VR G' w E.Ro S x v := by
  have hr : fn.results = rs.toArray := by rw [← hrs]
  obtain ⟨l, h', G', F', us, h1, h2, h3, h4, h5, h6⟩ := resL_spec (P := P) hC (fun x => match x with | .tmp t => pure (a.tmps.getD t undef) | .cell p t => do loadVar t (← asAddr (a.tmps.getD p undef))) (fun _ => rfl) (fun _ _ => rfl) rs h G S F _ hg ht hp
  unfold oneK at h1
  have hrun : ∀ v, (if h : us.toArray.size = 1 then us.toArray[0] else .tuple us.toArray) = v → (results fn a.tmps).run P w = .ok v w := by
    intro v hv
    unfold results
    rw [hr, List.mapM_toArray]
    simp only [Sem.run_bind, Sem.run_map]
    erw [h4]
    simp [← hv]
  rcases l with _ | ⟨x, _ | ⟨y, r⟩⟩
  · cases us with
    | nil => exact ⟨.tup [], h', G', F', .tuple #[], h1, h2, h3, hrun _ (by simp), .tup [] [] rfl (by simp)⟩
    | cons u us => simp at h5
  · cases us with
    | nil => simp at h5
    | cons u us =>
      cases us with
      | nil => exact ⟨x, h', G', F', u, h1, h2, h3, hrun u (by simp), by simpa using h6 0 x rfl⟩
      | cons _ _ => simp at h5
  · refine ⟨.tup (x :: y :: r), h', G', F', .tuple us.toArray, h1, h2, h3, hrun _ ?_, .tup _ us h5 h6⟩
    rw [dif_neg]
    intro hs
    simp at h5 hs
    omega
end

/-! ### A body in the memory of its caller -/

def appK : List AV → TS → (TS → Prop) → Prop
  | [], t, k => k t
  | a :: l, t, k => appK l t fun t => k (a :: t)
theorem appK_eq (l : List AV) (t : TS) (k : TS → Prop) : appK l t k = k (l ++ t) := by
  induction l generalizing k with
  | nil => rfl
  | cons a l ih => simp only [appK, List.cons_append]; exact ih _

/-- 'n' temporaries, its results, its body. -/
def inlH (C : Ctx) (n : Nat) (rs : List ResultVar) (c : Code) : Handler := fun args h K =>
  topsK (n - args.length) fun ts => appK args ts fun t => AWP ⟨C.tab, C.call, h.length, fun v h => K (.pan v) h, C.cut⟩ c (retP C rs K) t h

theorem HSound.mono {P : Program} {f : FuncId} {H H' : Handler} (h : HSound P f H) (hh : ∀ args h K, H' args h K → H args h K) : HSound P f H' :=
  fun E G S F hp w args vs K h1 h2 h3 h4 => h E G S F hp w args vs K h1 h2 h3 (hh _ _ _ h4)

theorem tr_args {P : Program} {fn : Func} {G : List Gh} {w : World} {Ro S : BS} {args : List AV} {vs : List Value} (hl : args.length = vs.length) (hv : ∀ (j : Nat) x, args[j]? = some x → VR G w Ro S x (vs.getD j undef)) {n : Nat} (hn : fn.ntmps = n) :
    TR G w Ro S (args ++ List.replicate (n - args.length) .top) { tmps := vs.toArray ++ Array.replicate (fn.ntmps - vs.toArray.size) undef, defers := [] } := by
  refine ⟨by simp [hl, hn], fun i => ?_⟩
  rw [List.getD_eq_getElem?_getD, List.getElem?_append]
  split
  · rename_i hi
    have hiv : i < vs.length := by omega
    have := hv i args[i] (List.getElem?_eq_getElem hi)
    rw [List.getElem?_eq_getElem hi]
    simpa [Array.getD_eq_getD_getElem?, List.getD_eq_getElem?_getD, Array.getElem?_append, hiv] using this
  · rw [List.getElem?_replicate]
    split <;> exact .top _

theorem ctx_of {P : Program} {C : Ctx} (hC : CtxOk P C) (m : Nat) (pan : Value → HP → Prop) : CtxOk P ⟨C.tab, C.call, m, pan, C.cut⟩ := ⟨hC.tab, hC.eqs, hC.zok, hC.call⟩

theorem inlH_sound {P : Program} {C : Ctx} (hC : CtxOk P C) (hm : P.follows .mixedOrders = true) {f : FuncId} {fn : Func} {c : Code} {n : Nat} {rs : List ResultVar} (hf : P.funcs[f]? = some fn) (hb : fn.body = some c) (hn : fn.ntmps = n)
    (hrs : fn.results.toList = rs) : HSound P f (inlH C n rs c) := by
  intro E G S F h w args vs K hg hl hv hp
  unfold inlH at hp
  rw [topsK_eq, appK_eq] at hp
  refine calls_of_wp hf hb ?_
  have g0 : Good ⟨E.w0, E.O, S, E.Ro, w, G⟩ G h w S F :=
    ⟨hg.len, hg.root, hg.dis, hg.out, hg.own, hg.sb, fun _ h => h, fun _ h => .inl h, hg.size, hg.os, hg.tape, hg.output, hg.fr, hg.rok, fun _ _ h => h, fun _ _ => rfl⟩
  have back : ∀ {G' h' w' S' F'}, Good ⟨E.w0, E.O, S, E.Ro, w, G⟩ G' h' w' S' F' → Good E G' h' w' S' F' ∧ Ext E G w S G' w' S' := by
    intro G' h' w' S' F' b
    refine ⟨⟨b.len, b.root, b.dis, b.out, b.own, b.sb, fun k hk => b.s0 k (hg.s0 k hk), fun k hk => (b.sn k hk).elim (fun h => (hg.sn k h).imp id id) .inr, b.size, b.os, b.tape, b.output, b.fr, b.rok, fun r g h => b.gp r g (hg.gp r g h), fun k hk => (b.sf k (hg.s0 k hk)).trans (hg.sf k hk)⟩, ?_⟩
    exact ⟨b.gp, b.s0, b.sf, fun k hk => (b.fr k (b.rok k hk).1 (b.rok k hk).2).trans (hg.fr k (hg.rok k hk).1 (hg.rok k hk).2).symm⟩
  refine awp_sound (E := ⟨E.w0, E.O, S, E.Ro, w, G⟩) (D := ([], (vs.toArray ++ Array.replicate (fn.ntmps - vs.toArray.size) undef).size)) (ctx_of hC _ _) hm (Nat.le_of_eq hg.len) c _ _ h _ w _ hp ⟨G, S, F, g0, tr_args (P := P) hl hv hn, rfl, rfl⟩ ?_ (fun c a x v w h => by cases x <;> exact h) ?_
  · rintro v t' h' a' w' hk ⟨G', S', F', hg', ht', hd'⟩
    obtain ⟨b1, b2⟩ := back hg'
    exact ⟨hd'.1, _, h', G', S', F', hk, b1, b2, .inr ⟨v, rfl, rfl⟩⟩
  · intro e t' h' a' w' hk ⟨G', S', F', hg', ht', hd'⟩
    have fin : (resL C t' rs h' fun l h_1 => oneK l fun x => K x h_1) → ∃ v, (results fn a'.tmps).run P w' = .ok v w' ∧ ∃ x h' G' S' F', K x h' ∧ Good E G' h' w' S' F' ∧ Ext E G w S G' w' S' ∧ ((∃ v', Ending.returned v = .returned v' ∧ VR G' w' E.Ro S' x v') ∨ ∃ v', Ending.returned v = .panicked [{ v := v', recovered := false }] ∧ x = .pan v') := by
      intro hk
      obtain ⟨x, h2, G2, F2, v, b1, b2, b3, b4, b5⟩ := results_spec hC hrs hg' ht' hk
      obtain ⟨c1, c2⟩ := back b2
      exact ⟨v, b4, x, h2, G2, S', F2, b1, c1, c2, .inl ⟨v, rfl, b5⟩⟩
    cases e <;> simp only [retP] at hk
    · obtain ⟨v, q1, q2⟩ := fin hk
      exact ⟨hd'.1, v, q1, q2⟩
    all_goals first
      | exact hk.elim
      | (obtain ⟨v, q1, q2⟩ := fin hk; exact ⟨hd'.1, v, q1, q2⟩)

/-! ### A call by its contract: roots are lent, and come back -/

/-- How an argument is lent: to be read; to be written; a struct, part by part. -/
inductive Md where
  | ro | rw | ag (l : List Md)

def lendWs (ms : List Md) : List AV → List Nat → HP → HP → (List AV → List Nat → HP → HP → Prop) → Prop
  | [], ρ, hs, h, k => k [] ρ hs h
  | x :: l, ρ, hs, h, k => match ms with
    | .rw :: ms => canV1 false x ρ hs h fun y ρ hs h => lendWs ms l ρ hs h fun l ρ hs h => k (y :: l) ρ hs h
    | _ :: ms => lendWs ms l ρ hs h fun l ρ hs h => k (x :: l) ρ hs h
    | [] => lendWs [] l ρ hs h fun l ρ hs h => k (x :: l) ρ hs h
def lendW (md : Md) (x : AV) (ρ : List Nat) (hs h : HP) (k : CK) : Prop := match md, x with
  | .rw, x => canV2 false x ρ hs h k
  | .ag ms, .agg l => lendWs ms l ρ hs h fun l ρ hs h => k (.agg l) ρ hs h
  | _, x => k x ρ hs h
def lendWL (ms : List Md) : List AV → List Nat → HP → HP → (List AV → List Nat → HP → HP → Prop) → Prop
  | [], ρ, hs, h, k => k [] ρ hs h
  | x :: l, ρ, hs, h, k => match ms with
    | m :: ms => lendW m x ρ hs h fun y ρ hs h => lendWL ms l ρ hs h fun l ρ hs h => k (y :: l) ρ hs h
    | [] => lendWL [] l ρ hs h fun l ρ hs h => k (x :: l) ρ hs h

/-- A leaf that is lent to be read; the roots that it is read from. -/
def lendR1 (x : AV) (R : List Nat) (h : HP) (k : AV → List Nat → Prop) : Prop := match x with
  | .slc r o n z => rootK h r fun rt => (match rt with
    | .lst s l => ∃ L, (l.drop o).take n = L ∧ L.length = n ∧ ClosedL L ∧ k (.imm false z s L) (r :: R)
    | _ => False)
  | .bsl r o n => rootK h r fun rt => (match rt with
    | .box cells => cutK cells o n fun cs => (match cs.all AV.shutF with | true => k (.imm false false 1 (cs.map fun c => [c])) (r :: R) | false => False)
    | _ => False)
  | .ptr r 0 0 n => rootK h r fun rt => (match rt with
    | .box cells => (match cells.all AV.shutF with | true => k (.iptr false cells) (r :: R) | false => False)
    | _ => False)
  | x => (match x.pure1 with | true => k x R | false => False)
def lendRs (ms : List Md) (all : Bool) : List AV → List Nat → HP → (List AV → List Nat → Prop) → Prop
  | [], R, h, k => k [] R
  | x :: l, R, h, k => match all, ms with
    | false, .rw :: ms => lendRs ms all l R h fun l R => k (x :: l) R
    | _, ms => lendR1 x R h fun y R => lendRs ms.tail all l R h fun l R => k (y :: l) R
def lendR (md : Md) (x : AV) (R : List Nat) (h : HP) (k : AV → List Nat → Prop) : Prop := match md, x with
  | .rw, x => k x R
  | .ag ms, .agg l => lendRs ms false l R h fun l R => k (.agg l) R
  | .ro, .agg l => lendRs [] true l R h fun l R => k (.agg l) R
  | _, x => lendR1 x R h k
def lendRL (ms : List Md) : List AV → List Nat → HP → (List AV → List Nat → Prop) → Prop
  | [], R, h, k => k [] R
  | x :: l, R, h, k => match ms with
    | m :: ms => lendR m x R h fun y R => lendRL ms l R h fun l R => k (y :: l) R
    | [] => lendR .ro x R h fun y R => lendRL [] l R h fun l R => k (y :: l) R

/-- The lent roots come back; the others are new. -/
def putB : List Nat → HP → HP → (HP → HP → Prop) → Prop
  | [], hs, h, k => k hs h
  | r :: ρ, rt :: hs, h, k => setK h r rt fun h => putB ρ hs h k
  | _ :: _, [], _, _ => False
def newsK : HP → List Nat → HP → (List Nat → HP → Prop) → Prop
  | [], μ, h, k => k μ h
  | rt :: hs, μ, h, k => newK h nums rt fun n h => snocK μ n fun μ => newsK hs μ h k
def getN : List Nat → Nat → (Nat → Prop) → Prop
  | a :: _, 0, k => k a
  | _ :: l, n + 1, k => getN l n k
  | [], _, _ => False
def ren0 (μ : List Nat) (x : AV) (k : AV → Prop) : Prop := match x with
  | .ptr j i o n => getN μ j fun r => k (.ptr r i o n)
  | .aptr j o q => getN μ j fun r => k (.aptr r o q)
  | .slc j o n z => getN μ j fun r => k (.slc r o n z)
  | .bsl j o n => getN μ j fun r => k (.bsl r o n)
  | .mapr j => getN μ j fun r => k (.mapr r)
  | .pan v => k (.pan v)
  | x => (match x.pure1 with | true => k x | false => False)
def ren1 (μ : List Nat) (x : AV) (k : AV → Prop) : Prop := match x with
  | .fn f caps => mapK (ren0 μ) caps fun caps => k (.fn f caps)
  | x => ren0 μ x k
def ren2 (μ : List Nat) (x : AV) (k : AV → Prop) : Prop := match x with
  | .agg l => mapK (ren1 μ) l fun l => k (.agg l)
  | x => ren1 μ x k
def ren3 (μ : List Nat) (x : AV) (k : AV → Prop) : Prop := match x with
  | .tup l => mapK (ren2 μ) l fun l => k (.tup l)
  | x => ren2 μ x k
def giveR (y : AV) (ρ : List Nat) (hs h : HP) (K : AV → HP → Prop) : Prop :=
  putB ρ hs h fun hs h => newsK hs ρ h fun μ h => ren3 μ y fun y => K y h

/-- A contract: what the arguments and the lent roots must be; what comes: the lent roots first. -/
abbrev CH := List AV → HP → (AV → HP → Prop) → Prop
def canRet (st : Bool) (m : Nat) (x : AV) (h : HP) (K : AV → HP → Prop) : Prop := takeN st m nums [] [] h fun ρ hs h => canV3 st x ρ hs h fun y _ hs _ => K y hs
def bodyM (C : Ctx) (st : Bool) (n : Nat) (rs : List ResultVar) (c : Code) : CH := fun args hl K =>
  topsK (n - args.length) fun ts => appK args ts fun t => AWP ⟨C.tab, C.call, hl.length, fun v h => canRet st hl.length (.pan v) h K, C.cut⟩ c (retP C rs fun x h => canRet st hl.length x h K) t hl
def callM (ms : List Md) (st : Bool) (H : CH) : Handler := fun args h K =>
  lendWL ms args [] [] h fun args ρ hs h => lendRL ms args [] h fun args R => match st, R with
    | false, _ :: _ => False
    | _, _ => H args hs fun y hs => giveR y ρ hs h K

end Go.Proofs.Ytegcfogbdgmajaa.Ab
