/- The abstract machine, part 2. No condition. -/
import Derived.Test.YtbfjkjdbdejnmaaGreatPart1
import Derived.Laws.Append
import Derived.Laws.BytesArg
import Derived.Laws.BytesString
import Derived.Lib.ConvBytes
import Derived.MapKept
import Derived.Laws.Panics
set_option linter.unusedVariables false
set_option linter.unusedSimpArgs false
/- Slices and strings: elements copied out, appended, copied in, cleared; stores. Each operation is sound. No condition. -/
namespace Go.Proofs.YtbfjkjdbdejnmaaGreat.Ab
set_option linter.unusedVariables false
set_option linter.unusedSimpArgs false

section
variable {P : Program} {C : Ctx} {E : Env} {D : List Deferred × Nat} {o : Oper} {t : TS} {h : HP} {a : Act} {w : World} {k : TS → HP → Prop} {next : Act → World → Prop} {Q : Exit → Act → World → Prop}

/-! ### A part of a root is written, with what it owns -/

theorem blkR_put {G Ro S} {fl : List AV} {b : Nat} {cs cs' : Array Value} {F Fy : BS} (h : BlkR G w Ro S fl b cs F) {o : Nat} {xs : List AV} {vs : List Value} (hx : CsR G w Ro S xs vs Fy) (hd : ∀ k, F k → ¬ Fy k) (ho : o + xs.length ≤ fl.length)
    (hcs : ∀ j, cs'[j]? = if o ≤ j ∧ j < o + vs.length then vs[j - o]? else cs[j]?) :
    ∃ F', BlkR G w Ro S (lay fl o xs) b cs' F' ∧ ∀ k, F' k → F k ∨ Fy k := by
  obtain ⟨cv, Fc, h1, h2, h3, h4, h5⟩ := h
  obtain ⟨Fx, x1, x2, x3, x4⟩ := hx
  let cv' : Nat → Value := fun j => if o ≤ j ∧ j < o + xs.length then vs.getD (j - o) undef else cv j
  let Fc' : Nat → BS := fun j => if o ≤ j ∧ j < o + xs.length then Fx (j - o) else Fc j
  have hin : ∀ j k, j < fl.length → Fc' j k → (o ≤ j ∧ j < o + xs.length ∧ Fx (j - o) k ∧ Fy k) ∨ (¬ (o ≤ j ∧ j < o + xs.length) ∧ Fc j k ∧ F k) := by
    intro j k hj hk
    simp only [Fc'] at hk
    split at hk
    · rename_i hc
      exact .inl ⟨hc.1, hc.2, hk, (x4 k).2 ⟨_, by omega, hk⟩⟩
    · rename_i hc
      exact .inr ⟨hc, hk, (h5 k).2 (.inr ⟨j, hj, hk⟩)⟩
  refine ⟨fun k => k = b ∨ ∃ j, j < (lay fl o xs).length ∧ Fc' j k, ⟨cv', Fc', ?_, ?_, ?_, ?_, fun _ => Iff.rfl⟩, ?_⟩
  · intro j hj
    rw [lay_length ho] at hj
    rw [hcs]
    by_cases hc : o ≤ j ∧ j < o + xs.length
    · simp only [cv', if_pos hc]
      rw [if_pos (by omega)]
      simp [show j - o < vs.length by omega]
    · simp only [cv', if_neg hc]
      rw [if_neg (by omega)]
      exact h1 j hj
  · intro j a hj
    rw [lay_get ho] at hj
    by_cases hc : o ≤ j ∧ j < o + xs.length
    · simp only [cv', Fc', if_pos hc] at hj ⊢
      exact x2 _ a hj
    · simp only [cv', Fc', if_neg hc] at hj ⊢
      exact h2 j a hj
  · intro j j' k hj hj' hk hk'
    rw [lay_length ho] at hj hj'
    rcases hin j k hj hk with ⟨a1, a2, a3, a4⟩ | ⟨a1, a2, a3⟩ <;> rcases hin j' k hj' hk' with ⟨b1, b2, b3, b4⟩ | ⟨b1, b2, b3⟩
    · have := x3 _ _ k (by omega) (by omega) a3 b3
      omega
    · exact absurd a4 (hd k b3)
    · exact absurd b4 (hd k a3)
    · exact h3 j j' k hj hj' a2 b2
  · intro j k hj hk hkb
    rw [lay_length ho] at hj
    rcases hin j k hj hk with ⟨a1, a2, a3, a4⟩ | ⟨a1, a2, a3⟩
    · exact hd k ((h5 k).2 (.inl hkb)) a4
    · exact h4 j k hj a2 hkb
  · rintro k (rfl | ⟨j, hj, hk⟩)
    · exact .inl ((h5 _).2 (.inl rfl))
    · rw [lay_length ho] at hj
      rcases hin j k hj hk with ⟨a1, a2, a3, a4⟩ | ⟨a1, a2, a3⟩
      · exact .inr a4
      · exact .inl a3

/-- Cells of a block, spliced. -/
def spl (ca : Array Value) (off : Nat) (vs : List Value) : Array Value := (ca.toList.take off ++ vs ++ ca.toList.drop (off + vs.length)).toArray
theorem spl_get {ca : Array Value} {off : Nat} {vs : List Value} (h2 : off + vs.length ≤ ca.size) (j : Nat) : (spl ca off vs)[j]? = if off ≤ j ∧ j < off + vs.length then vs[j - off]? else ca[j]? := by
  unfold spl
  simp only [List.getElem?_toArray, List.append_assoc]
  rw [List.getElem?_append]
  simp only [List.length_take, Array.length_toList, Nat.min_eq_left (show off ≤ ca.size by omega)]
  by_cases c1 : j < off
  · rw [if_pos c1, if_neg (by omega), List.getElem?_take, if_pos c1, Array.getElem?_toList]
  · rw [if_neg c1, List.getElem?_append]
    by_cases c2 : j - off < vs.length
    · rw [if_pos c2, if_pos (by omega)]
    · rw [if_neg c2, if_neg (by omega), List.getElem?_drop, Array.getElem?_toList]
      congr 1; omega
theorem spl_size {ca : Array Value} {off : Nat} {vs : List Value} (h2 : off + vs.length ≤ ca.size) : (spl ca off vs).size = ca.size := by
  unfold spl
  simp; omega

theorem write_core {G S F Fy} (hg : Good E G h w S F) {r : Nat} {rt rt' : Root} {g : Gh} {fl cs : List AV} {vs : List Value} {off : Nat} (hr : h[r]? = some rt) (hgr : G[r]? = some g)
    (hf : Flat rt fl) (hcs : off + cs.length ≤ fl.length) (hpos : 0 < fl.length) (hk : SameK rt rt') (hf' : Flat rt' (lay fl off cs)) (h0 : CsR G w E.Ro S cs vs Fy) (ha : Apart E w S F Fy) :
    ∃ F' b ca T, g.ob = some b ∧ w.heap[b]? = some (.cells ca T (0, 0)) ∧ fl.length ≤ ca.size ∧ Good E G (h.set r rt') (w.setRow b (spl ca off vs)) S F' ∧ Ext E G w S G (w.setRow b (spl ca off vs)) S := by
  have hrl := (List.getElem?_eq_some_iff.1 hr).1
  have hlen : cs.length = vs.length := h0.choose_spec.1
  obtain ⟨b, ca, T, q1, q2, q3, q4⟩ := rootR_blk (hg.root r rt g hr hgr) hf hpos
  have hFb : F r b := by obtain ⟨_, _, _, _, _, _, h5⟩ := q4; exact (h5 b).2 (.inl rfl)
  have hchg := Chg.setRow w b (spl ca off vs) (F r) hFb
  have he := hg.ext_chg hchg (G' := G) (fun _ _ h => h)
  obtain ⟨F', hF', hsub⟩ := blkR_put q4 (cs' := spl ca off vs) h0 (ha.2 r) hcs (spl_get (by omega))
  have hheap : (w.setRow b (spl ca off vs)).heap[b]? = some (.cells (spl ca off vs) T (0, 0)) := setRow_heap w b ca _ T (0, 0) q2
  have hrt := rootR_of_blk (hg.root r rt g hr hgr) hf hpos q1 q2 (G' := G) (w' := w.setRow b (spl ca off vs)) (F' := F') hk hf' (lay_length hcs) hheap (spl_size (by omega))
    (hF'.ext he (fun k hk hkb => setRow_other w b k _ hkb))
  refine ⟨_, b, ca, T, q1, q2, q3, hg.setRoot' hrl hgr hchg hrt (fun i k hi hk hf => ?_) (fun k hk => ?_), he⟩
  · rcases hsub k hf with h | h
    · exact hi (hg.dis i r k hk h)
    · exact ha.2 i k hk h
  · have hsz : (w.setRow b (spl ca off vs)).heap.size = w.heap.size := by simp
    rw [hsz]
    rcases hsub k hk with h | h
    · exact hg.own r k h
    · exact ha.1 k h

theorem lst_lay {s : Nat} {l : List (List AV)} {e f : Nat} {el cs : List AV} (hl : ∀ x ∈ l, x.length = s) (hel : l[e]? = some el) (hc : f + cs.length ≤ el.length) :
    Flat (.lst s (l.set e (lay el f cs))) (lay l.flatten (e * s + f) cs) ∧ e * s + f + cs.length ≤ l.flatten.length := by
  have hells : el.length = s := hl el (List.mem_of_getElem? hel)
  have hlay : (lay el f cs).length = s := by rw [lay_length (by omega), hells]
  obtain ⟨f1, f2, f3⟩ := flat_set s l hl e el hel (lay el f cs) hlay
  have hset : ∀ q ∈ l.set e (lay el f cs), q.length = s := by
    intro q hq
    rcases List.mem_or_eq_of_mem_set hq with hq | rfl
    · exact hl q hq
    · exact hlay
  have hfit : e * s + f + cs.length ≤ l.flatten.length := by
    rw [f1]; simp only [List.length_append, f3]; omega
  refine ⟨⟨?_, hset⟩, hfit⟩
  rw [f2]
  unfold lay
  have t1 : l.flatten.take (e * s + f) = (l.take e).flatten ++ el.take f := by
    rw [f1, List.append_assoc, List.take_append, f3, List.take_of_length_le (by omega), show e * s + f - e * s = f by omega, List.take_append_of_le_length (by omega)]
  have t2 : l.flatten.drop (e * s + f + cs.length) = el.drop (f + cs.length) ++ (l.drop (e + 1)).flatten := by
    rw [f1, List.append_assoc, List.drop_append, f3, List.drop_of_length_le (by omega), show e * s + f + cs.length - e * s = f + cs.length by omega, List.drop_append_of_le_length (by omega)]
    simp
  rw [t1, t2]
  simp [List.append_assoc]

theorem run_storeVar' {ty : TypeId} {i : TI} (hi : TIok P ty i) {b o : Nat} {cs : Array Value} {T} (hb : w.heap[b]? = some (.cells cs T (0, 0))) {v : Value} {vs : List Value} (hv : v.cells = vs.toArray) (hl : vs.length = i.size)
    (ho : o + i.size ≤ cs.size) (h1 : ∀ x ∈ vs, x.oneCell' = true) : (storeVar ty ⟨b, o, none⟩ v).run P w = .ok () (w.setRow b (spl cs o vs)) := run_storeVar hi hb hv hl ho h1

theorem apart0 {S : BS} {F : Nat → BS} : Apart E w S F (fun _ => False) := ⟨fun _ h => h.elim, fun _ _ _ h => h⟩

theorem s_store {ty : TypeId} {p x : Operand} (hC : CtxOk P C) (ho : o.op = .store ty p x) : OpS P C o := by
  intro E D t h a w k next Q hp ⟨G, S, F, hg, ht, hd⟩ hpan hc
  unfold opP at hp
  simp only [ho, evK_eq] at hp
  obtain ⟨i, hi, hp⟩ := on_spec hp
  have hti := hC.tab _ _ hi
  have hsz : 0 < i.size := by obtain ⟨_, _, _, _, _, _, _, _, _, _, _, _, _, h⟩ := hti.all; exact h
  obtain ⟨cs, vs, hp, c1, c2, c3, c4, c5⟩ := cells_spec (evF_spec ht x) hp
  have hv := evF_spec ht p
  split at hp
  · rename_i r e f kk hb
    rw [hb] at hv
    obtain ⟨b, g, p1, p2, p3⟩ := hv.ptr_inv
    obtain ⟨root, hr, hp⟩ := rootK_spec hp
    split at hp
    · rename_i cells _
      obtain ⟨c6, hp⟩ := layK_spec _ _ _ _ hp
      rw [setK_eq] at hp
      obtain ⟨F', b', ca, T, q1, q2, q3, a1, a2⟩ := write_core hg (rt' := .box (lay cells f cs)) hr p1 (show Flat (.box cells) cells from rfl) c6 (by omega) trivial rfl (CsR.of0 c3 c4) apart0
      rw [p2] at q1; cases q1
      refine wp_skp (w' := w.setRow b (spl ca f vs)) ?_ (rel_put a1 (ht.ext a2) hd (.top _) hp hc)
      rw [Nat.zero_mul, Nat.zero_add] at p3
      have hrun := run_storeVar' (P := P) (o := f) hti q2 c1 c2 (by omega) c5
      simp [execOp, ho, p3, Instr.storeAt, Instr.sureAddr, hrun]
    · obtain ⟨cs', h', S', F', Fy, hp, hstp, hcr, hap, _⟩ := foldCs_spec cs vs hg c3 c4 hp
      obtain ⟨root, hr', hp⟩ := rootK_spec hp
      split at hp
      · rename_i s l
        obtain ⟨el, hel, hfs, hp⟩ := hp
        have hg' := hstp.good
        have hse : g.s = s ∧ ∀ e ∈ l, e.length = s := ⟨(hg'.root r _ g hr' p1).1, (hg'.root r _ g hr' p1).2.1⟩
        obtain ⟨c6, hp⟩ := layK_spec _ _ _ _ hp
        rw [setK_eq] at hp
        have hlen : cs'.length = vs.length := hcr.choose_spec.1
        obtain ⟨l1, l2⟩ := lst_lay hse.2 hel c6
        obtain ⟨F'', b', ca, T, q1, q2, q3, a1, a2⟩ := write_core hg' (rt' := .lst s (l.set e (lay el f cs'))) hr' p1 (show Flat (.lst s l) l.flatten from ⟨rfl, hse.2⟩) l2 (by omega) rfl l1 hcr hap
        rw [p2] at q1; cases q1
        rw [hse.1] at p3
        have hrun := run_storeVar' (P := P) (o := e * s + f) hti q2 c1 c2 (by omega) c5
        refine wp_skp (w' := w.setRow b (spl ca (e * s + f) vs)) ?_ (rel_put a1 ((ht.ext hstp.ext).ext a2) hd (.top _) hp hc)
        simp [execOp, ho, p3, Instr.storeAt, Instr.sureAddr, hrun]
      · exact hp.elim
    · exact hp.elim
  · rename_i r f j hb
    rw [hb] at hv
    obtain ⟨b, g, p1, p2, p3⟩ := hv.aptr_inv
    obtain ⟨root, hr, hp⟩ := rootK_spec hp
    split at hp
    · rename_i cells x1 hx1
      obtain ⟨hlt, cells', hset, hp⟩ := hp
      rw [setK_eq] at hp
      have hlay : lay cells (j + f) [x1] = cells' := by
        rw [← hset]
        unfold lay
        rw [List.set_eq_take_append_cons_drop, if_pos hlt]
        simp
      obtain ⟨F', b', ca, T, q1, q2, q3, a1, a2⟩ := write_core hg (rt' := .box cells') hr p1 (show Flat (.box cells) cells from rfl) (off := j + f) (cs := [x1]) (by simp only [List.length_cons, List.length_nil]; omega) (by omega) trivial hlay (CsR.of0 c3 c4) apart0
      rw [p2] at q1; cases q1
      have hlen : vs.length = 1 := by simpa using c3.symm
      have hrun := run_storeVar' (P := P) (o := j + f) hti q2 c1 c2 (by omega) c5
      refine wp_skp (w' := w.setRow b (spl ca (j + f) vs)) ?_ (rel_put a1 (ht.ext a2) hd (.top _) hp hc)
      simp [execOp, ho, p3, Instr.storeAt, Instr.sureAddr, hrun]
    · exact hp.elim
  · exact hp.elim

/-! ### Elements copied out -/

theorem run_firstCells_blk {b off n c m es : Nat} {cs : Array Value} {T fz} (hb : w.heap[b]? = some (.cells cs T fz)) (hfit : off + m * es ≤ cs.size) :
    (Builtin.firstCells es m (.slice (some ⟨b, off, none⟩) n c)).run P w = .ok (segV cs off (m * es)).toArray w := by
  simp only [Builtin.firstCells]
  rw [run_loadCells (P := P) w ⟨b, off, none⟩ (m * es) (fun j => cs.getD (off + j) undef) (fun j hj => by
    rw [add_off]
    simp [World.cell?, hb, show off + j < cs.size by omega])]
  rfl
theorem run_firstCells0 {es : Nat} {a : Option Addr} {n c : Nat} : (Builtin.firstCells es 0 (.slice a n c)).run P w = .ok #[] w := by
  cases a with
  | none => simp [Builtin.firstCells]
  | some a =>
    simp only [Builtin.firstCells, Nat.zero_mul]
    rw [run_loadCells (P := P) w a 0 (fun _ => undef) (fun j hj => by omega)]
    rfl
theorem segV_take {cs : Array Value} {o n m : Nat} (h : m ≤ n) : (segV cs o n).take m = segV cs o m := by
  rw [segV, segV, ← List.map_take, List.take_range, Nat.min_eq_left h]

/-- The source of elements. -/
structure SrcR (P : Program) (G : List Gh) (w : World) (Ro S : BS) (es : Nat) (L : List (List AV)) (v : Value) (vs : List Value) (Fy : BS) : Prop where
  el : ∀ e ∈ L, e.length = es
  len : vs.length = L.length * es
  cells : CsR G w Ro S L.flatten vs Fy
  num : ∀ w2, Chg w w2 (fun _ => False) → (Builtin.lenOf v).run P w2 = .ok L.length w2
  get : ∀ w2, Chg w w2 (fun _ => False) → ∀ m, m ≤ L.length → (Builtin.firstCells es m v).run P w2 = .ok (vs.take (m * es)).toArray w2

theorem srcR_nil {G Ro S} {es : Nat} {a : Option Addr} {c : Nat} : SrcR P G w Ro S es [] (.slice a 0 c) [] (fun _ => False) :=
  ⟨by simp, by simp, by simpa using CsR.nil, fun w2 _ => by simp [Builtin.lenOf], fun w2 _ m hm => by
    have : m = 0 := by simpa using hm
    subst this
    simpa using run_firstCells0⟩

theorem srcK_spec {G S F} (hg : Good E G h w S F) {es : Nat} {x : AV} {v : Value} {k : List (List AV) → Prop} (hes : 0 < es) (hv : VR G w E.Ro S x v) (hp : srcK es x h k) :
    ∃ L vs, k L ∧ SrcR P G w E.Ro S es L v vs (fun _ => False) := by
  unfold srcK at hp
  split at hp
  · have := hv.nils_inv
    subst this
    exact ⟨[], [], hp, srcR_nil⟩
  · rename_i b z s L
    split at hp
    · rename_i hs
      have hs : s = es := by simpa using hs
      subst hs
      obtain ⟨hsl, hk⟩ := hp
      obtain ⟨ad, c, p1, p2, p3⟩ := hv.imm_inv
      subst p1
      generalize hn : L.length = n at p3
      cases p3 with
      | sl0 => exact ⟨[], [], hk, srcR_nil⟩
      | sl _ _ _ bb off _ cs T fz cv q1 q2 q3 q0 q4 q5 =>
        clear hn
        have hfl := flat_length _ _ q3
        have hval : ∀ j, j < L.flatten.length → cs.getD (off + j) undef = cv j := fun j hj => by rw [Array.getD_eq_getD_getElem?, q4 j hj]; rfl
        by_cases h0 : L = []
        · subst h0
          exact ⟨[], [], hk, srcR_nil⟩
        have hsize : off + L.length * s ≤ cs.size := by
          have hl0 : 0 < L.length := List.length_pos_iff.2 h0
          have hpos : 0 < L.length * s := Nat.mul_pos hl0 hes
          have := (Array.getElem?_eq_some_iff.1 (q4 (L.length * s - 1) (by omega))).1
          omega
        refine ⟨L, segV cs off (L.length * s), hk, q3, segV_length _ _ _, ?_, fun w2 _ => by simp [Builtin.lenOf], fun w2 hw m hm => ?_⟩
        · refine CsR.of0 (by rw [segV_length, hfl]) (fun j y hj => ?_)
          have hjl := (List.getElem?_eq_some_iff.1 hj).1
          rw [segV_getD _ _ _ _ (by omega), hval j hjl]
          obtain ⟨e, he, hy⟩ := List.mem_flatten.1 (List.mem_of_getElem? hj)
          exact .inl ⟨hsl e he y hy, .ir _ _ (hsl e he y hy) ((q5 j y hj).weak.ext (fun _ h => h) (fun _ _ => rfl) |> fun h => by cases b <;> exact h), (q5 j y hj).one⟩
        · have hle : m * s ≤ L.length * s := Nat.mul_le_mul_right _ hm
          rw [segV_take hle]
          exact run_firstCells_blk (by rw [hw.heap _ (Array.getElem?_eq_some_iff.1 q2).1 (fun h => h)]; exact q2) (by omega)
    · exact hp.elim
  · rename_i r o n z
    obtain ⟨rt, hr, hp2⟩ := rootK_spec hp
    clear hp
    cases rt with
    | lst s l =>
      simp only at hp2
      split at hp2
      · rename_i hs
        have hs : s = es := by simpa using hs
        subst hs
        obtain ⟨L, hL, hLn, hsl, hk⟩ := hp2
        obtain ⟨g, ad, c, p1, p2, p3, p4, p5⟩ := hv.slc_inv
        subst p2
        obtain ⟨q1, q2, q3⟩ := hg.root r _ g hr p1
        by_cases h0 : n = 0
        · subst h0
          have : L = [] := by simpa using hLn
          subst this
          exact ⟨[], [], hk, srcR_nil⟩
        rcases p5 with p5 | ⟨b, p5, p6, p7⟩
        · omega
        subst p6
        rcases q3 with ⟨q3, _⟩ | ⟨b', cs, T, u1, u2, u3, u4, u5⟩
        · rw [q3] at p5; cases p5
        rw [p5] at u1; cases u1
        obtain ⟨cv, Fc, w1, w2', _⟩ := u5
        have hmem : ∀ e ∈ L, e ∈ l := fun e he => by rw [← hL] at he; exact List.mem_of_mem_drop (List.mem_of_mem_take he)
        have hlen : ∀ e ∈ L, e.length = s := fun e he => q2 e (hmem e he)
        have hfl := flat_length _ _ hlen
        have hfll := flat_length _ _ q2
        have hon : o + n ≤ l.length := by
          have := congrArg List.length hL
          rw [hLn] at this
          simp only [List.length_take, List.length_drop] at this
          omega
        have hmul : o * s + n * s ≤ l.flatten.length := by rw [hfll, ← Nat.add_mul]; exact Nat.mul_le_mul_right _ hon
        have hget : ∀ j, j < n * s → L.flatten[j]? = l.flatten[o * s + j]? := by
          intro j hj
          have hdiv : j / s < n := by rw [Nat.div_lt_iff_lt_mul hes]; exact hj
          have hmod := Nat.mod_lt j hes
          have e1 : L[j / s]? = l[o + j / s]? := by rw [← hL, List.getElem?_take, if_pos hdiv, List.getElem?_drop]
          have e2 : l[o + j / s]? = some l[o + j / s] := List.getElem?_eq_getElem (by omega)
          have f1 := flat_get _ _ hlen _ _ (e1.trans e2) _ hmod
          have f2 := flat_get _ _ q2 _ _ e2 _ hmod
          rw [Nat.div_add_mod'] at f1
          rw [f1, ← f2]
          congr 1
          rw [Nat.add_mul, Nat.add_assoc, Nat.div_add_mod']
        have hval : ∀ j, j < n * s → cs.getD (o * s + j) undef = cv (o * s + j) := fun j hj => by rw [Array.getD_eq_getD_getElem?, w1 _ (by omega)]; rfl
        refine ⟨L, segV cs (o * s) (n * s), hk, hlen, by rw [segV_length, hLn], CsR.of0 (by rw [segV_length, hfl, hLn]) (fun j y hj => ?_), fun w2 _ => by simp [Builtin.lenOf, hLn], fun w2 hw m hm => ?_⟩
        · have hjl := (List.getElem?_eq_some_iff.1 hj).1
          rw [hfl, hLn] at hjl
          rw [segV_getD _ _ _ _ hjl, hval j hjl]
          obtain ⟨e, he, hy⟩ := List.mem_flatten.1 (List.mem_of_getElem? hj)
          rw [hget j hjl] at hj
          have := (w2' _ y hj).vr (hsl e he y hy)
          exact .inl ⟨hsl e he y hy, this.1, this.2.1⟩
        · have hle : m * s ≤ n * s := Nat.mul_le_mul_right _ (by omega)
          rw [segV_take hle, q1]
          exact run_firstCells_blk (by rw [hw.heap _ (Array.getElem?_eq_some_iff.1 u2).1 (fun h => h)]; exact u2) (by omega)
      · exact hp2.elim
    | _ => exact hp2.elim
  · rename_i r o n
    obtain ⟨rt, hr, hp2⟩ := rootK_spec hp
    clear hp
    split at hp2
    · rename_i cells
      obtain ⟨hle, hp⟩ := cutK_spec _ _ _ _ hp2
      clear hp2
      split at hp
      · exact hp.elim
      · rename_i hsl
        obtain ⟨b, g, c, p1, p2, p3, p4⟩ := hv.bsl_inv
        subst p4
        obtain ⟨b', cs, T, u1, u2, u3, cv, Fc, w1, w2', _⟩ := hg.root r _ g hr p1
        rw [p2] at u1; cases u1
        have hnl : ((cells.drop o).take n).length = n := by simp; omega
        have hflat : (((cells.drop o).take n).map fun c => [c]).flatten = (cells.drop o).take n := by
          generalize (cells.drop o).take n = q
          induction q with
          | nil => rfl
          | cons a q ih => simp [ih]
        have hsl' : ∀ x ∈ (cells.drop o).take n, x.isSl = false := by
          intro x hx
          have := hsl
          rw [List.any_eq_false] at this
          simpa using this x hx
        have hval : ∀ j, j < n → cs.getD (o + j) undef = cv (o + j) := fun j hj => by rw [Array.getD_eq_getD_getElem?, w1 _ (by omega)]; rfl
        refine ⟨_, segV cs o n, hp, fun e he => by obtain ⟨c, _, rfl⟩ := List.mem_map.1 he; rfl, by simp [segV_length, hnl]; omega, CsR.of0 (by rw [segV_length, hflat, hnl]) (fun j y hj => ?_), fun w2 _ => by simp [Builtin.lenOf]; omega, fun w2 hw m hm => ?_⟩
        · rw [hflat] at hj
          have hm := hsl' y (List.mem_of_getElem? hj)
          have hjl := (List.getElem?_eq_some_iff.1 hj).1
          rw [hnl] at hjl
          rw [segV_getD _ _ _ _ hjl, hval j hjl]
          rw [List.getElem?_take, if_pos hjl, List.getElem?_drop] at hj
          have := (w2' _ y hj).vr hm
          exact .inl ⟨hm, this.1, this.2.1⟩
        · simp only [List.length_map, hnl] at hm
          rw [segV_take (by omega)]
          exact run_firstCells_blk (by rw [hw.heap _ (Array.getElem?_eq_some_iff.1 u2).1 (fun h => h)]; exact u2) (by omega)
    · exact hp2.elim
  · rename_i s
    have := hv.v_inv.1
    subst this
    split at hp
    · have hl : (strB s).flatten = s.data.toList.map fun b => AV.v (.int .u8 b.toNat) := by
        unfold strB byteC
        generalize s.data.toList = q
        induction q with
        | nil => rfl
        | cons a q ih => simp only [List.map_cons, List.flatten_cons, ih]; rfl
      have hsz : s.size = s.data.toList.length := by rw [Array.length_toList]; rfl
      refine ⟨strB s, s.data.toList.map fun b => Value.int .u8 b.toNat, hp, by simp [strB, byteC], by rw [Nat.mul_one, strB, List.length_map, List.length_map], CsR.of0 (by rw [hl, List.length_map, List.length_map]) (fun j y hj => ?_), fun w2 _ => by simp only [Builtin.lenOf]; rw [strB, List.length_map, ← hsz]; rfl, fun w2 _ m hm => ?_⟩
      · rw [hl, List.getElem?_map] at hj
        rw [List.getD_eq_getElem?_getD, List.getElem?_map]
        cases hq : s.data.toList[j]? with
        | none => simp [hq] at hj
        | some b => simp [hq] at hj; subst hj; exact .inl ⟨rfl, vr_int _ _ _ _ _ _, rfl⟩
      · simp only [Builtin.firstCells, Sem.run_pure, Nat.mul_one]
        congr 1
        apply Array.ext'
        simp [ByteArray.data_extract, List.map_take]
    · exact hp.elim
  · exact hp.elim
end

end Go.Proofs.YtbfjkjdbdejnmaaGreat.Ab

/- Append, copy, clear: each is sound. No condition. -/
namespace Go.Proofs.YtbfjkjdbdejnmaaGreat.Ab
set_option linter.unusedVariables false
set_option linter.unusedSimpArgs false

section
variable {P : Program} {C : Ctx} {E : Env} {D : List Deferred × Nat} {o : Oper} {t : TS} {h : HP} {a : Act} {w : World} {k : TS → HP → Prop} {next : Act → World → Prop} {Q : Exit → Act → World → Prop}

theorem SrcR.ext {G S S' es L v vs Fy} (h : SrcR P G w E.Ro S es L v vs Fy) (e : Ext E G w S G w S') : SrcR P G w E.Ro S' es L v vs Fy := ⟨h.el, h.len, h.cells.ext e (fun _ _ => rfl), h.num, h.get⟩

theorem movK_spec {G S F} (hg : Good E G h w S F) {ei : TI} {es : Nat} {x : AV} {v : Value} {k : List (List AV) → HP → Prop} (hes : 0 < es) (hv : VR G w E.Ro S x v) (hp : movK ei es x h k) :
    ∃ L h' F' vs Fy, k L h' ∧ Stp E G w h S F h' S F' ∧ SrcR P G w E.Ro S es L v vs Fy ∧ Apart E w S F' Fy := by
  unfold movK at hp
  split at hp
  · obtain ⟨L, vs, h1, h2⟩ := srcK_spec (P := P) hg hes hv hp
    exact ⟨L, h, F, vs, _, h1, .refl hg, h2, apart0⟩
  · split at hp
    · have := hv.nils_inv
      subst this
      exact ⟨[], h, F, [], _, hp, .refl hg, srcR_nil, apart0⟩
    · rename_i r n z
      obtain ⟨rt, hr, hp2⟩ := rootK_spec hp
      clear hp
      cases rt with
      | lst s l =>
        simp only at hp2
        split at hp2
        · rename_i hs
          have hs : s = es := by simpa using hs
          subst hs
          obtain ⟨hn, hp3⟩ := hp2
          rw [setK_eq] at hp3
          obtain ⟨g, hgr, hroot, hstp, hap⟩ := hg.kill hr
          obtain ⟨g', ad, c, p1, p2, p3, p4, p5⟩ := hv.slc_inv
          rw [hgr] at p1; cases p1
          subst p2
          obtain ⟨q1, q2, q3⟩ := hroot
          by_cases h0 : n = 0
          · subst h0
            have : l = [] := by simpa using hn
            subst this
            exact ⟨[], _, _, [], _, hp3, hstp, srcR_nil, apart0⟩
          rcases p5 with p5 | ⟨b, p5, p6, p7⟩
          · omega
          subst p6
          rcases q3 with ⟨q3, _⟩ | ⟨b', cs, T, u1, u2, u3, u4, u5⟩
          · rw [q3] at p5; cases p5
          rw [p5] at u1; cases u1
          obtain ⟨Fy, c1, c2, c3⟩ := blk_csR u5
          have hfl := flat_length _ _ q2
          refine ⟨l, _, _, _, Fy, hp3, hstp, ⟨q2, by rw [segV_length, hfl], c1, fun w2 _ => by simp [Builtin.lenOf, hn], fun w2 hw m hm => ?_⟩, fun k hk => hap.1 k ((c2 k).2 (.inr hk)), fun i k hi hk => hap.2 i k hi ((c2 k).2 (.inr hk))⟩
          have hle : m * s ≤ l.flatten.length := by rw [hfl]; exact Nat.mul_le_mul_right _ hm
          rw [segV_take hle, Nat.zero_mul]
          exact run_firstCells_blk (by rw [hw.heap _ (Array.getElem?_eq_some_iff.1 u2).1 (fun h => h)]; exact u2) (by omega)
        · exact hp2.elim
      | _ => exact hp2.elim
    · exact hp.elim

/-- What is appended to: nothing with no room, or a block. -/
def BaseR (G : List Gh) (w : World) (Ro S : BS) (es : Nat) (l : List (List AV)) (v : Value) (Fb : BS) : Prop :=
  (∀ e ∈ l, e.length = es) ∧ ((∃ ad, v = .slice ad 0 0 ∧ l = []) ∨ ∃ b c cs T, v = .slice (some ⟨b, 0, none⟩) l.length c ∧ w.heap[b]? = some (.cells cs T (0, 0)) ∧ l.length ≤ c ∧ c * es ≤ cs.size ∧ BlkR G w Ro S l.flatten b cs Fb)

theorem baseK_spec {G S F} (hg : Good E G h w S F) {es : Nat} {x : AV} {v : Value} {k : List (List AV) → HP → Prop} (hv : VR G w E.Ro S x v) (hp : baseK es x h k) :
    ∃ L h' F' Fb, k L h' ∧ Stp E G w h S F h' S F' ∧ BaseR G w E.Ro S es L v Fb ∧ Apart E w S F' Fb ∧ ∀ k, Fb k → ∃ r, F r k := by
  unfold baseK at hp
  split at hp
  · exact ⟨[], h, F, fun _ => False, hp, .refl hg, ⟨by simp, .inl ⟨none, hv.nils_inv, rfl⟩⟩, apart0, fun _ h => h.elim⟩
  · obtain ⟨ad, c, p1, p2, p3⟩ := hv.imm_inv
    have := p2 rfl
    simp at this
    subst this
    exact ⟨[], h, F, fun _ => False, hp, .refl hg, ⟨by simp, .inl ⟨ad, p1, rfl⟩⟩, apart0, fun _ h => h.elim⟩
  · rename_i r n z
    obtain ⟨rt, hr, hp2⟩ := rootK_spec hp
    clear hp
    cases rt with
    | lst s l =>
      simp only at hp2
      split at hp2
      · rename_i hs
        have hs : s = es := by simpa using hs
        subst hs
        obtain ⟨hn, hp3⟩ := hp2
        rw [setK_eq] at hp3
        obtain ⟨g, hgr, hroot, hstp, hap⟩ := hg.kill hr
        obtain ⟨g', ad, c, p1, p2, p3, p4, p5⟩ := hv.slc_inv
        rw [hgr] at p1; cases p1
        subst p2
        obtain ⟨q1, q2, q3⟩ := hroot
        rcases p5 with p5 | ⟨b, p5, p6, p7⟩
        · subst p5
          have : n = 0 := by omega
          subst this
          have : l = [] := by simpa using hn
          subst this
          exact ⟨[], _, _, fun _ => False, hp3, hstp, ⟨by simp, .inl ⟨ad, rfl, rfl⟩⟩, apart0, fun _ h => h.elim⟩
        subst p6
        rcases q3 with ⟨q3, _⟩ | ⟨b', cs, T, u1, u2, u3, u4, u5⟩
        · rw [q3] at p5; cases p5
        rw [p5] at u1; cases u1
        refine ⟨l, _, _, F r, hp3, hstp, ⟨q2, .inr ⟨b, c, cs, T, by rw [Nat.zero_mul, hn], u2, by omega, ?_, u5⟩⟩, hap, fun k hk => ⟨r, hk⟩⟩
        rw [← q1, u3]; simpa using p7
      · exact hp2.elim
    | _ => exact hp2.elim
  · exact hp.elim

/-! ### Append -/

variable {T T' ty e : TypeId} {i : TypeInfo} {z : Value} {d' : TypeDesc}

theorem run_append_some {b off sLen sCap n : Nat} {x : Value} {news : List Value} {cs : Array Value} {Tb : TypeId} (ht : P.underlying T = some (.slice e)) (ht' : P.underlying T' = some d') (hd : ∀ k, d' ≠ .int k) (hi : P.info? e = some i)
    (hn : (Builtin.lenOf x).run P w = .ok n w) (hf : (Builtin.firstCells i.size n x).run P w = .ok news.toArray w) (hroom : sLen + n ≤ sCap) (hb : w.heap[b]? = some (.cells cs Tb (0, 0))) (hfit : off + sLen * i.size + news.length ≤ cs.size)
    (h1 : ∀ u ∈ news, u.oneCell' = true) : (Builtin.append_ #[T, T'] ty #[.slice (some ⟨b, off, none⟩) sLen sCap, x]).run P w = .ok (.slice (some ⟨b, off, none⟩) (sLen + n) sCap) (w.setRow b (spl cs (off + sLen * i.size) news)) := by
  have hst := run_storeCells_at P b (off + sLen * i.size) Tb news 0 cs w hb (by simpa using hfit) h1
  simp only [Nat.add_zero] at hst
  have hzz : (d' matches .int _) = false := by cases d' <;> first | rfl | exact absurd rfl (hd _)
  simp [Builtin.append_, run_underlying ht, run_underlying ht', sizeOf, typeInfo, hi, hn, hroom, hf, add_off, hst, spl, hzz]
theorem run_append_none {ad : Option Addr} {x : Value} (ht : P.underlying T = some (.slice e)) (ht' : P.underlying T' = some d') (hd : ∀ k, d' ≠ .int k) (hi : P.info? e = some i)
    (hn : (Builtin.lenOf x).run P w = .ok 0 w) (hf : (Builtin.firstCells i.size 0 x).run P w = .ok #[] w) : (Builtin.append_ #[T, T'] ty #[.slice ad 0 0, x]).run P w = .ok (.slice ad 0 0) w := by
  have hzz : (d' matches .int _) = false := by cases d' <;> first | rfl | exact absurd rfl (hd _)
  cases ad with
  | none => simp [Builtin.append_, run_underlying ht, run_underlying ht', sizeOf, typeInfo, hi, hn, hf, hzz]
  | some ad => simp [Builtin.append_, run_underlying ht, run_underlying ht', sizeOf, typeInfo, hi, hn, hf, storeCells, hzz]
theorem run_append_grow' {ad : Option Addr} {sLen sCap n : Nat} {x : Value} {olds news : List Value} (ht : P.underlying T = some (.slice e)) (ht' : P.underlying T' = some d') (hd : ∀ k, d' ≠ .int k) (hi : P.info? e = some i) (hz : i.zero = some z)
    (hn : (Builtin.lenOf x).run P w = .ok n w) (hf : (Builtin.firstCells i.size n x).run P w.drew = .ok news.toArray w.drew) (ho : (Builtin.firstCells i.size sLen (.slice ad sLen sCap)).run P w.drew = .ok olds.toArray w.drew) (hg : sCap < sLen + n)
    (h63 : sLen + n ≤ 9223372036854775807) (hfit : (sLen + n) * i.bytes ≤ 140737488355328) :
    (Builtin.append_ #[T, T'] ty #[.slice ad sLen sCap, x]).run P w =
      .ok (.slice (some ⟨w.heap.size, 0, none⟩) (sLen + n) (grownCap w (sLen + n) sCap e)) (w.drew.alloc (.cells (olds.toArray ++ news.toArray ++ Builtin.zeroCells z.cells (grownCap w (sLen + n) sCap e - (sLen + n))) e)) := by
  have hn' : ¬ (sLen + n ≤ sCap) := by omega
  have h63' : ¬ (9223372036854775807 < ((sLen : Int) + (n : Int))) := by omega
  have h48' : ¬ (281474976710656 < Builtin.nextslicecap (sLen + n) sCap * i.bytes) := by have := growslice_fits hg hfit; omega
  have hzz : (d' matches .int _) = false := by cases d' <;> first | rfl | exact absurd rfl (hd _)
  simp [Builtin.append_, run_underlying ht, run_underlying ht', sizeOf, typeInfo, zeroValue, hi, hz, hn, hn', h63', h48', Question.forced, hf, ho, newRow, grownCap, hzz]
  congr 2
  apply Array.ext'
  simp [List.append_assoc]

theorem Chg.drewA (w : World) (ob : Obj) (B : BS) : Chg w (w.drew.alloc ob) B :=
  ⟨rfl, rfl, rfl, by simp, fun k hk _ => by simp only [World.alloc, World.drew, Array.getElem?_push]; rw [if_neg (by omega)]⟩

theorem Apart.chg {S : BS} {F : Nat → BS} {Fy : BS} {w' : World} (h : Apart E w S F Fy) (c : w.heap.size ≤ w'.heap.size) : Apart E w' S F Fy := ⟨fun k hk => ⟨Nat.lt_of_lt_of_le (h.1 k hk).1 c, (h.1 k hk).2⟩, h.2⟩

/-- A root for a block that stands apart. -/
theorem Good.addApart {G : List Gh} {S : BS} {F : Nat → BS} (hg : Good E G h w S F) {Fn : BS} (ha : Apart E w S F Fn) (g : Gh) (rt : Root) (hrt : RootR (G ++ [g]) w E.Ro S rt g Fn) : ∃ F', Good E (G ++ [g]) (h ++ [rt]) w S F' ∧ (G ++ [g])[h.length]? = some g :=
  ⟨_, hg.addRoot g rt Fn hrt (fun r k hr hk => ha.2 r k hr hk) (fun k hk => ha.1 k hk), by rw [List.getElem?_append_right (by rw [hg.len]; exact Nat.le_refl _)]; simp [hg.len]⟩

/-- Where only blocks that stand apart have changed. -/
theorem Good.chgA {G : List Gh} {S : BS} {F : Nat → BS} (hg : Good E G h w S F) {B : BS} (ha : Apart E w S F B) {w' : World} (c : Chg w w' B) {G' : List Gh} (hG : ∀ (i : Nat) (g : Gh), G[i]? = some g → G'[i]? = some g) : Good E G h w' S F ∧ Ext E G w S G' w' S := by
  have hro : ∀ k, k < E.w0.heap.size → ¬ E.O k → ¬ B k := fun k h1 h2 hb => by
    rcases (ha.1 k hb).2.1 with h | h
    · exact h2 h
    · omega
  have e : ∀ {G' : List Gh}, (∀ (i : Nat) (g : Gh), G[i]? = some g → G'[i]? = some g) → Ext E G w S G' w' S := fun hG => ⟨hG, fun _ h => h, fun k hk => c.heap k (hg.sb k hk) (fun hb => (ha.1 k hb).2.2 hk), fun k hk => c.heap k (hg.ro_lt hk) (hro k (hg.rok k hk).1 (hg.rok k hk).2)⟩
  refine ⟨?_, e hG⟩
  constructor
  · exact hg.len
  · exact fun i rt g h1 h2 => (hg.root i rt g h1 h2).ext (e fun _ _ h => h) (fun k hk => c.heap k (hg.own i k hk).1 (ha.2 i k hk))
  · exact hg.dis
  · exact hg.out
  · exact fun i k hk => ⟨Nat.lt_of_lt_of_le (hg.own i k hk).1 c.size, (hg.own i k hk).2⟩
  · exact fun k hk => Nat.lt_of_lt_of_le (hg.sb k hk) c.size
  · exact hg.s0
  · exact hg.sn
  · exact Nat.le_trans hg.size c.size
  · exact c.os.trans hg.os
  · exact c.tape.trans hg.tape
  · exact c.output.trans hg.output
  · exact fun k h1 h2 => (c.heap k (Nat.lt_of_lt_of_le h1 hg.size) (hro k h1 h2)).trans (hg.fr k h1 h2)
  · exact hg.rok
  · exact hg.gp
  · exact fun k hk => ((e fun _ _ h => h).ss k (hg.s0 k hk)).trans (hg.sf k hk)

theorem s_append {c : Call} (hC : CtxOk P C) (ho : o.op = .call c) (hcal : c.callee = .builtin .append) : OpS P C o := by
  intro E D t h a w k next Q hp ⟨G, S, F, hg, ht, hd⟩ hpan hc
  unfold opP at hp
  simp only [ho, mapK_ev, hcal] at hp
  have hargs := argsRel ht c.args.toList
  obtain ⟨T, hT, hp⟩ := on_spec hp
  obtain ⟨ti, hti, hp⟩ := on_spec hp
  obtain ⟨info, d, z0, h1, h2, h3, h4, h5, h6, _⟩ := hC.tab _ _ hti
  split at hp
  · rename_i e es xa xb hk hl
    obtain ⟨T', hT', hp⟩ := on_spec hp
    obtain ⟨i', hi', hp⟩ := on_spec hp
    obtain ⟨ei, hei, hp⟩ := on_spec hp
    obtain ⟨info', d', z', a1, a2, a3, a4, a5, a6, _⟩ := hC.tab _ _ hi'
    obtain ⟨ie, de, z, b1, b2, b3, b4, b5, b6, b7, b8, b9, b10, b11⟩ := hC.tab _ _ hei
    have hboth : (∀ k, d' ≠ .int k) ∧ appendP ei es xa xb h fun a h => putK t o.dst a fun t => k t h := by
      clear hargs
      split at hp
      · rename_i hk'
        rw [hk'] at a6
        exact ⟨fun k hk => by subst hk; exact a6, hp⟩
      · rename_i hk'
        rw [hk'] at a6
        exact ⟨fun k hk => by subst hk; exact a6, hp⟩
      · exact hp.elim
    obtain ⟨hdint, hpa⟩ := hboth
    clear hp
    rw [hk] at h6
    cases d <;> simp only [KindOk] at h6
    rename_i elem
    obtain ⟨he, ie', c1, c2⟩ := h6
    subst he
    rw [b1] at c1; cases c1
    have hes : 0 < es := by omega
    obtain ⟨pa, pb, hpab⟩ : ∃ pa pb, c.args.toList = [pa, pb] := by
      have : (c.args.toList.map (evF t)).length = 2 := by rw [hl]; rfl
      simp at this
      rcases hq : c.args.toList with _ | ⟨pa, _ | ⟨pb, _ | ⟨_, _⟩⟩⟩ <;> rw [← Array.length_toList] at this <;> rw [hq] at this <;> simp at this
      exact ⟨pa, pb, rfl⟩
    rw [hpab] at hl
    simp only [List.map_cons, List.map_nil] at hl
    have hva := evF_spec ht pa
    have hvb := evF_spec ht pb
    have hl1 : evF t pa = xa := (List.cons.inj hl).1
    have hl2 : evF t pb = xb := (List.cons.inj (List.cons.inj hl).2).1
    rw [hl1] at hva
    rw [hl2] at hvb
    have hargsA : c.args = #[pa, pb] := by apply Array.ext'; simp [hpab]
    -- the two slices
    obtain ⟨L, h', F1, vs, Fy, hpb, st1, src, ap1⟩ := movK_spec (P := P) hg hes hvb hpa
    obtain ⟨l, h'', F2, Fb, hpc, st2, bas, ap2, hFb⟩ := baseK_spec st1.good hva hpb
    obtain ⟨hby, hmx, hpd⟩ := hpc
    have hp := newK_spec hpd
    have hg2 := st2.good
    have ap1' := st2.apart ap1
    have hdis : ∀ k, Fb k → ¬ Fy k := fun k hk hy => by obtain ⟨r, hr⟩ := hFb k hk; exact ap1.2 r k hr hy
    obtain ⟨bl, hbas⟩ := bas
    have hall : ∀ el ∈ l ++ L, el.length = es := fun el hel => (List.mem_append.1 hel).elim (bl el) (src.el el)
    have hflat : (l ++ L).flatten = l.flatten ++ L.flatten := by simp
    have hln := flat_length _ _ bl
    have hLn := flat_length _ _ src.el
    have argt : c.argTypes[0]? = some T := hT
    have fin : ∀ (v' : Value) (w' : World), (Builtin.append_ c.argTypes o.type #[a.eval pa, a.eval pb]).run P w = .ok v' w' → (∃ G' F', Good E G' (h'' ++ [.lst es (l ++ L)]) w' S F' ∧ Ext E G w S G' w' S ∧ VR G' w' E.Ro S (.slc h''.length 0 (l.length + L.length) false) v') → o.wp P a w next Q := by
      rintro v' w' hr ⟨G', F', hg', he, hv'⟩
      refine wp_val (v := v') (w' := w') ?_ (rel_put hg' (ht.ext he) hd hv' hp hc)
      simp [execOp, ho, resolve, hcal, invoke, builtin, hargsA, hr]
    have happ : ∀ (s x : Value), Builtin.append_ c.argTypes o.type #[s, x] = Builtin.append_ #[T, T'] o.type #[s, x] := by
      intro s x
      unfold Builtin.append_
      simp [hT, hT']
    -- growing
    have grow : ∀ (ad : Option Addr) (sCap : Nat) (olds : List Value) (Fo : BS), a.eval pa = .slice ad l.length sCap → sCap < l.length + L.length → (Builtin.firstCells ie.size l.length (.slice ad l.length sCap)).run P w.drew = .ok olds.toArray w.drew → CsR G w E.Ro S l.flatten olds Fo →
        Apart E w S F2 Fo → (∀ k, Fo k → ¬ Fy k) → o.wp P a w next Q := by
      intro ad sCap olds Fo hv hlt hold hcr hapo hd2
      have hcs := hcr.append src.cells hd2
      rw [← hflat] at hcs
      obtain ⟨cells, hcells⟩ : ∃ cells : Array Value, cells = olds.toArray ++ vs.toArray ++ Builtin.zeroCells z.cells (grownCap w (l.length + L.length) sCap elem - (l.length + L.length)) := ⟨_, rfl⟩
      have hge := grownCap_ge w (l.length + L.length) sCap elem
      have holds : olds.length = l.length * es := by rw [← hln]; exact hcr.choose_spec.1.symm
      have hsize : cells.size = grownCap w (l.length + L.length) sCap elem * es := by
        rw [hcells]
        simp only [Array.size_append, List.size_toArray, size_zeroCells, holds, src.len, b8]
        rw [show ei.size = es by omega, ← Nat.add_mul, ← Nat.add_mul]
        congr 1; omega
      have hrun := run_append_grow' (P := P) (w := w) (T := T) (T' := T') (ty := o.type) (x := a.eval pb) (olds := olds) (news := vs) (ad := ad) (sLen := l.length) (sCap := sCap) (n := L.length) h4 a4 hdint b1 b7 (src.num w (Chg.refl w _)) (by
        have := src.get w.drew (Chg.drewN w 1 _) L.length (Nat.le_refl _)
        rw [List.take_of_length_le (by rw [src.len]; exact Nat.le_refl _)] at this
        rw [show ie.size = es by omega]; exact this) hold hlt (by omega) (by rw [b3]; exact hby)
      rw [← hcells] at hrun
      refine fin _ _ (by rw [happ, hv]; exact hrun) ?_
      have hchg := Chg.drewA w (.cells cells elem) (fun _ => False)
      have hg3 := hg2.chg hchg
      have hnew : (w.drew.alloc (.cells cells elem)).heap[w.heap.size]? = some (.cells cells elem (0, 0)) := by
        show (w.heap.push _)[w.heap.size]? = _
        simp
      have hsz3 : (w.drew.alloc (.cells cells elem)).heap.size = w.heap.size + 1 := by simp
      have hfresh : ∀ k, (∃ r, F2 r k) ∨ Fo k ∨ Fy k → k < w.heap.size := by
        rintro k (⟨r, h⟩ | h | h)
        · exact (hg2.own r k h).1
        · exact (hapo.1 k h).1
        · exact (ap1'.1 k h).1
      have he3 := hg2.ext_none hchg (pre_append G ⟨some w.heap.size, es, cells.size⟩)
      have hcs3 : CsR (G ++ [⟨some w.heap.size, es, cells.size⟩]) (w.drew.alloc (.cells cells elem)) E.Ro S (l ++ L).flatten (olds ++ vs) (fun k => Fo k ∨ Fy k) := hcs.ext he3 (fun k hk => hchg.heap k (hfresh k (.inr hk)) (fun h => h))
      have hlen3 : (l ++ L).flatten.length = (olds ++ vs).length := hcs3.choose_spec.1
      have hblk := hcs3.blk (b := w.heap.size) (cs := cells) (fun j hj => by
        rw [hcells, Array.getElem?_append, if_pos (by simp; rw [hlen3] at hj; simpa using hj)]
        simp) (fun hk => by have := hfresh _ (.inr hk); omega)
      have hap3 : Apart E (w.drew.alloc (.cells cells elem)) S F2 (fun k => k = w.heap.size ∨ Fo k ∨ Fy k) := by
        refine ⟨fun k hk => ?_, fun r k hr hk => ?_⟩
        · rcases hk with rfl | hk | hk
          · exact ⟨by omega, .inr hg2.size, fun hs => by have := hg2.sb _ hs; omega⟩
          · have := hapo.1 k hk; exact ⟨by omega, this.2⟩
          · have := ap1'.1 k hk; exact ⟨by omega, this.2⟩
        · rcases hk with rfl | hk | hk
          · have := (hg2.own r _ hr).1; omega
          · exact hapo.2 r k hr hk
          · exact ap1'.2 r k hr hk
      obtain ⟨F', hg4, hgl⟩ := hg3.addApart hap3 ⟨some w.heap.size, es, cells.size⟩ (.lst es (l ++ L))
        ⟨rfl, hall, .inr ⟨w.heap.size, cells, elem, rfl, hnew, rfl, by rw [flat_length _ _ hall, hsize, List.length_append]; exact Nat.mul_le_mul_right _ hge, hblk⟩⟩
      exact ⟨_, F', hg4, he3, .slc _ _ _ _ _ _ _ hgl hge (by simp) (.inr ⟨w.heap.size, rfl, by rw [Nat.zero_mul], by rw [Nat.zero_add, hsize]; exact Nat.le_refl _⟩)⟩
    rcases hbas with ⟨ad, hv, rfl⟩ | ⟨b, cp, cs, Tb, hv, q1, q2, q3, q4⟩
    · by_cases h0 : L = []
      · subst h0
        refine fin (.slice ad 0 0) w (by
          rw [happ, hv]
          exact run_append_none h4 a4 hdint b1 (by simpa using src.num w (Chg.refl w _)) (by simpa using src.get w (Chg.refl w _) 0 (Nat.le_refl _) |> fun h => by rw [show ie.size = es by omega]; simpa using h)) ?_
        obtain ⟨F', hg4, hgl⟩ := hg2.addApart (Fn := fun _ => False) apart0 ⟨none, es, 0⟩ (.lst es []) ⟨rfl, by simp, .inl ⟨rfl, rfl, fun _ h => h⟩⟩
        exact ⟨_, F', hg4, hg2.ext_none (Chg.refl w _) (pre_append G _), .slc _ _ _ _ _ _ _ hgl (Nat.le_refl _) (by simp) (.inl rfl)⟩
      · exact grow ad 0 [] (fun _ => False) hv (by have := List.length_pos_iff.2 h0; simp; omega) (by simpa using run_firstCells0) CsR.nil apart0 (fun _ h => h.elim)
    · by_cases hroom : l.length + L.length ≤ cp
      · have hfit : 0 + l.length * ie.size + vs.length ≤ cs.size := by
          rw [src.len, show ie.size = es by omega, Nat.zero_add, ← Nat.add_mul]
          exact Nat.le_trans (Nat.mul_le_mul_right _ hroom) q3
        have hrun := run_append_some (P := P) (w := w) (T := T) (T' := T') (ty := o.type) (x := a.eval pb) (news := vs) (b := b) (off := 0) (sLen := l.length) (sCap := cp) (n := L.length) h4 a4 hdint b1 (src.num w (Chg.refl w _)) (by
          have := src.get w (Chg.refl w _) L.length (Nat.le_refl _)
          rw [List.take_of_length_le (by rw [src.len]; exact Nat.le_refl _)] at this
          rw [show ie.size = es by omega]; exact this) hroom q1 hfit src.cells.ones
        rw [show 0 + l.length * ie.size = l.length * es by rw [Nat.zero_add, show ie.size = es by omega]] at hrun hfit
        refine fin _ _ (by rw [happ, hv]; exact hrun) ?_
        obtain ⟨Fo, d1, d2, d3⟩ := blk_csR q4
        have hFbb : Fb b := (d2 b).2 (.inl rfl)
        have hchg := Chg.setRow w b (spl cs (l.length * es) vs) Fb hFbb
        have hold : ∀ k, k ≠ b → (w.setRow b (spl cs (l.length * es) vs)).heap[k]? = w.heap[k]? := fun k hk => setRow_other w b k _ hk
        have hszr : (w.setRow b (spl cs (l.length * es) vs)).heap.size = w.heap.size := by simp
        obtain ⟨hg3, hext⟩ := hg2.chgA ap2 hchg (G' := G ++ [⟨some b, es, cs.size⟩]) (pre_append G _)
        have hcs := d1.append src.cells (fun k hk hy => hdis k ((d2 k).2 (.inr hk)) hy)
        rw [← hflat] at hcs
        have hby' : ¬ Fy b := hdis b hFbb
        have hcs3 : CsR (G ++ [⟨some b, es, cs.size⟩]) (w.setRow b (spl cs (l.length * es) vs)) E.Ro S (l ++ L).flatten (segV cs 0 l.flatten.length ++ vs) (fun k => Fo k ∨ Fy k) := hcs.ext hext (fun k hk => hold k (fun hkb => by
          subst hkb
          rcases hk with hk | hk
          · exact d3 hk
          · exact hby' hk))
        have hlen3 : (l ++ L).flatten.length = l.flatten.length + vs.length := by rw [hflat, List.length_append, hLn, src.len]
        have hblk := hcs3.blk (b := b) (cs := spl cs (l.length * es) vs) (fun j hj => by
          rw [spl_get hfit, List.getElem?_append, segV_length]
          rw [hlen3, hln] at hj
          by_cases c1 : j < l.length * es
          · rw [if_neg (by omega), if_pos (by rw [hln]; exact c1)]
            have hjs : j < cs.size := by omega
            simp [segV, hln, c1, Array.getD_eq_getD_getElem?, hjs]
          · rw [if_pos (by omega), if_neg (by rw [hln]; exact c1), hln]) (fun hk => by
            rcases hk with hk | hk
            · exact d3 hk
            · exact hby' hk)
        have hheap : (w.setRow b (spl cs (l.length * es) vs)).heap[b]? = some (.cells (spl cs (l.length * es) vs) Tb (0, 0)) := setRow_heap w b cs _ Tb (0, 0) q1
        have hss := spl_size hfit
        have hap3 : Apart E (w.setRow b (spl cs (l.length * es) vs)) S F2 (fun k => k = b ∨ Fo k ∨ Fy k) := by
          refine ⟨fun k hk => ?_, fun r k hr hk => ?_⟩
          · rw [hszr]
            rcases hk with rfl | hk | hk
            · exact ap2.1 _ hFbb
            · exact ap2.1 k ((d2 k).2 (.inr hk))
            · exact ap1'.1 k hk
          · rcases hk with rfl | hk | hk
            · exact ap2.2 r _ hr hFbb
            · exact ap2.2 r k hr ((d2 k).2 (.inr hk))
            · exact ap1'.2 r k hr hk
        obtain ⟨F', hg4, hgl⟩ := hg3.addApart hap3 ⟨some b, es, cs.size⟩ (.lst es (l ++ L))
          ⟨rfl, hall, .inr ⟨b, _, Tb, rfl, hheap, hss, by rw [hlen3, hss, hln]; omega, hblk⟩⟩
        exact ⟨_, F', hg4, hext, .slc _ _ _ _ _ _ _ hgl hroom (by simp) (.inr ⟨b, rfl, by rw [Nat.zero_mul], by rw [Nat.zero_add]; exact q3⟩)⟩
      · exact grow _ cp (segV cs 0 l.flatten.length) _ hv (by omega) (by
          rw [hln, show ie.size = es by omega]
          have : l.length * es ≤ cs.size := Nat.le_trans (Nat.mul_le_mul_right _ q2) q3
          exact run_firstCells_blk (w := w.drew) (T := Tb) (fz := (0, 0)) (show w.heap[b]? = _ from q1) (by omega)) (blk_csR q4).choose_spec.1 ⟨fun k hk => ap2.1 k (((blk_csR q4).choose_spec.2.1 k).2 (.inr hk)), fun r k hr hk => ap2.2 r k hr (((blk_csR q4).choose_spec.2.1 k).2 (.inr hk))⟩ (fun k hk => hdis k (((blk_csR q4).choose_spec.2.1 k).2 (.inr hk)))
  · exact hp.elim

/-! ### Copy, clear -/

theorem set_self {α : Type} {l : List α} {r : Nat} {x : α} (h : l[r]? = some x) : l.set r x = l := by
  apply List.ext_getElem?
  intro i
  rw [List.getElem?_set]
  split
  · rename_i hi
    subst hi
    rw [if_pos (List.getElem?_eq_some_iff.1 h).1, h]
  · rfl
theorem flat_take (s : Nat) : ∀ (n : Nat) (l : List (List AV)), (∀ e ∈ l, e.length = s) → (l.take n).flatten = l.flatten.take (n * s)
  | 0, l, _ => by simp
  | n + 1, [], _ => by simp
  | n + 1, e :: l, h => by
    have := h e (by simp)
    rw [List.take_succ_cons, List.flatten_cons, List.flatten_cons, flat_take s n l (fun x hx => h x (by simp [hx])), List.take_append, this, Nat.succ_mul, Nat.add_sub_cancel, List.take_of_length_le (l := e) (by omega)]
theorem lst_lay' {s : Nat} {l L : List (List AV)} {o : Nat} (hl : ∀ x ∈ l, x.length = s) (hL : ∀ x ∈ L, x.length = s) (hc : o + L.length ≤ l.length) :
    Flat (.lst s (l.take o ++ L ++ l.drop (o + L.length))) (lay l.flatten (o * s) L.flatten) ∧ o * s + L.flatten.length ≤ l.flatten.length := by
  have h1 : (l.take o).flatten.length = o * s := by
    rw [flat_length s _ (fun x hx => hl x (List.mem_of_mem_take hx)), List.length_take, Nat.min_eq_left (by omega)]
  have h2 := flat_length s _ hL
  have hle : o * s + L.length * s ≤ l.length * s := by rw [← Nat.add_mul]; exact Nat.mul_le_mul_right _ hc
  have hll := flat_length s _ hl
  have e1 : l.flatten = (l.take o).flatten ++ (l.drop o).flatten := by rw [← List.flatten_append, List.take_append_drop]
  have e2 : (l.drop o).flatten = ((l.drop o).take L.length).flatten ++ (l.drop (o + L.length)).flatten := by rw [← List.flatten_append, ← List.drop_drop, List.take_append_drop]
  have h3 : ((l.drop o).take L.length).flatten.length = L.length * s := by
    rw [flat_length s _ (fun x hx => hl x (List.mem_of_mem_drop (List.mem_of_mem_take hx))), List.length_take, List.length_drop, Nat.min_eq_left (by omega)]
  refine ⟨⟨?_, fun x hx => ?_⟩, by omega⟩
  · unfold lay
    rw [List.flatten_append, List.flatten_append]
    have t1 : l.flatten.take (o * s) = (l.take o).flatten := by rw [e1, ← h1, List.take_left']; rfl
    have t2 : l.flatten.drop (o * s + L.flatten.length) = (l.drop (o + L.length)).flatten := by
      rw [h2, ← List.drop_drop, e1, ← h1, List.drop_left' rfl, e2, ← h3, List.drop_left' rfl]
    rw [t1, t2]
  · rcases List.mem_append.1 hx with hx | hx
    · rcases List.mem_append.1 hx with hx | hx
      · exact hl x (List.mem_of_mem_take hx)
      · exact hL x hx
    · exact hl x (List.mem_of_mem_drop hx)

theorem s_copy {c : Call} (hC : CtxOk P C) (ho : o.op = .call c) (hcal : c.callee = .builtin .copy) : OpS P C o := by
  intro E D t h a w k next Q hp ⟨G, S, F, hg, ht, hd⟩ hpan hc
  unfold opP at hp
  simp only [ho, mapK_ev, hcal] at hp
  obtain ⟨T, hT, hp⟩ := on_spec hp
  obtain ⟨ti, hti, hp⟩ := on_spec hp
  obtain ⟨info, d, z0, h1, h2, h3, h4, h5, h6, _⟩ := hC.tab _ _ hti
  split at hp
  · rename_i e es xa xb hk hl
    obtain ⟨ei, hei, hpa⟩ := on_spec hp
    obtain ⟨ie, de, z, b1, b2, b3, b4, b5, b6, b7, b8, b9, b10, b11⟩ := hC.tab _ _ hei
    rw [hk] at h6
    cases d <;> simp only [KindOk] at h6
    rename_i elem
    obtain ⟨he, ie', c1, c2⟩ := h6
    subst he
    rw [b1] at c1; cases c1
    have hes : 0 < es := by omega
    obtain ⟨pa, pb, hpab⟩ : ∃ pa pb, c.args.toList = [pa, pb] := by
      have : (c.args.toList.map (evF t)).length = 2 := by rw [hl]; rfl
      simp at this
      rcases hq : c.args.toList with _ | ⟨pa, _ | ⟨pb, _ | ⟨_, _⟩⟩⟩ <;> rw [← Array.length_toList] at this <;> rw [hq] at this <;> simp at this
      exact ⟨pa, pb, rfl⟩
    rw [hpab] at hl
    simp only [List.map_cons, List.map_nil] at hl
    have hva := evF_spec ht pa
    have hvb := evF_spec ht pb
    rw [(List.cons.inj hl).1] at hva
    rw [(List.cons.inj (List.cons.inj hl).2).1] at hvb
    have hargsA : c.args = #[pa, pb] := by apply Array.ext'; simp [hpab]
    clear hp
    unfold copyP at hpa
    split at hpa
    · rename_i r off n zz
      obtain ⟨rt, hr, hpb⟩ := rootK_spec hpa
      clear hpa
      cases rt with
      | lst s l =>
        simp only at hpb
        split at hpb
        · rename_i hs
          have hs : s = es := by simpa using hs
          subst hs
          obtain ⟨hon, hpc⟩ := hpb
          obtain ⟨L, vs, hpd, src⟩ := srcK_spec (P := P) hg hes hvb hpc
          rw [setK_eq] at hpd
          obtain ⟨g, ad, cp, p1, p2, p3, p4, p5⟩ := hva.slc_inv
          obtain ⟨q1, q2, q3⟩ := hg.root r _ g hr p1
          have hnum := src.num w (Chg.refl w _)
          have hget := src.get w (Chg.refl w _) (min L.length n) (Nat.min_le_left _ _)
          have fin : ∀ w', (Builtin.copy_ c.argTypes o.type #[a.eval pa, a.eval pb]).run P w = .ok (.int .i64 (min L.length n : Nat)) w' → (∃ F', Good E G (h.set r (.lst s (l.take off ++ L.take n ++ l.drop (off + min L.length n)))) w' S F' ∧ Ext E G w S G w' S) → o.wp P a w next Q := by
            rintro w' hrun ⟨F', hg', he⟩
            refine wp_val (v := .int .i64 (min L.length n : Nat)) (w' := w') ?_ (rel_put hg' (ht.ext he) hd (vr_int _ _ _ _ _ _) hpd hc)
            simp [execOp, ho, resolve, hcal, invoke, builtin, hargsA, hrun]
          by_cases h0 : min L.length n = 0
          · refine fin w ?_ ⟨F, ?_, Ext.refl _ _ _ _⟩
            · rw [h0] at hget ⊢
              simp only [Nat.zero_mul, List.take_zero] at hget
              cases ad with
              | none => simp [Builtin.copy_, hT, p2, run_underlying h4, hnum, sizeOf, typeInfo, b1, c2, h0, hget, goInt, Nat.min_def] <;> simp_all [Nat.min_def]
              | some ad => simp [Builtin.copy_, hT, p2, run_underlying h4, hnum, sizeOf, typeInfo, b1, c2, h0, hget, goInt, storeCells, Nat.min_def] <;> simp_all [Nat.min_def, storeCells]
            · have : l.take off ++ L.take n ++ l.drop (off + min L.length n) = l := by
                have : L.take n = [] := by
                  rw [List.take_eq_nil_iff]
                  rcases Nat.min_eq_zero_iff.1 h0 with h | h
                  · exact .inr (List.length_eq_zero_iff.1 h)
                  · exact .inl h
                rw [this, h0]; simp
              rw [this]
              rw [set_self hr]
              exact hg
          · rcases p5 with p5 | ⟨b, p5, p6, p7⟩
            · omega
            subst p6
            have hm : (L.take n).length = min L.length n := by rw [List.length_take, Nat.min_comm]
            obtain ⟨l1, l2⟩ := lst_lay' (o := off) q2 (fun x hx => src.el x (List.mem_of_mem_take hx) : ∀ x ∈ L.take n, x.length = s) (by rw [hm]; omega)
            rw [hm] at l1
            have hfl := flat_length s _ (fun x hx => src.el x (List.mem_of_mem_take hx) : ∀ x ∈ L.take n, x.length = s)
            rw [hm] at hfl
            have hpre : (L.take n).flatten = L.flatten.take (min L.length n * s) := by
              rw [← flat_take s _ _ src.el, Nat.min_comm, ← List.take_take, List.take_length]
            obtain ⟨Fz, z1, z2⟩ := src.cells.take (min L.length n * s)
            rw [← hpre] at z1
            obtain ⟨F', b', ca, T2, r1, r2, r3, r4, r5⟩ := write_core hg hr p1 (show Flat (.lst s l) l.flatten from ⟨rfl, q2⟩) l2 (by
              rw [flat_length s _ q2]
              exact Nat.mul_pos (by omega) hes) (show SameK (.lst s l) (.lst s _) from rfl) l1 z1 ⟨fun k hk => (z2 k hk).elim, fun _ k _ hk => (z2 k hk).elim⟩
            rw [p5] at r1; cases r1
            refine fin _ ?_ ⟨F', r4, r5⟩
            have hvl : (vs.take (min L.length n * s)).length = min L.length n * s := by
              rw [List.length_take, src.len]
              exact Nat.min_eq_left (Nat.mul_le_mul_right _ (Nat.min_le_left _ _))
            have hst := run_storeCells_at P b (off * s) T2 (vs.take (min L.length n * s)) 0 ca w r2 (by rw [hvl]; omega) (fun u hu => src.cells.ones u (List.mem_of_mem_take hu))
            simp only [Nat.add_zero] at hst
            rw [q1] at p2
            have hget2 : (Builtin.firstCells s (Nat.min L.length n) (a.eval pb)).run P w = .ok (vs.take (min L.length n * s)).toArray w := hget
            simp [Builtin.copy_, hT, p2, run_underlying h4, hnum, run_sizeOf' b1, c2, hget2, hst, spl, goInt]
        · exact hpb.elim
      | _ => exact hpb.elim
    · exact hpa.elim
  · exact hp.elim
end

end Go.Proofs.YtbfjkjdbdejnmaaGreat.Ab

/- Parts of slices and strings, literals of slices, conversions, function values, maps, clear, interfaces, panics: each is sound. No condition. -/
namespace Go.Proofs.YtbfjkjdbdejnmaaGreat.Ab
set_option linter.unusedVariables false
set_option linter.unusedSimpArgs false

section
variable {P : Program} {C : Ctx} {E : Env} {D : List Deferred × Nat} {o : Oper} {t : TS} {h : HP} {a : Act} {w : World} {k : TS → HP → Prop} {next : Act → World → Prop} {Q : Exit → Act → World → Prop}

/-! ### Bounds -/

def BndR (x : Option Value) (d j : Nat) : Prop := (x = none ∧ j = d) ∨ ∃ kd, x = some (.int kd (j : Int))
theorem bndK_spec {G Ro S} (ht : TR G w Ro S t a) {x : Option Operand} {d : Nat} {k : Nat → Prop} (hp : bndK t x d k) : ∃ j, k j ∧ BndR (x.map a.eval) d j := by
  unfold bndK at hp
  split at hp
  · exact ⟨d, hp, .inl ⟨rfl, rfl⟩⟩
  · rename_i x
    rw [evK_eq] at hp
    have hv := evF_spec ht x
    split at hp
    · rename_i kd z hb
      rw [hb] at hv
      have hv := hv.v_inv.1
      obtain ⟨j, rfl, hp⟩ := hp
      exact ⟨j, hp, .inr ⟨kd, by simp [hv]⟩⟩
    · exact hp.elim
theorem run_bounds {isS : Bool} {len cap l u : Nat} {lo hi : Option Value} (h1 : BndR lo 0 l) (h2 : BndR hi len u) (hlu : l ≤ u) (hul : u ≤ len) (hlc : len ≤ cap) :
    (Instr.sliceBounds isS len cap lo hi none).run P w = .ok (l, u, cap) w := by
  unfold Instr.sliceBounds
  rcases h1 with ⟨rfl, rfl⟩ | ⟨kd, rfl⟩ <;> rcases h2 with ⟨rfl, rfl⟩ | ⟨kd', rfl⟩ <;> simp [Instr.sliceBound, asIntOf, Result.andThen, hlu, show u ≤ cap by omega, hul, hlc] <;> simp_all [Result.andThen]
theorem run_bounds0 {len cap : Nat} {lo : Option Value} {kd kd' : IntKind} (h1 : BndR lo 0 0) :
    (Instr.sliceBounds true len cap lo (some (.int kd 0)) (some (.int kd' 0))).run P w = .ok (0, 0, 0) w := by
  unfold Instr.sliceBounds
  rcases h1 with ⟨rfl, _⟩ | ⟨kd, rfl⟩ <;> simp [Instr.sliceBound, asIntOf, Result.andThen]

theorem IR.sub {Ro S : BS} {b : Bool} {s : Nat} {L : List (List AV)} {ad : Option Addr} {c l u : Nat} (h : IR w Ro S b (.sl s L) (.slice ad L.length c)) (hlu : l ≤ u) (hu : u ≤ L.length) :
    IR w Ro S b (.sl s ((L.drop l).take (u - l))) (.slice (if c = l then ad else ad.map (·.add (l * s))) ((L.drop l).take (u - l)).length (c - l)) := by
  have hlen : ((L.drop l).take (u - l)).length = u - l := by simp; omega
  by_cases h0 : u - l = 0
  · rw [h0, List.take_zero]; exact .sl0 _ _ _ _
  · generalize hn : L.length = n at h
    cases h with
    | sl0 => simp at hu; omega
    | sl _ _ _ b off _ cs T fz cv q1 q2 q3 q0 q4 q5 =>
      rw [if_neg (by omega)]
      simp only [Option.map_some, add_off]
      have hm : ∀ e ∈ (L.drop l).take (u - l), e.length = s := fun e he => q3 e (List.mem_of_mem_drop (List.mem_of_mem_take he))
      have hfl := flat_length _ _ hm
      have hfl2 := flat_length _ _ q3
      have hget : ∀ j, j < ((L.drop l).take (u - l)).flatten.length → ((L.drop l).take (u - l)).flatten[j]? = L.flatten[l * s + j]? := by
        intro j hj
        rw [hfl, hlen] at hj
        have hs : 0 < s := by
          rcases Nat.eq_zero_or_pos s with h | h
          · subst h; simp at hj
          · exact h
        have hdiv : j / s < u - l := by rw [Nat.div_lt_iff_lt_mul hs]; exact hj
        have hmod := Nat.mod_lt j hs
        have e1 : ((L.drop l).take (u - l))[j / s]? = L[l + j / s]? := by rw [List.getElem?_take, if_pos hdiv, List.getElem?_drop]
        have e2 : L[l + j / s]? = some L[l + j / s] := List.getElem?_eq_getElem (by omega)
        have f1 := flat_get _ _ hm _ _ (e1.trans e2) _ hmod
        have f2 := flat_get _ _ q3 _ _ e2 _ hmod
        rw [Nat.div_add_mod'] at f1
        rw [f1, ← f2]
        congr 1
        rw [Nat.add_mul, Nat.add_assoc, Nat.div_add_mod']
      have hb : ∀ j, j < ((L.drop l).take (u - l)).flatten.length → l * s + j < L.flatten.length := by
        intro j hj
        rw [hfl, hlen] at hj
        rw [hfl2]
        calc l * s + j < l * s + (u - l) * s := by omega
          _ = u * s := by rw [← Nat.add_mul]; congr 1; omega
          _ ≤ L.length * s := Nat.mul_le_mul_right _ hu
      exact .sl _ s _ b (off + l * s) _ cs T fz (fun j => cv (l * s + j)) q1 q2 hm (by rw [hlen]; omega) (fun j hj => by rw [Nat.add_assoc]; exact q4 _ (hb j hj)) (fun j x hj => by
        have hj' := (List.getElem?_eq_some_iff.1 hj).1
        rw [hget j hj'] at hj
        exact q5 _ _ hj)
theorem IR.cap {Ro S : BS} {b : Bool} {s : Nat} {L : List (List AV)} {ad : Option Addr} {n c : Nat} (h : IR w Ro S b (.sl s L) (.slice ad n c)) : L.length ≤ c := by
  cases h with
  | sl0 => exact Nat.zero_le _
  | sl _ _ _ _ _ _ _ _ _ _ _ _ _ q0 => exact q0

theorem q_slice {ty : TypeId} {x : Operand} {lo hi mx : Option Operand} (hC : CtxOk P C) (ho : o.op = .slice ty x lo hi mx) : OpQ P C o := by
  intro E D t h a w k hp ⟨G, S, F, hg, ht, hd⟩
  unfold opP at hp
  simp only [ho, evK_eq] at hp
  obtain ⟨i, hi', hpi⟩ := on_spec hp
  clear hp
  obtain ⟨info, dd, z, h1, h2, h3, h4, h5, h6, h7, h8, h9, h10, h11⟩ := hC.tab _ _ hi'
  have hv := evF_spec ht x
  have hp := hpi
  clear hpi
  unfold sliceP at hp
  split at hp
  · rename_i s hk hb
    rw [hb] at hv
    have hv := hv.v_inv.1
    rw [hk] at h6
    cases dd <;> simp only [KindOk] at h6
    obtain ⟨l, hp, b1⟩ := bndK_spec ht hp
    obtain ⟨u, hp, b2⟩ := bndK_spec ht hp
    obtain ⟨hlu, hus, hp⟩ := hp
    refine q_val (v := .string (s.extract l u)) (fun w2 _ => ?_) hg ht hd (.ir _ _ rfl (.v _ _ rfl)) hp
    have := run_bounds (P := P) (w := w2) (isS := false) b1 b2 hlu hus (Nat.le_refl _)
    simp [execOp, ho, hv, Instr.sliceAt, Instr.slice, run_underlying h4, this]
  · rename_i e es r off n zz hk hb
    rw [hb] at hv
    obtain ⟨rt, hr, hp2⟩ := rootK_spec hp
    clear hp
    cases rt with
    | lst s L =>
      simp only at hp2
      split at hp2
      · rename_i hs
        have hs : s = es := by simpa using hs
        subst hs
        rw [hk] at h6
        cases dd <;> simp only [KindOk] at h6
        obtain ⟨rfl, ei, q1, q2⟩ := h6
        obtain ⟨l, hp, b1⟩ := bndK_spec ht hp2
        obtain ⟨u, hp, b2⟩ := bndK_spec ht hp
        obtain ⟨hlu, hun, hp⟩ := hp
        obtain ⟨g, ad, c, p1, p2, p3, p4, p5⟩ := hv.slc_inv
        have hgs : g.s = s := (hg.root r _ g hr p1).1
        refine q_val (v := .slice (if c = l then ad else ad.map (·.add (l * s))) (u - l) (c - l)) (fun w2 _ => ?_) hg ht hd (.slc _ _ _ _ g _ _ p1 (by omega) (by simp) ?_) hp
        · have := run_bounds (P := P) (w := w2) (isS := true) b1 b2 hlu hun p3
          simp [execOp, ho, p2, Instr.sliceAt, Instr.slice, run_underlying h4, this, run_sizeOf' q1, q2]
        · by_cases hcl : c = l
          · left; omega
          · rw [if_neg hcl]
            rcases p5 with p5 | ⟨b, p5, p6, p7⟩
            · left; omega
            · right
              refine ⟨b, p5, by simp [p6, add_off, hgs, Nat.add_mul], ?_⟩
              rw [show off + l + (c - l) = off + c by omega]; exact p7
      · exact hp2.elim
    | _ => exact hp2.elim
  · rename_i e es b zz s L hk hb
    rw [hb] at hv
    split at hp
    · rename_i hs
      have hs : s = es := by simpa using hs
      subst hs
      rw [hk] at h6
      cases dd <;> simp only [KindOk] at h6
      obtain ⟨rfl, ei, q1, q2⟩ := h6
      obtain ⟨l, hp, b1⟩ := bndK_spec ht hp
      obtain ⟨u, hp, b2⟩ := bndK_spec ht hp
      obtain ⟨hlu, hun, hp⟩ := hp
      obtain ⟨ad, c, p1, p2, p3⟩ := hv.imm_inv
      have hsub := p3.sub hlu hun
      have hlen : ((L.drop l).take (u - l)).length = u - l := by simp; omega
      refine q_val (v := .slice (if c = l then ad else ad.map (·.add (l * s))) (u - l) (c - l)) (fun w2 _ => ?_) hg ht hd (.ir _ _ rfl (.imm _ _ _ _ _ _ _ _ (by simp) (by rw [hlen] at hsub; exact hsub) (by simp))) hp
      have := run_bounds (P := P) (w := w2) (isS := true) b1 b2 hlu hun p3.cap
      simp [execOp, ho, p1, Instr.sliceAt, Instr.slice, run_underlying h4, this, run_sizeOf' q1, q2]
    · exact hp.elim
  · rename_i e es _ hk
    rw [hk] at h6
    cases dd <;> simp only [KindOk] at h6
    obtain ⟨rfl, ei, q1, q2⟩ := h6
    split at hp
    · rename_i mx _ hi0
      obtain ⟨l, hp, b1⟩ := bndK_spec ht hp
      obtain ⟨u, hp, b2⟩ := bndK_spec ht hp
      obtain ⟨m, hp, b3⟩ := bndK_spec ht hp
      split at hp
      · have fin : ∀ (ad : Option Addr) (n c : Nat), a.eval x = .slice ad n c → (putK t o.dst (.imm true true es []) fun t => k t h) → QRes P E D o a w k := by
          intro ad n c hva hk'
          refine q_val (v := .slice ad 0 0) (fun w2 _ => ?_) hg ht hd (.ir _ _ rfl (.imm _ _ _ _ _ _ _ _ (by simp) (.sl0 _ _ _ _) (by simp))) hk'
          rcases b2 with ⟨b2, _⟩ | ⟨kd, b2⟩
          · cases b2
          rcases b3 with ⟨b3, _⟩ | ⟨kd', b3⟩
          · cases b3
          have := run_bounds0 (P := P) (w := w2) (len := n) (cap := c) (kd := kd) (kd' := kd') b1
          simp only [Option.map_some, Option.some.injEq] at b2 b3
          simp [execOp, ho, hva, Instr.sliceAt, Instr.slice, run_underlying h4, b2, b3, this, run_sizeOf' q1, q2]
        split at hp
        · rename_i hb; rw [hb] at hv; obtain ⟨g, ad, c, _, p2, _⟩ := hv.slc_inv; exact fin _ _ _ p2 hp
        · rename_i hb; rw [hb] at hv; obtain ⟨b, g, c, _, _, _, p2⟩ := hv.bsl_inv; exact fin _ _ _ p2 hp
        · rename_i hb; rw [hb] at hv; obtain ⟨ad, c, p2, _⟩ := hv.imm_inv; exact fin _ _ _ p2 hp
        · rename_i hb; rw [hb] at hv; exact fin _ _ _ hv.nils_inv hp
        · exact hp.elim
      · exact hp.elim
    · exact hp.elim
  · rename_i n r off _ hk hb
    rw [hb] at hv
    rw [hk] at h6
    cases dd <;> simp only [KindOk] at h6
    obtain ⟨hlen, ei, q1, q2⟩ := h6
    rw [hlen] at h4
    obtain ⟨l, hp, b1⟩ := bndK_spec ht hp
    obtain ⟨u, hp, b2⟩ := bndK_spec ht hp
    obtain ⟨hlu, hun, hln, hp⟩ := hp
    obtain ⟨b, g, p1, p2, p3⟩ := hv.ptr_inv
    refine q_val (v := .slice (some ⟨b, off + l, none⟩) (u - l) (n - l)) (fun w2 _ => ?_) hg ht hd (.bsl _ _ _ b _ g p1 p2 (by omega)) hp
    have := run_bounds (P := P) (w := w2) (isS := false) b1 b2 hlu hun (Nat.le_refl _)
    simp [execOp, ho, p3, Instr.sliceAt, run_underlying h4, Instr.sureAddr, this, run_sizeOf' q1, q2, show ¬ n = l by omega, add_off]
  · rename_i n b cs hk hb
    rw [hb] at hv
    rw [hk] at h6
    cases dd <;> simp only [KindOk] at h6
    obtain ⟨hlen, ei, q1, q2⟩ := h6
    rw [hlen] at h4
    split at hp
    · obtain ⟨hle, hp⟩ := cutK_spec _ _ _ _ hp
      obtain ⟨bb, off, ca, T, fz, cv, p1, p2, p3, p4, p5⟩ := hv.iptr_inv
      have hm : ((cs.drop 0).take n).map (fun c => [c]) = (cs.take n).map fun c => [c] := by simp
      have hl : ((cs.take n).map fun c => [c]).length = n := by simp; omega
      have hfl : ((cs.take n).map fun c => [c]).flatten = cs.take n := by
        generalize cs.take n = q
        induction q with
        | nil => rfl
        | cons a q ih => simp [ih]
      rw [hm] at hp
      refine q_val (v := .slice (some ⟨bb, off, none⟩) n n) (fun w2 _ => ?_) hg ht hd (.ir _ _ rfl (.imm _ _ _ _ _ _ n n (by simp) ?_ (by simp))) hp
      · simp [execOp, ho, p1, Instr.sliceAt, run_underlying h4, Instr.sureAddr, Instr.sliceBounds, Result.andThen, run_sizeOf' q1, q2]
        intro _
        simp [add_off]
      · have := IR.sl (w := w) (Ro := E.Ro) (S := S) b 1 ((cs.take n).map fun c => [c]) bb off n ca T fz cv p2 p3 (fun e he => by obtain ⟨c, _, rfl⟩ := List.mem_map.1 he; rfl) (by rw [hl]; exact Nat.le_refl _) (fun j hj => by
          rw [hfl] at hj; simp at hj; exact p4 j (by omega)) (fun j x hj => by
          rw [hfl, List.getElem?_take] at hj
          split at hj
          · exact p5 j x hj
          · cases hj)
        rwa [hl] at this
    · exact hp.elim
  · exact hp.elim
end

end Go.Proofs.YtbfjkjdbdejnmaaGreat.Ab

/- Conversions, elements of strings, function values, literals of slices, maps, clear, interfaces, panics: each is sound. No condition. -/
namespace Go.Proofs.YtbfjkjdbdejnmaaGreat.Ab
set_option linter.unusedVariables false
set_option linter.unusedSimpArgs false

section
variable {P : Program} {C : Ctx} {E : Env} {D : List Deferred × Nat} {o : Oper} {t : TS} {h : HP} {a : Act} {w : World} {k : TS → HP → Prop} {next : Act → World → Prop} {Q : Exit → Act → World → Prop}

theorem q_index {ty : TypeId} {x ix : Operand} (hC : CtxOk P C) (ho : o.op = .index ty x ix) : OpQ P C o := by
  intro E D t h a w k hp ⟨G, S, F, hg, ht, hd⟩
  unfold opP at hp
  simp only [ho, evK_eq] at hp
  obtain ⟨i, hi, hpi⟩ := on_spec hp
  clear hp
  obtain ⟨info, dd, z, h1, h2, h3, h4, h5, h6, _⟩ := hC.tab _ _ hi
  have hv := evF_spec ht x
  have hz := evF_spec ht ix
  split at hpi
  · rename_i s kd q hk hb hq
    rw [hb] at hv
    rw [hq] at hz
    have hv := hv.v_inv.1
    have hz := hz.v_inv.1
    rw [hk] at h6
    cases dd <;> simp only [KindOk] at h6
    obtain ⟨j, rfl, b, hb, hp⟩ := hpi
    have hjl : j < s.size := (Array.getElem?_eq_some_iff.1 hb).1
    refine q_val (v := .int .u8 b.toNat) (fun w2 _ => ?_) hg ht hd (vr_int _ _ _ _ _ _) hp
    have hs : s[j]? = some b := by rw [ByteArray.getElem?_lt' s j hjl, ← hb]; show some s.data[j] = _; rw [Array.getElem?_eq_getElem hjl]
    simp [execOp, ho, hv, hz, Instr.index, asIntOf, run_underlying h4, hs]
  · exact hpi.elim

theorem q_s2ap {ty : TypeId} {x : Operand} (hC : CtxOk P C) (ho : o.op = .sliceToArrayPointer ty x) : OpQ P C o := by
  intro E D t h a w k hp ⟨G, S, F, hg, ht, hd⟩
  unfold opP at hp
  simp only [ho, evK_eq] at hp
  obtain ⟨i, hi, hpi⟩ := on_spec hp
  clear hp
  obtain ⟨info, dd, z, h1, h2, h3, h4, h5, h6, _⟩ := hC.tab _ _ hi
  have hv := evF_spec ht x
  split at hpi
  · rename_i n b zz l hk hb
    rw [hb] at hv
    rw [hk] at h6
    cases dd <;> simp only [KindOk] at h6
    obtain ⟨hlen, ei, q1, q2⟩ := h6
    rw [hlen] at h4
    obtain ⟨cs, hcs, hcl, hnl, hn0, hp⟩ := hpi
    obtain ⟨ad, c, p1, p2, p3⟩ := hv.imm_inv
    generalize hn : l.length = m at p1 p3
    cases p3 with
    | sl0 => simp at hnl; omega
    | sl _ _ _ bb off _ ca T fz cv u1 u2 u3 u0 u4 u5 =>
      have hfl := flat_length _ _ u3
      have hft : cs = l.flatten.take n := by rw [← hcs, flat_take 1 _ _ u3, Nat.mul_one]
      refine q_val (v := .pointer (some ⟨bb, off, none⟩)) (fun w2 _ => ?_) hg ht hd (.ir _ _ rfl (.iptr _ _ _ bb off ca T fz cv (by simp) u1 u2 (fun j hj => u4 j (by omega)) (fun j y hj => ?_))) hp
      · have : ¬ l.length < n := by omega
        simp [execOp, ho, p1, Instr.arrayAt, run_underlying h4, this]
      · rw [hft, List.getElem?_take] at hj
        split at hj
        · exact u5 j y hj
        · cases hj
  · exact hpi.elim

theorem q_makeFunc {f : Fn} {fs cs : Array Operand} (ho : o.op = .makeFunc f fs cs) : OpQ P C o := by
  intro E D t h a w k hp ⟨G, S, F, hg, ht, hd⟩
  unfold opP at hp
  simp only [ho, mapK_ev] at hp
  split at hp
  · rename_i f' hfs
    refine q_val (v := .func (.func f') #[] (cs.toList.map a.eval).toArray) (fun w2 _ => ?_) hg ht hd (.fn f' _ (cs.toList.map a.eval) (by simp) (argsRel ht _)) hp
    have : fs = #[] := by apply Array.ext'; simpa using hfs
    subst this
    simp [execOp, ho, Instr.makeFunc]
    apply Array.ext'
    simp
  · exact hp.elim

theorem q_minmax {c : Call} (ho : o.op = .call c) (hcal : c.callee = .builtin .min ∨ c.callee = .builtin .max) : OpQ P C o := by
  intro E D t h a w k hp ⟨G, S, F, hg, ht, hd⟩
  unfold opP at hp
  simp only [ho, mapK_ev] at hp
  have two : ∀ {x y : AV}, c.args.toList.map (evF t) = [x, y] → ∃ pa pb, c.args = #[pa, pb] ∧ evF t pa = x ∧ evF t pb = y := by
    intro x y hl
    have : (c.args.toList.map (evF t)).length = 2 := by rw [hl]; rfl
    simp at this
    rcases hq : c.args.toList with _ | ⟨pa, _ | ⟨pb, _ | ⟨_, _⟩⟩⟩ <;> rw [← Array.length_toList] at this <;> rw [hq] at this <;> simp at this
    rw [hq] at hl
    simp only [List.map_cons, List.map_nil] at hl
    exact ⟨pa, pb, by apply Array.ext'; simp [hq], (List.cons.inj hl).1, (List.cons.inj (List.cons.inj hl).2).1⟩
  rcases hcal with hcal | hcal <;> simp only [hcal] at hp <;> split at hp <;> first | exact hp.elim | skip
  all_goals
    rename_i j x j' y hl
    split at hp
    · rename_i hjj
      subst hjj
      obtain ⟨pa, pb, h1, h2, h3⟩ := two hl
      have hva := evF_spec ht pa
      have hvb := evF_spec ht pb
      rw [h2] at hva
      rw [h3] at hvb
      have hva := hva.v_inv.1
      have hvb := hvb.v_inv.1
      refine q_val (v := .int j _) (fun w2 _ => ?_) hg ht hd (vr_int _ _ _ _ _ _) hp
      simp [execOp, ho, resolve, hcal, invoke, builtin, h1, hva, hvb, Builtin.min_, Builtin.max_, Builtin.min2, Builtin.max2]
    · exact hp.elim

theorem byteC_flat : ∀ bs : List Int, (bs.map byteC).flatten = bs.map fun n => AV.v (.int .u8 n)
  | [] => rfl
  | b :: bs => by rw [List.map_cons, List.flatten_cons, byteC_flat bs]; rfl
theorem bytes_push (bs : List Int) : bs.foldl (fun r n => r.push (UInt8.ofNat n.toNat)) ByteArray.empty = bytesS bs := by
  rw [foldl_push_bytes]
  simp [bytesS, ByteArray.empty, ByteArray.emptyWithCapacity]
  rfl

theorem q_convert {s d : TypeId} {x : Operand} (hC : CtxOk P C) (ho : o.op = .convert s d x) (hq : ∀ i e es, C.tab d = some i → i.kind ≠ .slice e es) : OpQ P C o := by
  intro E D t h a w k hp ⟨G, S, F, hg, ht, hd⟩
  unfold opP at hp
  simp only [ho, evK_eq] at hp
  obtain ⟨is, his, hps⟩ := on_spec hp
  clear hp
  obtain ⟨i, hi, hp⟩ := on_spec hps
  clear hps
  obtain ⟨sinfo, ds, sz, g1, g2, g3, g4, g5, g6, _⟩ := hC.tab _ _ his
  obtain ⟨info, dd, z, h1, h2, h3, h4, h5, h6, _⟩ := hC.tab _ _ hi
  have hv := evF_spec ht x
  split at hp
  · rename_i n q y hk hb
    rw [hb] at hv
    have hv := hv.v_inv.1
    rw [hk] at h6
    cases dd <;> simp only [KindOk] at h6
    subst h6
    refine q_val (v := .int _ (IntKind.wrap _ y)) (fun w2 _ => ?_) hg ht hd (.ir _ _ rfl (.v _ _ rfl)) hp
    simp [execOp, ho, hv, convert, run_underlying g4, run_underlying h4, Conv.intToInt]
  · rename_i s' hk hb
    rw [hb] at hv
    have hv := hv.v_inv.1
    rw [hk] at h6
    cases dd <;> simp only [KindOk] at h6
    refine q_val (v := .string s') (fun w2 _ => ?_) hg ht hd (.ir _ _ rfl (.v _ _ rfl)) hp
    simp [execOp, ho, hv, convert, run_underlying g4, run_underlying h4]
  · rename_i hk _
    rw [hk] at h6
    cases dd <;> simp only [KindOk] at h6
    split at hp
    · rename_i e hks
      rw [hks] at g6
      cases ds <;> simp only [KindOk] at g6
      rename_i elem
      obtain ⟨he, ei, q1, q2⟩ := g6
      subst he
      obtain ⟨ei', hei, hpe⟩ := on_spec hp
      clear hp
      obtain ⟨einfo, de, ez, e1, e2, e3, e4, e5, e6, _⟩ := hC.tab _ _ hei
      have fin : ∀ (ad : Option Addr) (n c : Nat), a.eval x = .slice ad n c → P.underlying elem = some (.int .u8) → srcK 1 (evF t x) h (fun L => ∃ bs : List Int, L = bs.map byteC ∧ putK t o.dst (.v (.string (bytesS bs))) fun t => k t h) → QRes P E D o a w k := by
        intro ad n c hva hu hp
        obtain ⟨L, vs, ⟨bs, rfl, hp⟩, src⟩ := srcK_spec (P := P) hg (by omega) hv hp
        rw [hva] at src
        have hfl := byteC_flat bs
        have hvs : vs = bs.map (Value.int .u8) := by
          obtain ⟨Fc, c1, c2, _⟩ := src.cells
          rw [hfl, List.length_map] at c1
          apply List.ext_getElem?
          intro j
          by_cases hj : j < bs.length
          · have := c2 j (.v (.int .u8 bs[j])) (by rw [hfl]; simp [hj])
            have := (this.vr rfl).1.v_inv.1
            rw [List.getD_eq_getElem?_getD, List.getElem?_eq_getElem (by omega)] at this
            rw [List.getElem?_eq_getElem (by omega)]
            simpa [hj] using this
          · rw [List.getElem?_eq_none (by omega), List.getElem?_eq_none (by simpa using hj)]
        refine q_val (v := .string (bytesS bs)) (fun w2 hw => ?_) hg ht hd (.ir _ _ rfl (.v _ _ rfl)) hp
        have hget := src.get w2 hw bs.length (by simp)
        have hnum := src.num w2 hw
        simp only [Builtin.lenOf, List.length_map, Sem.run_pure, Result.ok.injEq, and_true] at hnum
        subst hnum
        rw [List.take_of_length_le (by rw [hvs]; simp), hvs] at hget
        cases ad with
        | none =>
          simp [Builtin.firstCells] at hget
          have : bs = [] := by
            cases bs with
            | nil => rfl
            | cons _ _ => simp at hget
          subst this
          have := run_convert_bytes_string (P := P) w2 s d elem none 0 c g4 hu h4
          simp [execOp, ho, hva, this, Conv.bytesToString]
          rfl
        | some ad =>
          simp only [Builtin.firstCells, Nat.mul_one] at hget
          have := run_convert_bytes_string (P := P) w2 s d elem (some ad) bs.length c g4 hu h4
          rw [run_bytesToString w2 ad _ c bs hget, bytes_push] at this
          simp [execOp, ho, hva, this]
      split at hpe
      · exact hpe.elim
      · rename_i hke hne
        rw [hke] at e6
        cases de <;> simp only [KindOk] at e6
        subst e6
        have hx := hv
        have hall : ∃ ad n c, a.eval x = .slice ad n c := by
          generalize evF t x = y at hv hpe hne
          unfold srcK at hpe
          split at hpe
          · exact ⟨_, _, _, hv.nils_inv⟩
          · obtain ⟨ad, c, p, _⟩ := hv.imm_inv; exact ⟨_, _, _, p⟩
          · obtain ⟨g, ad, c, _, p, _⟩ := hv.slc_inv; exact ⟨_, _, _, p⟩
          · obtain ⟨b, g, c, _, _, _, p⟩ := hv.bsl_inv; exact ⟨_, _, _, p⟩
          · exact (hne _ rfl).elim
          · exact hpe.elim
        obtain ⟨ad, n, c, hva⟩ := hall
        exact fin ad n c hva e4 hpe
      · exact hpe.elim
    · exact hp.elim
  · rename_i e s' hk hb
    exact absurd hk (hq _ _ _ hi)
  · exact hp.elim

/-- A new block that will not change any more. -/
theorem new_imm {G S F} (hg : Good E G h w S F) {w' : World} (c : Chg w w' (fun _ => False)) {b : Nat} (hb1 : w.heap.size ≤ b) (hb2 : b < w'.heap.size) : Good E G h w' (fun k => S k ∨ k = b) F ∧ Ext E G w S G w' (fun k => S k ∨ k = b) := by
  have g1 := hg.chg c
  have g2 := g1.addS (fun k => k = b) (fun k hk => by subst hk; exact ⟨hb2, .inr (Nat.le_trans hg.size hb1)⟩) (fun r k hr hk => by subst hk; have := (hg.own r _ hr).1; omega)
  exact ⟨g2, fun _ _ h => h, fun _ h => .inl h, fun k hk => c.heap k (hg.sb k hk) (fun h => h), fun k hk => c.heap k (hg.ro_lt hk) (fun h => h)⟩

theorem s_convertS {s d : TypeId} {x : Operand} {e : TypeId} {es : Nat} {i : TI} (hC : CtxOk P C) (ho : o.op = .convert s d x) (hdi : C.tab d = some i) (hki : i.kind = .slice e es) : OpS P C o := by
  intro E D t h a w k next Q hp ⟨G, S, F, hg, ht, hd⟩ hpan hc
  unfold opP at hp
  simp only [ho, evK_eq] at hp
  obtain ⟨is, his, hps⟩ := on_spec hp
  clear hp
  obtain ⟨i2, hi2, hp⟩ := on_spec hps
  clear hps
  rw [hdi] at hi2
  cases hi2
  obtain ⟨sinfo, ds, sz, g1, g2, g3, g4, g5, g6, _⟩ := hC.tab _ _ his
  obtain ⟨info, dd, z, h1, h2, h3, h4, h5, h6, _⟩ := hC.tab _ _ hdi
  have hv := evF_spec ht x
  split at hp
  · rename_i hk _; rw [hki] at hk; cases hk
  · rename_i hk _; rw [hki] at hk; cases hk
  · rename_i hk _; rw [hki] at hk; cases hk
  · rename_i e' s' hk hb
    rw [hb] at hv
    have hv := hv.v_inv.1
    rw [hk] at h6
    cases dd <;> simp only [KindOk] at h6
    rename_i elem
    obtain ⟨he, ei, q1, q2⟩ := h6
    subst he
    obtain ⟨ei', hei, hpe⟩ := on_spec hp
    clear hp
    obtain ⟨einfo, de, ez, e1, e2, e3, e4, e5, e6, _⟩ := hC.tab _ _ hei
    split at hpe
    · rename_i hke
      rw [hke] at e6
      cases de <;> simp only [KindOk] at e6
      subst e6
      have hrun := Lib.run_convert_string_bytes (P := P) w s d elem s' g4 h4 e4
      have hchg : Chg w (Lib.bytesWorld w elem s') (fun _ => False) := ⟨rfl, rfl, rfl, by rw [Lib.bytesWorld_size]; omega, fun k hk _ => Lib.bytesWorld_at_old w elem s' k hk⟩
      obtain ⟨a1, a2⟩ := new_imm hg hchg (b := w.heap.size) (Nat.le_refl _) (by rw [Lib.bytesWorld_size]; omega)
      have hflat : (strB s').flatten = s'.data.toList.map fun b => AV.v (.int .u8 b.toNat) := by
        unfold strB byteC
        generalize s'.data.toList = q
        induction q with
        | nil => rfl
        | cons a q ih => simp only [List.map_cons, List.flatten_cons, ih]; rfl
      have hslen : (strB s').length = s'.size := by rw [strB, List.length_map, Array.length_toList]; rfl
      refine wp_val (v := .slice (some ⟨w.heap.size, 0, none⟩) s'.size (grownCap w s'.size 0 elem)) (w' := Lib.bytesWorld w elem s') ?_ (rel_put a1 (ht.ext a2) hd (.ir _ _ rfl (.imm _ true _ _ _ _ _ _ (by simp) ?_ (by simp))) hpe hc)
      · simp [execOp, ho, hv, hrun]
      · rw [← hslen]
        refine .sl _ 1 _ _ 0 _ _ elem _ (fun j => .int .u8 ((s'.data.toList.getD j 0).toNat)) (.inr rfl) (Lib.bytesWorld_at_new w elem s') (fun e he => by obtain ⟨b, _, rfl⟩ := List.mem_map.1 he; rfl) (by rw [hslen]; exact grownCap_ge w _ _ _) (fun j hj => ?_) (fun j y hj => ?_)
        · rw [hflat, List.length_map] at hj
          have hjs : j < s'.size := by rw [Array.length_toList] at hj; exact hj
          have hjd : j < s'.data.size := hjs
          rw [Nat.zero_add, Lib.bytesCells, Array.getElem?_append, if_pos (by simpa using hjd), Array.getElem?_map, Array.getElem?_eq_getElem hjd]
          simp [List.getD_eq_getElem?_getD]
          rw [Array.getElem?_eq_getElem hjd]; rfl
        · rw [hflat, List.getElem?_map] at hj
          cases hq : s'.data.toList[j]? with
          | none => simp [hq] at hj
          | some b =>
            simp [hq] at hj
            subst hj
            rw [List.getD_eq_getElem?_getD, hq]
            exact .v _ _ rfl
    · exact hpe.elim
  · exact hp.elim

theorem s_makeInterface {ty : TypeId} {x : Operand} (hC : CtxOk P C) (ho : o.op = .makeInterface ty x) : OpS P C o := by
  intro E D t h a w k next Q hp ⟨G, S, F, hg, ht, hd⟩ hpan hc
  unfold opP at hp
  simp only [ho, evK_eq] at hp
  obtain ⟨i, hi, hpi⟩ := on_spec hp
  clear hp
  obtain ⟨info, dd, z, h1, h2, h3, h4, h5, h6, _⟩ := hC.tab _ _ hi
  have hv := evF_spec ht x
  have fin : ∀ u, evF t x = .v u → (∀ ms, dd ≠ .interface ms) → (putK t o.dst (.v (.iface ty u)) fun t => k t h) → o.wp P a w next Q := by
    intro u hb hdd hk
    rw [hb] at hv
    have hv := hv.v_inv.1
    refine wp_val (v := .iface ty u) (w' := w) ?_ (rel_put hg ht hd (.ir _ _ rfl (.v _ _ rfl)) hk hc)
    cases dd <;> first | exact absurd rfl (hdd _) | simp [execOp, ho, hv, Instr.makeInterface, run_underlying h4]
  split at hpi
  · rename_i hk hb; rw [hk] at h6; exact fin _ hb (fun ms he => by subst he; exact h6) hpi
  · rename_i hk hb; rw [hk] at h6; exact fin _ hb (fun ms he => by subst he; exact h6) hpi
  · exact hpi.elim

theorem s_panic {x : Operand} (ho : o.op = .panic x) : OpS P C o := by
  intro E D t h a w k next Q hp ⟨G, S, F, hg, ht, hd⟩ hpan hc
  unfold opP at hp
  simp only [ho, evK_eq] at hp
  have hv := evF_spec ht x
  split at hp
  · rename_i ty u hb
    rw [hb] at hv
    have hv := hv.v_inv.1
    have hr : (execOp a.eval o).run P w = .halt (.panic (.iface ty u)) w := by simp [execOp, ho, hv, Instr.panic]
    unfold Oper.wp
    rw [hr]
    exact hpan _ t h a w hp ⟨G, S, F, hg, ht, hd⟩
  · exact hp.elim

/-! ### Literals of slices -/

theorem fill_elems {es : Nat} (cells : Array Value) : ∀ (n : Nat) (L : List (List Value)) (pv : List (Nat × Value)) (j : Nat) (c : Array Value), L.length = n → pv.length = n → (∀ (i : Nat) l, L[i]? = some l → l.length = es ∧ ∃ v, pv[i]? = some (j + i, v) ∧ v.cells = l.toArray) →
    (j + n) * es ≤ c.size → ∃ c', Instr.fill (fun i => some (i * es, es)) c pv = some c' ∧ c'.size = c.size ∧ ∀ q, c'[q]? = if j * es ≤ q ∧ q < (j + n) * es then L.flatten[q - j * es]? else c[q]?
  | 0, L, pv, j, c, h1, h2, h3, h4 => by
    have : pv = [] := List.length_eq_zero_iff.1 h2
    subst this
    exact ⟨c, rfl, rfl, fun q => by rw [if_neg (by rw [Nat.add_zero]; omega)]⟩
  | n + 1, [], pv, j, c, h1, _, _, _ => by simp at h1
  | n + 1, l :: L, [], j, c, _, h2, _, _ => by simp at h2
  | n + 1, l :: L, p :: pv, j, c, h1, h2, h3, h4 => by
    obtain ⟨hl, v, hv0, hv⟩ := h3 0 l rfl
    simp at hv0
    subst hv0
    have hle : j * es + es ≤ c.size := by
      have : (j + 1) * es ≤ (j + (n + 1)) * es := Nat.mul_le_mul_right _ (by omega)
      rw [Nat.succ_mul] at this; omega
    obtain ⟨g1, g2⟩ := foldl_get (j * es) l 0 c (by omega)
    obtain ⟨c1, hc1⟩ : ∃ c1, c1 = (l.zipIdx 0).foldl (fun cs (p_1 : Value × Nat) => cs.setIfInBounds (j * es + p_1.2) p_1.1) c := ⟨_, rfl⟩
    rw [← hc1] at g1 g2
    obtain ⟨c', k1, k2, k3⟩ := fill_elems cells n L pv (j + 1) c1 (by simpa using h1) (by simpa using h2) (fun i l' hi => by
      obtain ⟨q1, v', q2, q3⟩ := h3 (i + 1) l' (by simpa using hi)
      exact ⟨q1, v', by simpa [show j + (i + 1) = j + 1 + i by omega] using q2, q3⟩) (by rw [g1, show j + 1 + n = j + (n + 1) by omega]; exact h4)
    refine ⟨c', ?_, k2.trans g1, fun q => ?_⟩
    · have hsz : v.cells.size = l.length := by rw [hv]; simp
      have hfold : v.cells.zipIdx.foldl (fun cs (x : Value × Nat) => cs.setIfInBounds (j * es + x.2) x.1) c = c1 := by
        rw [hc1, hv, ← Array.foldl_toList, Array.toList_zipIdx]
      simp only [Instr.fill]
      rw [if_neg (by rw [hsz, hl]; simp; omega)]
      exact (congrArg (fun z => Instr.fill (fun i => some (i * es, es)) z pv) hfold).trans k1
    · rw [k3, g2]
      simp only [List.flatten_cons, Nat.add_zero]
      have e1 : (j + 1) * es = j * es + es := by rw [Nat.succ_mul]
      have e2 : (j + 1 + n) * es = (j + (n + 1)) * es := by congr 1; omega
      have e3 : j * es + es ≤ (j + (n + 1)) * es := by rw [← e1]; exact Nat.mul_le_mul_right _ (by omega)
      rw [List.getElem?_append, hl]
      repeat' split
      all_goals first | rfl | (exfalso; omega) | (congr 1; omega)

theorem elemsK_spec {G : List Gh} {ei : TI} : ∀ (ps : List (Nat × Operand)) (j : Nat) {h : HP} {S : BS} {F : Nat → BS} (hg : Good E G h w S F) (ht : TR G w E.Ro S t a) {K : List (List AV) → HP → Prop} (hp : elemsK t ei j ps h K),
    ∃ (L : List (List AV)) (vL : List (List Value)) (h' : HP) (S' : BS) (F' : Nat → BS) (Fy : BS), K L h' ∧ Stp E G w h S F h' S' F' ∧ L.length = ps.length ∧ vL.length = ps.length ∧ (∀ l ∈ L, l.length = ei.size) ∧
      (∀ (i : Nat) p, ps[i]? = some p → p.1 = j + i ∧ ∃ l : List Value, vL[i]? = some l ∧ l.length = ei.size ∧ (a.eval p.2).cells = l.toArray) ∧ CsR G w E.Ro S' L.flatten vL.flatten Fy ∧ Apart E w S' F' Fy ∧ ∀ k, Fy k → ∃ r, F r k
  | [], j, h, S, F, hg, ht, K, hp => ⟨[], [], h, S, F, _, hp, .refl hg, rfl, rfl, by simp, by simp, CsR.nil, apart0, fun _ h => h.elim⟩
  | (i, x) :: ps, j, h, S, F, hg, ht, K, hp => by
    simp only [elemsK] at hp
    split at hp
    · rename_i hij
      have hij : i = j := Nat.eq_of_beq_eq_true hij
      rw [evK_eq] at hp
      obtain ⟨cs, vs, hp1, c1, c2, c3, c4, c5⟩ := cells_spec (evF_spec ht x) hp
      obtain ⟨cs', h1, S1, F1, F2, hp2, st1, hcr, hap, hF2⟩ := foldCs_spec cs vs hg c3 c4 hp1
      obtain ⟨L, vL, h', S', F', Fy, hp3, st2, d1, d2, d3, d4, d5, d6, d7⟩ := elemsK_spec ps (j + 1) st1.good (ht.ext st1.ext) hp2
      have hap2 := st2.apart hap
      have hl : cs'.length = vs.length := hcr.choose_spec.1
      refine ⟨cs' :: L, vs :: vL, h', S', F', fun k => F2 k ∨ Fy k, hp3, st1.trans st2, by simp [d1], by simp [d2], fun l hl' => ?_, fun q p hq => ?_, ?_, ⟨fun k hk => hk.elim (hap2.1 k) (d6.1 k), fun r k hr hk => hk.elim (hap2.2 r k hr) (d6.2 r k hr)⟩, fun k hk => hk.elim (hF2 k) (fun h => (d7 k h).elim fun r h => ⟨r, st1.sub r k h⟩)⟩
      · rcases List.mem_cons.1 hl' with rfl | hl'
        · omega
        · exact d3 l hl'
      · cases q with
        | zero => simp at hq; subst hq; exact ⟨by simpa using hij, vs, rfl, c2, c1⟩
        | succ q =>
          obtain ⟨e1, l, e2, e3, e4⟩ := d4 q p (by simpa using hq)
          exact ⟨by omega, l, by simpa using e2, e3, e4⟩
      · rw [List.flatten_cons, List.flatten_cons]
        exact (hcr.ext st2.ext (fun _ _ => rfl)).append d5 (fun k h1 h2 => by obtain ⟨r, hr⟩ := d7 k h2; exact hap.2 r k hr h1)
    · exact hp.elim

theorem s_buildSlice {ty : TypeId} {n : Nat} {ps : Array (Nat × Operand)} (hC : CtxOk P C) (ho : o.op = .buildSlice ty n ps) : OpS P C o := by
  intro E D t h a w k next Q hp ⟨G, S, F, hg, ht, hd⟩ hpan hc
  unfold opP at hp
  simp only [ho] at hp
  obtain ⟨i, hi, hpi⟩ := on_spec hp
  clear hp
  obtain ⟨info, dd, z0, h1, h2, h3, h4, h5, h6, _⟩ := hC.tab _ _ hi
  split at hpi
  · rename_i e es hk
    obtain ⟨ei, hei, hp⟩ := on_spec hpi
    clear hpi
    obtain ⟨ie, de, z, b1, b2, b3, b4, b5, b6, b7, b8, b9, b10, b11⟩ := hC.tab _ _ hei
    rw [hk] at h6
    cases dd <;> simp only [KindOk] at h6
    rename_i elem
    obtain ⟨he, ie', c1, c2⟩ := h6
    subst he
    rw [b1] at c1; cases c1
    split at hp
    · rename_i hn hbig
      have hn : ps.toList.length = n := Nat.eq_of_beq_eq_true hn
      have hbig : n * ei.size ≤ 16777216 := Nat.le_of_ble_eq_true hbig
      obtain ⟨L, vL, h', S', F', Fy, hp1, st, d1, d2, d3, d4, d5, d6, d7⟩ := elemsK_spec ps.toList 0 hg ht hp
      have hp2 := newK_spec hp1
      have hes : es = ei.size := by omega
      subst hes
      have hvl : ∀ l ∈ vL, l.length = ei.size := by
        intro l hl
        obtain ⟨q, hq, rfl⟩ := List.mem_iff_getElem.1 hl
        obtain ⟨_, l, e2, e3, _⟩ := d4 q _ (List.getElem?_eq_getElem (by omega))
        rw [List.getElem?_eq_getElem hq] at e2
        cases e2; exact e3
      have hvlen : vL.flatten.length = n * ei.size := by
        have : ∀ (l : List (List Value)), (∀ e ∈ l, e.length = ei.size) → l.flatten.length = l.length * ei.size := by
          intro l
          induction l with
          | nil => simp
          | cons e l ih => intro h; rw [List.flatten_cons, List.length_append, ih (fun x hx => h x (by simp [hx])), h e (by simp), List.length_cons, Nat.add_mul]; omega
        rw [this _ hvl, d2, hn]
      obtain ⟨c0, hc0⟩ : ∃ c0 : Array Value, c0 = (Array.range (n * ei.size)).map ((if n * ei.size = 0 then #[] else z.cells)[· % (if n * ei.size = 0 then #[] else z.cells).size]!) := ⟨_, rfl⟩
      have hc0s : c0.size = n * ei.size := by rw [hc0]; simp
      obtain ⟨cells, k1, k2, k3⟩ := fill_elems (es := ei.size) #[] n vL (ps.map fun (i, x) => (i, a.eval x)).toList 0 c0 (by omega) (by simp; omega) (fun q l hq => by
        have hql := (List.getElem?_eq_some_iff.1 hq).1
        obtain ⟨e1, l', e2, e3, e4⟩ := d4 q ps.toList[q] (List.getElem?_eq_getElem (by omega))
        rw [hq] at e2; cases e2
        refine ⟨e3, _, ?_, e4⟩
        rw [Array.toList_map, List.getElem?_map, List.getElem?_eq_getElem (by omega)]
        simpa using e1) (by rw [hc0s, Nat.zero_add]; exact Nat.le_refl _)
      have hcells : cells = vL.flatten.toArray := by
        apply Array.ext'
        apply List.ext_getElem?
        intro q
        have := k3 q
        simp only [Nat.zero_mul, Nat.zero_le, true_and, Nat.zero_add, Nat.sub_zero] at this
        rw [Array.getElem?_toList, this]
        by_cases hq : q < n * ei.size
        · rw [if_pos hq]
        · rw [if_neg hq, Array.getElem?_eq_none (by omega)]
          exact (List.getElem?_eq_none (by rw [hvlen]; omega)).symm
      have hrun : (Instr.buildSlice ty n (ps.map fun (i, x) => (i, a.eval x))).run P w = .ok (.slice (some ⟨w.heap.size, 0, none⟩) n n) (w.alloc (.cells cells elem)) := by
        unfold Instr.buildSlice
        simp only [Sem.run_bind, run_underlying h4, Result.andThen_ok, run_sizeOf' b1, c2]
        rw [if_neg (show ¬ (n * ei.size > 2 ^ 24) by omega)]
        by_cases h0 : n * ei.size = 0
        · simp only [h0, if_true, Sem.run_bind, Sem.run_pure, Result.andThen_ok] at hc0 ⊢
          rw [← hc0] 
          simp only [k1]
          simp [newRow]
        · simp only [h0, if_false, Sem.run_bind, run_zero b1 b7, Sem.run_pure, Result.andThen_ok] at hc0 ⊢
          simp only [← hc0, k1]
          simp [newRow]
      have hg2 := st.good
      have hlen2 : L.flatten.length = n * ei.size := by rw [flat_length _ _ d3, d1, hn]
      have hchg := Chg.alloc w (.cells cells elem) (fun _ => False)
      have hg3 := hg2.chg hchg
      have hnew := heap_new w (.cells cells elem)
      have hsz3 : (w.alloc (.cells cells elem)).heap.size = w.heap.size + 1 := by simp
      have he3 := hg2.ext_none hchg (pre_append G ⟨some w.heap.size, ei.size, cells.size⟩)
      have hcs3 := d5.ext he3 (fun k hk => hchg.heap k (d6.1 k hk).1 (fun h => h))
      have hblk := hcs3.blk (b := w.heap.size) (cs := cells) (fun j hj => by rw [hcells]; simp) (fun hk => by have := (d6.1 _ hk).1; omega)
      have hap3 : Apart E (w.alloc (.cells cells elem)) S' F' (fun k => k = w.heap.size ∨ Fy k) := by
        refine ⟨fun k hk => ?_, fun r k hr hk => ?_⟩
        · rcases hk with rfl | hk
          · exact ⟨by omega, .inr hg2.size, fun hs => by have := hg2.sb _ hs; omega⟩
          · have := d6.1 k hk; exact ⟨by omega, this.2⟩
        · rcases hk with rfl | hk
          · have := (hg2.own r _ hr).1; omega
          · exact d6.2 r k hr hk
      have hcsz : cells.size = n * ei.size := by rw [k2, hc0s]
      obtain ⟨F'', hg4, hgl⟩ := hg3.addApart hap3 ⟨some w.heap.size, ei.size, cells.size⟩ (.lst ei.size L)
        ⟨rfl, d3, .inr ⟨w.heap.size, cells, elem, rfl, hnew, rfl, by rw [hlen2, hcsz]; exact Nat.le_refl _, hblk⟩⟩
      refine wp_val (v := .slice (some ⟨w.heap.size, 0, none⟩) n n) (w' := w.alloc (.cells cells elem)) ?_ (rel_put hg4 ((ht.ext st.ext).ext he3) hd (.slc _ _ _ _ _ _ _ hgl (Nat.le_refl _) (fun _ => rfl) (.inr ⟨w.heap.size, rfl, by rw [Nat.zero_mul], by rw [Nat.zero_add, hcsz]; exact Nat.le_refl _⟩)) hp2 hc)
      simp [execOp, ho, hrun]
    · exact hp.elim
  · exact hpi.elim

/-- Where a key stands. -/
theorem mapFind_spec : ∀ (l : List (MK × Value)) (q : MK), (mapFind q l = none ∧ (∀ p ∈ l, p.1 ≠ q) ∧ ∀ x, mapSet q x l = l ++ [(q, x)]) ∨
    ∃ j v, mapFind q l = some v ∧ l[j]? = some (q, v) ∧ (∀ i p, i < j → l[i]? = some p → p.1 ≠ q) ∧ ∀ x, mapSet q x l = l.set j (q, x)
  | [], q => .inl ⟨rfl, by simp, fun x => rfl⟩
  | (a, v) :: l, q => by
    by_cases haq : a = q
    · subst haq
      exact .inr ⟨0, v, by simp [mapFind], rfl, by simp, fun x => by simp [mapSet]⟩
    · rcases mapFind_spec l q with ⟨h1, h2, h3⟩ | ⟨j, u, h1, h2, h3, h4⟩
      · refine .inl ⟨by simp [mapFind, haq, h1], fun p hp => ?_, fun x => by simp [mapSet, haq, h3]⟩
        rcases List.mem_cons.1 hp with rfl | hp
        · exact haq
        · exact h2 p hp
      · refine .inr ⟨j + 1, u, by simp [mapFind, haq, h1], by simpa using h2, fun i p hi hp => ?_, fun x => by simp [mapSet, haq, h4]⟩
        cases i with
        | zero => simp at hp; subst hp; exact haq
        | succ i => exact h3 i p (by omega) (by simpa using hp)

theorem ba_beq (a b : ByteArray) : (a == b) = decide (a = b) := by
  rw [Bool.eq_iff_iff, beq_toListBytes, ByteArray.toList_eq, ByteArray.toList_eq]
  simp only [beq_iff_eq, decide_eq_true_eq]
  refine ⟨fun h => ?_, fun h => by rw [h]⟩
  obtain ⟨⟨x⟩⟩ := a
  obtain ⟨⟨y⟩⟩ := b
  simpa using h
theorem sameNow_tag {d : TypeDesc} {p q : MK} (h : (d = .string ∧ p.tag = 0 ∧ q.tag = 0) ∨ (d = .int .i64 ∧ p.tag = 1 ∧ q.tag = 1)) : Instr.sameNow d q.val p.val = some (decide (p = q)) := by
  rcases h with ⟨rfl, h1, h2⟩ | ⟨rfl, h1, h2⟩ <;> cases p <;> cases q <;> simp [MK.tag] at h1 h2
  · rename_i x y
    simp only [MK.val, Instr.sameNow, Option.some.injEq, MK.s.injEq]
    rw [ba_beq, Bool.eq_iff_iff, decide_eq_true_eq, decide_eq_true_eq]
    exact ⟨fun h => h.symm, fun h => h.symm⟩
  · rename_i x y
    simp only [MK.val, Instr.sameNow, Option.some.injEq, MK.i.injEq, if_true]
    rw [Bool.eq_iff_iff, beq_iff_eq, decide_eq_true_eq]
    exact ⟨fun h => h.symm, fun h => h.symm⟩
theorem findNow_run {d : TypeDesc} {q : MK} : ∀ (es : List MapEntry) (l : List (MK × Value)) (i : Nat), es.map (fun e => (e.key, e.val)) = l.map (fun p => (p.1.val, p.2)) → (∀ p ∈ l, (d = .string ∧ p.1.tag = 0 ∧ q.tag = 0) ∨ (d = .int .i64 ∧ p.1.tag = 1 ∧ q.tag = 1)) →
    (mapFind q l = none → Instr.findNow d q.val es i = some none) ∧ ∀ j v, mapFind q l = some v → l[j]? = some (q, v) → (∀ i p, i < j → l[i]? = some p → p.1 ≠ q) → Instr.findNow d q.val es i = some (some (i + j, v))
  | [], [], i, _, _ => ⟨fun _ => rfl, fun j v h => by simp [mapFind] at h⟩
  | [], _ :: _, i, h, _ => by simp at h
  | _ :: _, [], i, h, _ => by simp at h
  | e :: es, (a, u) :: l, i, h, ht => by
    simp only [List.map_cons, List.cons.injEq, Prod.mk.injEq] at h
    obtain ⟨⟨h1, h2⟩, h3⟩ := h
    have hs := sameNow_tag (ht (a, u) (by simp))
    obtain ⟨r1, r2⟩ := findNow_run es l (i + 1) h3 (fun p hp => ht p (by simp [hp]))
    refine ⟨fun hn => ?_, fun j v hf hj hb => ?_⟩
    · by_cases haq : a = q
      · subst haq; simp [mapFind] at hn
      · simp only [mapFind, haq, if_false] at hn
        simp [Instr.findNow, h1, hs, haq, r1 hn]
    · by_cases haq : a = q
      · subst haq
        cases j with
        | zero => simp at hj; subst hj; simp [Instr.findNow, h1, hs, h2]
        | succ j => exact absurd rfl (hb 0 (a, u) (by omega) rfl)
      · simp only [mapFind, haq, if_false] at hf
        cases j with
        | zero => simp at hj; exact absurd hj.1 haq
        | succ j =>
          have := r2 j v hf (by simpa using hj) (fun i p hi hp => hb (i + 1) p (by omega) (by simpa using hp))
          simp [Instr.findNow, h1, hs, haq, this]
          omega

/-- The kind of a map's keys. -/
def TagOk (P : Program) (kt : TypeId) (tag : Nat) : Prop := (tag = 0 ∧ P.underlying kt = some .string) ∨ (tag = 1 ∧ P.underlying kt = some (.int .i64)) ∨ (tag = 2 ∧ eqB P kt [0, 0] = true ∧ ∃ e, P.underlying kt = some (.array 2 e))
theorem tagK_spec {kt : TypeId} {i : TI} {k : Nat → Prop} (hC : CtxOk P C) (hi : C.tab kt = some i) (hp : tagK i k) : ∃ tag, k tag ∧ TagOk P kt tag := by
  obtain ⟨info, dd, z, h1, h2, h3, h4, h5, h6, _⟩ := hC.tab _ _ hi
  unfold tagK at hp
  split at hp
  · rename_i hk; rw [hk] at h6; cases dd <;> simp only [KindOk] at h6; exact ⟨0, hp, .inl ⟨rfl, h4⟩⟩
  · rename_i hk; rw [hk] at h6; cases dd <;> simp only [KindOk] at h6; subst h6; exact ⟨1, hp, .inr (.inl ⟨rfl, h4⟩)⟩
  · rename_i hk
    rw [hk] at h6
    cases dd <;> simp only [KindOk] at h6
    obtain ⟨hn, _⟩ := h6
    rw [hn] at h4
    split at hp
    · rename_i he
      exact ⟨2, hp, .inr (.inr ⟨rfl, by have := hC.eqs _ _ hi (by rw [he]; simp); rwa [he] at this, _, h4⟩)⟩
    · exact hp.elim
  · exact hp.elim
theorem keyK_spec {G Ro S} {x : AV} {v : Value} {k : MK → Prop} (hv : VR G w Ro S x v) (hp : keyK x k) : ∃ q, k q ∧ v = q.val := by
  unfold keyK at hp
  split at hp
  · exact ⟨_, hp, hv.v_inv.1⟩
  · exact ⟨_, hp, hv.v_inv.1⟩
  · obtain ⟨vs, rfl, h1, h2, h3⟩ := hv.agg_inv
    rcases vs with _ | ⟨x, _ | ⟨y, _ | ⟨_, _⟩⟩⟩ <;> simp at h1
    have e1 := (h3 0 _ rfl).v_inv.1
    have e2 := (h3 1 _ rfl).v_inv.1
    simp at e1 e2
    exact ⟨_, hp, by simp [MK.val, e1, e2]⟩
  · exact hp.elim

/-- Of keys of one kind, the search finds what 'mapFind' finds. -/
theorem run_findKeyP {kt : TypeId} {tag : Nat} (hT : TagOk P kt tag) {es : Array MapEntry} {l : List (MK × Value)} {q : MK} (he : es.toList.map (fun e => (e.key, e.val)) = l.map (fun p => (p.1.val, p.2))) (hl : ∀ p ∈ l, p.1.tag = tag) (hq : q.tag = tag) :
    (mapFind q l = none → (Instr.findKey kt q.val es.toList).run P w = .ok none w) ∧ ∀ j v, mapFind q l = some v → l[j]? = some (q, v) → (∀ i p, i < j → l[i]? = some p → p.1 ≠ q) → (Instr.findKey kt q.val es.toList).run P w = .ok (some (j, v)) w := by
  rcases hT with ⟨rfl, hu⟩ | ⟨rfl, hu⟩ | ⟨rfl, hu, e, hue⟩
  · obtain ⟨r1, r2⟩ := findNow_run (d := .string) (q := q) es.toList l 0 he (fun p hp => .inl ⟨rfl, hl p hp, hq⟩)
    exact ⟨fun h => Go.MapKept.run_findKey hu (r1 h), fun j v h1 h2 h3 => by simpa using Go.MapKept.run_findKey hu (r2 j v h1 h2 h3)⟩
  · obtain ⟨r1, r2⟩ := findNow_run (d := .int .i64) (q := q) es.toList l 0 he (fun p hp => .inr ⟨rfl, hl p hp, hq⟩)
    exact ⟨fun h => Go.MapKept.run_findKey hu (r1 h), fun j v h1 h2 h3 => by simpa using Go.MapKept.run_findKey hu (r2 j v h1 h2 h3)⟩
  · have hk : ∀ p : MK, p.tag = 2 → ∀ w, (Op.equal kt q.val p.val).run P w = .ok (decide (p = q)) w := by
      intro p hp w
      cases p <;> cases q <;> simp [MK.tag] at hp hq
      rename_i a b a' b'
      obtain ⟨e, r1, _, r2⟩ := eqAgg (P := P) (G := []) (Ro := fun _ => False) (S := fun _ => False) (w0 := w) (ks := [0, 0]) (l := [.v (.int .i64 a'), .v (.int .i64 b')]) (r := [.v (.int .i64 a), .v (.int .i64 b)]) (xs := [.int .i64 a', .int .i64 b']) (ys := [.int .i64 a, .int .i64 b])
        (K := fun e => e = ((a' == a) && ((b' == b) && true))) hu rfl rfl (fun j x hj => by
          rcases j with _ | _ | j <;> simp at hj <;> subst hj <;> exact vr_int _ _ _ _ _ _) (fun j x hj => by
          rcases j with _ | _ | j <;> simp at hj <;> subst hj <;> exact vr_int _ _ _ _ _ _) (by simp [eqCells])
      have := r2 w
      rw [r1] at this
      simp only [Op.equal, Op.maxDepth, MK.val]
      refine this.trans ?_
      congr 1
      rw [Bool.eq_iff_iff]
      simp
      exact ⟨fun h => ⟨h.1.symm, h.2.symm⟩, fun h => ⟨h.1.symm, h.2.symm⟩⟩
    have ask : ∀ (es : List MapEntry) (l : List (MK × Value)) (i : Nat), es.map (fun e => (e.key, e.val)) = l.map (fun p => (p.1.val, p.2)) → (∀ p ∈ l, p.1.tag = 2) →
        (mapFind q l = none → (Instr.findAsking kt q.val es i).run P w = .ok none w) ∧ ∀ j v, mapFind q l = some v → l[j]? = some (q, v) → (∀ i p, i < j → l[i]? = some p → p.1 ≠ q) → (Instr.findAsking kt q.val es i).run P w = .ok (some (i + j, v)) w := by
      intro es
      induction es with
      | nil =>
        intro l i h _
        cases l with
        | nil => exact ⟨fun _ => by simp [Instr.findAsking], fun j v h => by simp [mapFind] at h⟩
        | cons _ _ => simp at h
      | cons e es ih =>
        intro l i h ht
        cases l with
        | nil => simp at h
        | cons p l =>
          obtain ⟨a, u⟩ := p
          simp only [List.map_cons, List.cons.injEq, Prod.mk.injEq] at h
          obtain ⟨⟨h1, h2⟩, h3⟩ := h
          have hs := hk a (ht (a, u) (by simp)) w
          obtain ⟨r1, r2⟩ := ih l (i + 1) h3 (fun p hp => ht p (by simp [hp]))
          refine ⟨fun hn => ?_, fun j v hf hj hb => ?_⟩
          · by_cases haq : a = q
            · subst haq; simp [mapFind] at hn
            · simp only [mapFind, haq, if_false] at hn
              simp [Instr.findAsking, h1, hs, haq, r1 hn]
          · by_cases haq : a = q
            · subst haq
              cases j with
              | zero => simp at hj; subst hj; simp [Instr.findAsking, h1, hs, h2]
              | succ j => exact absurd rfl (hb 0 (a, u) (by omega) rfl)
            · simp only [mapFind, haq, if_false] at hf
              cases j with
              | zero => simp at hj; exact absurd hj.1 haq
              | succ j =>
                have := r2 j v hf (by simpa using hj) (fun i p hi hp => hb (i + 1) p (by omega) (by simpa using hp))
                simp [Instr.findAsking, h1, hs, haq, this]
                omega
    have hnow : ∀ r : Option (Nat × Value), (Instr.findAsking kt q.val es.toList).run P w = .ok r w → (Instr.findKey kt q.val es.toList).run P w = .ok r w := by
      intro r hr
      unfold Instr.findKey
      simp only [Sem.run_bind, run_underlying hue, Result.andThen_ok]
      cases hes : es.toList with
      | nil => rw [hes] at hr; simpa [Instr.findNow, Instr.findAsking] using hr
      | cons x r' =>
        rw [hes] at hr
        have : Instr.findNow (.array 2 e) q.val (x :: r') 0 = none := by simp [Instr.findNow, Instr.sameNow]
        rw [this]
        exact hr
    obtain ⟨r1, r2⟩ := ask es.toList l 0 he hl
    exact ⟨fun h => hnow _ (r1 h), fun j v h1 h2 h3 => by simpa using hnow _ (r2 j v h1 h2 h3)⟩

theorem run_checkKeyP {kt : TypeId} {tag : Nat} (hT : TagOk P kt tag) {q : MK} (hq : q.tag = tag) (b : Bool) : (Instr.checkKey b 10000 kt q.val).run P w = .ok () w := by
  rcases hT with ⟨rfl, hu⟩ | ⟨rfl, hu⟩ | ⟨rfl, he, e, hue⟩
  · cases q <;> simp [MK.tag] at hq
    exact MapKept.run_checkKey hu (by trivial) b 9999
  · cases q <;> simp [MK.tag] at hq
    exact MapKept.run_checkKey hu (by simp [MK.val, MapKept.IsKey]) b 9999
  · cases q <;> simp [MK.tag] at hq
    rename_i x y
    unfold eqB at he
    rw [hue] at he
    simp only at he
    split at he
    · rename_i hu2 hi2 _
      simp only [Bool.and_eq_true, Bool.not_eq_true', beq_iff_eq] at he
      have hb : basicB P e 0 = true := by simp [basicB, hu2]
      have hc : ∀ n, (Instr.checkKey b 9999 e (.int .i64 n)).run P w = .ok () w := fun n => MapKept.run_checkKey hu2 (by simp [MapKept.IsKey]) b 9998
      rw [show (10000 : Nat) = 9999 + 1 from rfl]
      unfold Instr.checkKey
      simp only [MK.val, Sem.run_bind, run_underlying hue, Result.andThen_ok]
      simp [Std.Legacy.Range.forIn_eq_forIn_range', Std.Legacy.Range.size, List.range', run_sizeOf' hi2, he.2, run_part_basic (P := P) (w := w) (t := e) (xs := #[.int .i64 x, .int .i64 y]) (o := 0) hb rfl, run_part_basic (P := P) (w := w) (t := e) (xs := #[.int .i64 x, .int .i64 y]) (o := 1) hb rfl, hc]
    · cases he

theorem avOf_vr {G Ro S} {v : Value} (h : v.oneA = true) : VR G w Ro S (avOf v) v := by
  unfold avOf
  split
  · rename_i cs
    simp only [Value.oneA, Array.all_eq_true'] at h
    have := VR.agg (G := G) (w := w) (Ro := Ro) (S := S) (cs.toList.map .v) cs.toList (by simp) (fun v hv => h v (by simpa using hv)) (fun j x hj => by
      rw [List.getElem?_map] at hj
      cases hq : cs.toList[j]? with
      | none => simp [hq] at hj
      | some y =>
        simp [hq] at hj
        subst hj
        rw [List.getD_eq_getElem?_getD, hq]
        exact .ir _ _ rfl (.v _ _ (h y (by have := List.mem_of_getElem? hq; simpa using this))))
    simpa using this
  · rename_i hne
    have : v.oneCell' = true := by cases v <;> first | exact absurd rfl (hne _) | exact h
    exact .ir _ _ rfl (.v _ _ this)

theorem q_lookup {ty : TypeId} {m x : Operand} {b : Bool} (hC : CtxOk P C) (ho : o.op = .lookup ty m x b) : OpQ P C o := by
  intro E D t h a w k hp ⟨G, S, F, hg, ht, hd⟩
  unfold opP at hp
  simp only [ho, evK_eq] at hp
  obtain ⟨i, hi, hpi⟩ := on_spec hp
  clear hp
  obtain ⟨info, dd, z, h1, h2, h3, h4, h5, h6, _⟩ := hC.tab _ _ hi
  have hvm := evF_spec ht m
  have hvx := evF_spec ht x
  unfold lookP at hpi
  split at hpi
  · rename_i kt et r hk hb
    rw [hb] at hvm
    rw [hk] at h6
    obtain ⟨ki, hki, hp1⟩ := on_spec hpi
    clear hpi
    obtain ⟨tag, hp2, hT⟩ := tagK_spec hC hki hp1
    obtain ⟨ei, hei, hp3⟩ := on_spec hp2
    obtain ⟨q, hp4, hq⟩ := keyK_spec hvx hp3
    obtain ⟨rt, hr, hp5⟩ := rootK_spec hp4
    clear hp1 hp2 hp3 hp4
    obtain ⟨einfo, de, ez, e1, e2, e3, e4, e5, e6, e7, e8, e9, e10, e11⟩ := hC.tab _ _ hei
    cases rt with
    | mp tag' l =>
      simp only at hp5
      split at hp5
      · rename_i ht1 ht2
        have ht1 := Nat.eq_of_beq_eq_true ht1
        have ht2 := Nat.eq_of_beq_eq_true ht2
        subst ht1
        obtain ⟨bb, g, p1, p2, p3⟩ := hvm.mapr_inv
        obtain ⟨b', es, clock, u1, u2, u3, u4, u5⟩ := hg.root r _ g hr p1
        rw [p2] at u1; cases u1
        obtain ⟨hs, hn⟩ := hp5
        have hdd : dd = .map kt et := by
          cases dd <;> simp only [KindOk] at h6
          obtain ⟨rfl, rfl⟩ := h6; rfl
        subst hdd
        have hheap : ∀ w2, Chg w w2 (fun _ => False) → w2.heap[bb]? = some (.map es clock) := fun w2 hw => by rw [hw.heap _ (Array.getElem?_eq_some_iff.1 u2).1 (fun h => h)]; exact u2
        have hf := fun w : World => run_findKeyP (P := P) (w := w) hT u3 (fun p hp => (u4 p hp).1) ht2
        have hzk := hC.zok _ _ hei
        unfold zeroOk at hzk
        rw [e1] at hzk
        simp only [e7] at hzk
        have hzero : ∀ K : AV → Prop, (mapK nilK ei.zero fun z => valK ei z K) → ∃ y, K y ∧ VR G w E.Ro S y ez := by
          intro K hK
          rw [mapK_nil] at hK
          have hz : ∀ (j : Nat) y, (ei.zero.map nilF)[j]? = some y → VR G w E.Ro S y (ez.cells.getD (0 + j) undef) := by
            intro j y hj
            rw [List.getElem?_map] at hj
            cases hij : ei.zero[j]? with
            | none => simp [hij] at hj
            | some q0 =>
              simp [hij] at hj
              subst hj
              rw [Nat.zero_add]
              rcases e10 j q0 hij with ⟨y0, rfl, r1, r2⟩ | ⟨s0, rfl, r1⟩
              · rw [r1]; exact .ir _ _ rfl (.v _ _ r2)
              · rw [r1]; exact .nils
          have h1c : ∀ j, j < ei.size → (ez.cells.getD (0 + j) undef).oneCell' = true := by
            intro j hj
            rw [Nat.zero_add]
            rcases e10 j ei.zero[j] (List.getElem?_eq_getElem (by omega)) with ⟨y0, _, r1, r2⟩ | ⟨s0, _, r1⟩
            · rw [r1]; exact r2
            · rw [r1]; rfl
          obtain ⟨y, hy, hvy⟩ := valK_spec (G := G) (w := w) (Ro := E.Ro) (S := S) (cs := ez.cells) (o := 0) (i := ei) (by simp; omega) hz h1c hK
          refine ⟨y, hy, ?_⟩
          cases hag : ei.agg with
          | true =>
            simp only [hag, if_true] at hvy
            have : segV ez.cells 0 ei.size = ez.cells.toList := by
              apply List.ext_getElem?
              intro q
              by_cases hq : q < ei.size
              · simp [segV, hq, Array.getD_eq_getD_getElem?, show q < ez.cells.size by omega]
              · rw [List.getElem?_eq_none (by rw [segV_length]; omega), List.getElem?_eq_none (by simp; omega)]
            rw [this] at hvy
            have hza : ez = .agg ez.cells := by
              rw [hag] at hzk
              cases ez <;> first | rfl | (simp at hzk)
            rw [hza]; simpa using hvy
          | false =>
            simp only [hag, Bool.false_eq_true, if_false] at hvy
            have hza : ez.cells = #[ez] := by
              rw [hag] at hzk
              cases ez <;> first | rfl | (simp at hzk)
            rw [hza] at hvy
            simpa using hvy
        rcases mapFind_spec l q with ⟨f1, f2, f3⟩ | ⟨j, v, f1, f2, f3, f4⟩
        · obtain ⟨y, hy, hvy⟩ := hzero _ (hn f1)
          cases b with
          | true =>
            refine q_val (v := .tuple #[ez, .bool false]) (fun w2 hw => ?_) hg ht hd (.tup [y, .v (.bool false)] [ez, .bool false] rfl (fun j x hj => ?_)) hy
            · simp [execOp, ho, p3, hq, Instr.lookup, run_underlying h4, MapKept.run_getObj_map (hheap w2 hw), run_checkKeyP (P := P) (w := w2) hT ht2, (hf w2).1 f1, run_zero e1 e7]
            · rcases j with _ | _ | j <;> simp at hj <;> subst hj
              · exact hvy
              · exact vr_bool _ _ _ _ _
          | false =>
            refine q_val (v := ez) (fun w2 hw => ?_) hg ht hd hvy hy
            simp [execOp, ho, p3, hq, Instr.lookup, run_underlying h4, MapKept.run_getObj_map (hheap w2 hw), run_checkKeyP (P := P) (w := w2) hT ht2, (hf w2).1 f1, run_zero e1 e7]
        · have hy := hs v f1
          have hv1 := avOf_vr (G := G) (w := w) (Ro := E.Ro) (S := S) (u4 _ (List.mem_of_getElem? f2)).2
          cases b with
          | true =>
            refine q_val (v := .tuple #[v, .bool true]) (fun w2 hw => ?_) hg ht hd (.tup [avOf v, .v (.bool true)] [v, .bool true] rfl (fun j x hj => ?_)) hy
            · simp [execOp, ho, p3, hq, Instr.lookup, run_underlying h4, MapKept.run_getObj_map (hheap w2 hw), run_checkKeyP (P := P) (w := w2) hT ht2, (hf w2).2 j v f1 f2 f3]
            · rcases j with _ | _ | j <;> simp at hj <;> subst hj
              · exact hv1
              · exact vr_bool _ _ _ _ _
          | false =>
            refine q_val (v := v) (fun w2 hw => ?_) hg ht hd hv1 hy
            simp [execOp, ho, p3, hq, Instr.lookup, run_underlying h4, MapKept.run_getObj_map (hheap w2 hw), run_checkKeyP (P := P) (w := w2) hT ht2, (hf w2).2 j v f1 f2 f3]
      · exact hp5.elim
    | _ => exact hp5.elim
  · exact hpi.elim

/-- A root of its own block is given a new content. -/
theorem Good.reroot {G : List Gh} {S : BS} {F : Nat → BS} (hg : Good E G h w S F) {r : Nat} {g : Gh} {rt rt' : Root} (hr : h[r]? = some rt) (hgr : G[r]? = some g) {w' : World} (c : Chg w w' (F r)) (hrt : RootR G w' E.Ro S rt' g (F r)) :
    ∃ F', Good E G (h.set r rt') w' S F' ∧ Ext E G w S G w' S :=
  ⟨_, hg.setRoot (List.getElem?_eq_some_iff.1 hr).1 hgr c hrt (fun _ h => h), hg.ext_chg c (fun _ _ h => h)⟩

theorem unV_spec : ∀ (l : List AV) (k : List Value → Prop), unV l k → ∃ vs, k vs ∧ l = vs.map .v
  | [], k, h => ⟨[], h, rfl⟩
  | x :: l, k, h => by
    cases x <;> simp only [unV] at h
    obtain ⟨vs, h1, rfl⟩ := unV_spec l _ h
    exact ⟨_, h1, rfl⟩
theorem valV_spec {G Ro S} {x : AV} {v : Value} {k : Value → Prop} (hv : VR G w Ro S x v) (hp : valV x k) : k v ∧ v.oneA = true := by
  unfold valV at hp
  split at hp
  · obtain ⟨rfl, h⟩ := hv.v_inv
    refine ⟨hp, ?_⟩
    clear hv hp
    cases v <;> first | exact h | (simp [Value.oneCell'] at h)
  · rename_i l
    obtain ⟨us, h1, rfl⟩ := unV_spec _ _ hp
    obtain ⟨vs, rfl, h2, h3, h4⟩ := hv.agg_inv
    have : vs = us := by
      apply List.ext_getElem?
      intro j
      by_cases hj : j < us.length
      · have := (h4 j (.v us[j]) (by simp [hj])).v_inv.1
        simp only [List.length_map] at h2
        rw [List.getD_eq_getElem?_getD, List.getElem?_eq_getElem (by omega)] at this
        rw [List.getElem?_eq_getElem (by omega), List.getElem?_eq_getElem hj]
        simpa using this
      · simp only [List.length_map] at h2
        rw [List.getElem?_eq_none (by omega), List.getElem?_eq_none (by omega)]
    subst this
    exact ⟨h1, by simp only [Value.oneA, Array.all_eq_true']; exact fun x hx => h3 x (by simpa using hx)⟩
  · exact hp.elim

theorem s_mapUpd {ty : TypeId} {m x y : Operand} (hC : CtxOk P C) (ho : o.op = .mapUpdate ty m x y ∨ o.op = .insert ty m x y) : OpS P C o := by
  intro E D t h a w k next Q hp ⟨G, S, F, hg, ht, hd⟩ hpan hc
  unfold opP at hp
  have hp : on (C.tab ty) fun i => mapUpdP C i (evF t m) (evF t x) (evF t y) h fun h => putK t o.dst .top fun t => k t h := by
    rcases ho with ho | ho <;> simpa only [ho, evK_eq] using hp
  obtain ⟨i, hi, hpi⟩ := on_spec hp
  clear hp
  obtain ⟨info, dd, z, h1, h2, h3, h4, h5, h6, _⟩ := hC.tab _ _ hi
  have hvm := evF_spec ht m
  have hvx := evF_spec ht x
  have hvy := evF_spec ht y
  unfold mapUpdP at hpi
  split at hpi
  · rename_i kt et r hk hb
    rw [hb] at hvm
    rw [hk] at h6
    obtain ⟨ki, hki, hp1⟩ := on_spec hpi
    clear hpi
    obtain ⟨tag, hp2, hT⟩ := tagK_spec hC hki hp1
    obtain ⟨q, hp3, hq⟩ := keyK_spec hvx hp2
    obtain ⟨hp4, hone⟩ := valV_spec hvy hp3
    obtain ⟨rt, hr, hp5⟩ := rootK_spec hp4
    clear hp1 hp2 hp3 hp4
    cases rt with
    | mp tag' l =>
      simp only at hp5
      split at hp5
      · rename_i ht1 ht2
        have ht1 := Nat.eq_of_beq_eq_true ht1
        have ht2 := Nat.eq_of_beq_eq_true ht2
        subst ht1
        rw [setK_eq] at hp5
        obtain ⟨bb, g, p1, p2, p3⟩ := hvm.mapr_inv
        obtain ⟨b', es, clock, u1, u2, u3, u4, u5⟩ := hg.root r _ g hr p1
        rw [p2] at u1; cases u1
        have hdd : dd = .map kt et := by
          cases dd <;> simp only [KindOk] at h6
          obtain ⟨rfl, rfl⟩ := h6; rfl
        subst hdd
        have hf := run_findKeyP (P := P) (w := w) hT u3 (fun p hp => (u4 p hp).1) ht2
        have hck := run_checkKeyP (P := P) (w := w) hT ht2 false
        have hsame : Instr.sameBits 10000 q.val q.val = true := by
          cases q with
          | s b => simp [MK.val, Instr.sameBits, ba_beq]
          | i n => simp [MK.val, Instr.sameBits]
          | p a b => rw [show (10000 : Nat) = 9998 + 1 + 1 from rfl]; simp [MK.val, Instr.sameBits]
        have hmem : ∀ p ∈ mapSet q (a.eval y) l, p.1.tag = tag ∧ p.2.oneA = true := by
          intro p hp
          rcases mapFind_spec l q with ⟨_, _, f3⟩ | ⟨j, v, _, _, _, f4⟩
          · rw [f3] at hp
            rcases List.mem_append.1 hp with hp | hp
            · exact u4 p hp
            · simp at hp; subst hp; exact ⟨ht2, hone⟩
          · rw [f4] at hp
            rcases List.mem_or_eq_of_mem_set hp with hp | rfl
            · exact u4 p hp
            · exact ⟨ht2, hone⟩
        have fin : ∀ (es' : Array MapEntry) (clock' : Nat), (Instr.mapUpdate ty (.map (some bb)) q.val (a.eval y)).run P w = .ok () { w with heap := w.heap.setIfInBounds bb (.map es' clock') } → es'.toList.map (fun e => (e.key, e.val)) = (mapSet q (a.eval y) l).map (fun p => (p.1.val, p.2)) → o.wp P a w next Q := by
          intro es' clock' hrun hes
          have hlt := (Array.getElem?_eq_some_iff.1 u2).1
          have hchg : Chg w { w with heap := w.heap.setIfInBounds bb (.map es' clock') } (F r) := ⟨rfl, rfl, rfl, by simp, fun k hk hkf => by
            have hne : bb ≠ k := fun e => hkf ((u5 k).2 e.symm)
            simp [hne]⟩
          obtain ⟨F', hg', he'⟩ := hg.reroot (rt' := .mp tag (mapSet q (a.eval y) l)) hr p1 hchg ⟨bb, es', clock', p2, by simp [hlt], hes, hmem, u5⟩
          refine wp_skp (w' := { w with heap := w.heap.setIfInBounds bb (.map es' clock') }) ?_ (rel_put hg' (ht.ext he') hd (.top _) hp5 hc)
          rcases ho with ho | ho <;> simp [execOp, ho, p3, hq, hrun]
        rcases mapFind_spec l q with ⟨f1, f2, f3⟩ | ⟨j, v, f1, f2, f3, f4⟩
        · refine fin (es.push { key := q.val, val := a.eval y, born := clock }) (clock + 1) ?_ ?_
          · simp [Instr.mapUpdate, run_underlying h4, MapKept.run_getObj_map u2, hck, hf.1 f1, MapKept.run_setObj_map _ u2]
          · rw [f3]; simp [u3]
        · have hje : es.toList[j]? = some (es.toList[j]'(by
            have := (List.getElem?_eq_some_iff.1 f2).1
            have h2 := congrArg List.length u3
            simp at h2; simpa using (by omega : j < es.size))) := List.getElem?_eq_getElem _
          have hkey : (es.toList[j]?).map (fun e => (e.key, e.val)) = some (q.val, v) := by
            rw [← List.getElem?_map, u3, List.getElem?_map, f2]; rfl
          rw [hje] at hkey
          simp only [Option.map_some, Option.some.injEq, Prod.mk.injEq] at hkey
          refine fin (es.modify j fun e => { e with key := q.val, val := a.eval y }) clock ?_ ?_
          · have hk2 : ((es[j]?).map (·.key)).getD q.val = q.val := by
              rw [← Array.getElem?_toList, hje]; exact hkey.1
            simp [Instr.mapUpdate, run_underlying h4, MapKept.run_getObj_map u2, hck, hf.2 j v f1 f2 f3, hk2, Instr.keyThatStays, hsame, MapKept.run_setObj_map _ u2]
          · rw [f4]
            apply List.ext_getElem?
            intro i
            have hi3 := congrArg (fun l => l[i]?) u3
            simp only [List.getElem?_map, Array.getElem?_toList] at hi3
            simp only [List.getElem?_map, Array.getElem?_toList, Array.getElem?_modify, List.getElem?_set]
            by_cases hij : j = i
            · subst hij
              have hjl := (List.getElem?_eq_some_iff.1 f2).1
              rw [← Array.getElem?_toList, hje]
              simp [hjl]
            · simp [hij, hi3]
      · exact hp5.elim
    | _ => exact hp5.elim
  · exact hpi.elim

theorem s_makeMap {ty : TypeId} {r : Option Operand} (hC : CtxOk P C) (ho : o.op = .makeMap ty r) : OpS P C o := by
  intro E D t h a w k next Q hp ⟨G, S, F, hg, ht, hd⟩ hpan hc
  unfold opP at hp
  simp only [ho] at hp
  obtain ⟨i, hi, hpi⟩ := on_spec hp
  clear hp
  split at hpi
  · rename_i kt et hk
    obtain ⟨ki, hki, hp1⟩ := on_spec hpi
    obtain ⟨tag, hp2, hT⟩ := tagK_spec hC hki hp1
    have hp3 := newK_spec hp2
    have hchg := Chg.alloc w (.map #[] 0) (fun _ => False)
    have hg3 := hg.chg hchg
    have hap : Apart E (w.alloc (.map #[] 0)) S F (fun k => k = w.heap.size) := ⟨fun k hk => by subst hk; exact ⟨by simp, .inr hg.size, fun hs => by have := hg.sb _ hs; omega⟩, fun r k hr hk => by subst hk; have := (hg.own r _ hr).1; omega⟩
    obtain ⟨F', hg4, hgl⟩ := hg3.addApart hap ⟨some w.heap.size, 0, 0⟩ (.mp tag []) ⟨w.heap.size, #[], 0, rfl, heap_new w _, rfl, by simp, fun _ => Iff.rfl⟩
    refine wp_val (v := .map (some w.heap.size)) (w' := w.alloc (.map #[] 0)) ?_ (rel_put hg4 (ht.ext (hg.ext_none hchg (pre_append G _))) hd (.mapr _ _ _ hgl rfl) hp3 hc)
    simp [execOp, ho, Instr.makeMap]
  · exact hpi.elim

theorem s_clear {c : Call} (hC : CtxOk P C) (ho : o.op = .call c) (hcal : c.callee = .builtin .clear) : OpS P C o := by
  intro E D t h a w k next Q hp ⟨G, S, F, hg, ht, hd⟩ hpan hc
  unfold opP at hp
  simp only [ho, mapK_ev, hcal] at hp
  obtain ⟨T, hT, hp⟩ := on_spec hp
  obtain ⟨ti, hti, hp⟩ := on_spec hp
  obtain ⟨info, d, z0, h1, h2, h3, h4, h5, h6, _⟩ := hC.tab _ _ hti
  split at hp
  · rename_i e es xa hk hl
    obtain ⟨ei, hei, hpa⟩ := on_spec hp
    obtain ⟨ie, de, z, b1, b2, b3, b4, b5, b6, b7, b8, b9, b10, b11⟩ := hC.tab _ _ hei
    rw [hk] at h6
    cases d <;> simp only [KindOk] at h6
    rename_i elem
    obtain ⟨he, ie', c1, c2⟩ := h6
    subst he
    rw [b1] at c1; cases c1
    obtain ⟨pa, hpab⟩ : ∃ pa, c.args.toList = [pa] := by
      have : (c.args.toList.map (evF t)).length = 1 := by rw [hl]; rfl
      simp at this
      rcases hq : c.args.toList with _ | ⟨pa, _ | ⟨_, _⟩⟩ <;> rw [← Array.length_toList] at this <;> rw [hq] at this <;> simp at this
      exact ⟨pa, rfl⟩
    rw [hpab] at hl
    simp only [List.map_cons, List.map_nil] at hl
    have hva := evF_spec ht pa
    rw [(List.cons.inj hl).1] at hva
    have hargsA : c.args = #[pa] := by apply Array.ext'; simp [hpab]
    clear hp
    unfold clearP at hpa
    split at hpa
    · rename_i r off n zz
      obtain ⟨rt, hr, hpb⟩ := rootK_spec hpa
      clear hpa
      cases rt with
      | lst s l =>
        simp only at hpb
        split at hpb
        · rename_i hs
          have hs : s = es := by simpa using hs
          subst hs
          obtain ⟨hon, hpd⟩ := hpb
          rw [setK_eq] at hpd
          have hes : s = ei.size := by omega
          obtain ⟨g, ad, cp, p1, p2, p3, p4, p5⟩ := hva.slc_inv
          obtain ⟨q1, q2, q3⟩ := hg.root r _ g hr p1
          have fin : ∀ w', (Builtin.clear_ c.argTypes o.type #[a.eval pa]).run P w = .ok (.tuple #[]) w' → (∃ F', Good E G (h.set r (.lst s (l.take off ++ List.replicate n ei.zero ++ l.drop (off + n)))) w' S F' ∧ Ext E G w S G w' S) → o.wp P a w next Q := by
            rintro w' hrun ⟨F', hg', he⟩
            refine wp_val (v := .tuple #[]) (w' := w') ?_ (rel_put hg' (ht.ext he) hd (.tup [] [] rfl (by simp)) hpd hc)
            simp [execOp, ho, resolve, hcal, invoke, builtin, hargsA, hrun]
          by_cases h0 : n = 0
          · subst h0
            refine fin w ?_ ⟨F, ?_, Ext.refl _ _ _ _⟩
            · rw [p2]
              cases ad with
              | none => simp [Builtin.clear_, hT, run_underlying h4]
              | some ad => simp [Builtin.clear_, hT, run_underlying h4]
            · rw [show l.take off ++ List.replicate 0 ei.zero ++ l.drop (off + 0) = l by simp, set_self hr]
              exact hg
          · rcases p5 with p5 | ⟨b, p5, p6, p7⟩
            · omega
            subst p6
            have hz : ∀ x ∈ List.replicate n ei.zero, x.length = s := fun x hx => by rw [List.eq_of_mem_replicate hx]; omega
            obtain ⟨l1, l2⟩ := lst_lay' (o := off) q2 hz (by simpa using hon)
            rw [List.length_replicate] at l1
            have hfl := flat_length s _ hz
            rw [List.length_replicate] at hfl
            obtain ⟨vs, hvs⟩ : ∃ vs, vs = (Builtin.zeroCells z.cells n).toList := ⟨_, rfl⟩
            have hvl : vs.length = n * s := by rw [hvs, Array.length_toList, size_zeroCells]; congr 1; omega
            have hcs : CsR G w E.Ro S (List.replicate n ei.zero).flatten vs (fun _ => False) := CsR.of0 (by omega) (fun j y hj => by
              have hj1 := (List.getElem?_eq_some_iff.1 hj).1
              rw [hfl] at hj1
              have hs0 : 0 < s := by omega
              have hdiv : j / s < n := by rw [Nat.div_lt_iff_lt_mul hs0]; omega
              have hmod := Nat.mod_lt j hs0
              have h1 := flat_get s _ hz (j / s) ei.zero (by simp [hdiv]) (j % s) hmod
              rw [Nat.div_add_mod'] at h1
              have hval : vs.getD j undef = z.cells.getD (j % s) undef := by
                rw [hvs, List.getD_eq_getElem?_getD, Array.getElem?_toList]
                have hmz : j % z.cells.size < z.cells.size := Nat.mod_lt _ (by omega)
                have hjz : j < n * z.cells.size := by rw [b8]; rw [← hes]; exact hj1
                simp only [Builtin.zeroCells, Array.getElem?_map, Array.getElem?_range, hjz, if_true, Option.map_some, Option.getD_some]
                rw [getElem!_pos z.cells _ hmz, Array.getD_eq_getD_getElem?, show j % s = j % z.cells.size by rw [b8, hes]]
                simp [hmz]
              rw [hval]
              exact (b10 _ _ (h1.symm.trans hj)).c0)
            obtain ⟨F', b', ca, T2, r1, r2, r3, r4, r5⟩ := write_core hg hr p1 (show Flat (.lst s l) l.flatten from ⟨rfl, q2⟩) l2 (by
              rw [flat_length s _ q2]
              exact Nat.mul_pos (by omega) (by omega)) (show SameK (.lst s l) (.lst s _) from rfl) l1 hcs apart0
            rw [p5] at r1; cases r1
            refine fin _ ?_ ⟨F', r4, r5⟩
            have hst := run_storeCells_at P b (off * s) T2 vs 0 ca w r2 (by rw [hvl]; omega) hcs.ones
            simp only [Nat.add_zero] at hst
            rw [q1] at p2
            rw [p2]
            cases n with
            | zero => exact absurd rfl h0
            | succ n => simp [Builtin.clear_, hT, run_underlying h4, run_zero b1 b7, ← hvs, hst, spl]
        · exact hpb.elim
      | _ => exact hpb.elim
    · exact hpa.elim
  · exact hp.elim
end

end Go.Proofs.YtbfjkjdbdejnmaaGreat.Ab

/- What is known, put into order: the roots that are reached are taken out, their cells folded; values are named anew. No condition. -/
namespace Go.Proofs.YtbfjkjdbdejnmaaGreat.Ab
set_option linter.unusedVariables false
set_option linter.unusedSimpArgs false

/-- A root that asks no root; 'st': nor memory that is not for ever as it is. -/
def RootC (st : Bool) (w : World) (Ro S : BS) (rt : Root) (g : Gh) (F : BS) : Prop := (∀ G2, RootR G2 w Ro S rt g F) ∧ (st = true → ∀ G2 Ro2, RootR G2 w Ro2 S rt g F)

theorem BlkR.map {G G2 : List Gh} {w : World} {Ro Ro2 S : BS} {fl b cs F} (h : BlkR G w Ro S fl b cs F) (hm : ∀ x ∈ fl, ∀ v F, CR G w Ro S x v F → CR G2 w Ro2 S x v F) : BlkR G2 w Ro2 S fl b cs F := by
  obtain ⟨cv, Fc, h1, h2, h3, h4, h5⟩ := h
  exact ⟨cv, Fc, h1, fun j a hj => hm a (List.mem_of_getElem? hj) _ _ (h2 j a hj), h3, h4, h5⟩

theorem rootOk_spec {G : List Gh} {w : World} {Ro S : BS} {st : Bool} {rt : Root} {g : Gh} {F : BS} {k : Prop} (h : RootR G w Ro S rt g F) (hp : rootOk st rt k) : k ∧ RootC st w Ro S rt g F := by
  unfold rootOk at hp
  cases rt with
  | box cells =>
    obtain ⟨b, cs, T, h1, h2, h3, h4⟩ := h
    cases st with
    | true =>
      simp only at hp
      split at hp
      · rename_i hs
        have hs := List.all_eq_true.1 hs
        exact ⟨hp, fun G2 => ⟨b, cs, T, h1, h2, h3, h4.map fun x hx v F hc => hc.shut (hs x hx)⟩, fun _ G2 Ro2 => ⟨b, cs, T, h1, h2, h3, h4.map fun x hx v F hc => hc.shut (hs x hx)⟩⟩
      · exact hp.elim
    | false =>
      simp only at hp
      split at hp
      · rename_i hs
        have hs := List.all_eq_true.1 hs
        exact ⟨hp, fun G2 => ⟨b, cs, T, h1, h2, h3, h4.map fun x hx v F hc => hc.wk (fun _ h => h) (hs x hx)⟩, fun h => by cases h⟩
      · exact hp.elim
  | lst s l =>
    obtain ⟨hs, hk⟩ := hp
    obtain ⟨h1, h2, h3⟩ := h
    have key : ∀ G2 Ro2, RootR G2 w Ro2 S (.lst s l) g F := fun G2 Ro2 => ⟨h1, h2, h3.imp id fun ⟨b, cs, T, q1, q2, q3, q4, q5⟩ => ⟨b, cs, T, q1, q2, q3, q4, q5.map fun x hx v F hc => by
      obtain ⟨e, he, hx⟩ := List.mem_flatten.1 hx
      exact hc.shut (shutC_of_shutF (hs e he x hx))⟩⟩
    exact ⟨hk, fun G2 => key G2 Ro, fun _ => key⟩
  | mp tag l => exact ⟨hp, fun _ => h, fun _ _ _ => h⟩
  | dead => exact ⟨hp, fun _ => h, fun _ _ _ => h⟩

theorem RootC.ext {st : Bool} {E : Env} {G : List Gh} {w w' : World} {S S' : BS} {rt g F} (h : RootC st w E.Ro S rt g F) (hs : ∀ k, S k → S' k) (hss : ∀ k, S k → w'.heap[k]? = w.heap[k]?) (hro : ∀ k, E.Ro k → w'.heap[k]? = w.heap[k]?) (hF : ∀ k, F k → w'.heap[k]? = w.heap[k]?) : RootC st w' E.Ro S' rt g F := by
  refine ⟨fun G2 => (h.1 G2).ext (E := E) ⟨fun _ _ h => h, hs, hss, hro⟩ hF, fun hst G2 Ro2 => ?_⟩
  have := (h.2 hst G2 (fun _ => False)).ext (E := ⟨E.w0, E.O, E.S0, fun _ => False, E.ws, E.G0⟩) (G' := G2) ⟨fun _ _ h => h, hs, hss, fun _ h => h.elim⟩ hF
  cases rt with
  | box cells =>
    obtain ⟨b, cs, T, h1, h2, h3, h4⟩ := this
    exact ⟨b, cs, T, h1, h2, h3, h4.map fun x hx v F hc => hc.ror⟩
  | lst s l =>
    obtain ⟨h1, h2, h3⟩ := this
    exact ⟨h1, h2, h3.imp id fun ⟨b, cs, T, q1, q2, q3, q4, q5⟩ => ⟨b, cs, T, q1, q2, q3, q4, q5.map fun x hx v F hc => hc.ror⟩⟩
  | mp tag l => exact this
  | dead => exact this

/-- Roots that are taken out, in their order. -/
structure Tk (E : Env) (st : Bool) (G : List Gh) (w : World) (S : BS) (F : Nat → BS) (ρ : List Nat) (hs : HP) (Ft : Nat → BS) : Prop where
  len : ρ.length = hs.length
  root : ∀ (j r : Nat) rt, ρ[j]? = some r → hs[j]? = some rt → ∃ g, G[r]? = some g ∧ RootC st w E.Ro S rt g (Ft j)
  dis : ∀ i j k, Ft i k → Ft j k → i = j
  out : ∀ j k, hs.length ≤ j → ¬ Ft j k
  ap : ∀ j, Apart E w S F (Ft j)
theorem Tk.nil {E st G w S F} : Tk E st G w S F [] [] (fun _ _ => False) :=
  ⟨rfl, by simp, fun _ _ _ h => h.elim, fun _ _ _ h => h, fun _ => ⟨fun _ h => h.elim, fun _ _ _ h => h⟩⟩
theorem Tk.step {E st G w h S F ρ hs Ft h' S' F'} (T : Tk E st G w S F ρ hs Ft) (a : Stp E G w h S F h' S' F') : Tk E st G w S' F' ρ hs Ft :=
  ⟨T.len, fun j r rt h1 h2 => by obtain ⟨g, q1, q2⟩ := T.root j r rt h1 h2; exact ⟨g, q1, q2.ext (G := G) a.s (fun _ _ => rfl) (fun _ _ => rfl) (fun _ _ => rfl)⟩, T.dis, T.out, fun j => a.apart (T.ap j)⟩

/-- A list of ghosts that has, at the roots' new places, theirs. -/
def Mt (ρ : List Nat) (G G2 : List Gh) : Prop := ∀ (j r : Nat) g, ρ[j]? = some r → G[r]? = some g → G2[j]? = some g
theorem Mt.pre {ρ ρ' : List Nat} {G G2} (h : Mt (ρ ++ ρ') G G2) : Mt ρ G G2 := fun j r g h1 h2 => h j r g (by rw [List.getElem?_append_left (List.getElem?_eq_some_iff.1 h1).1]; exact h1) h2

theorem snocK_eq (ρ : List Nat) (r : Nat) (k : List Nat → Prop) : snocK ρ r k = k (ρ ++ [r]) := by
  induction ρ generalizing k with
  | nil => rfl
  | cons a ρ ih => simp only [snocK, ih, List.cons_append]
theorem idxK_aux (r : Nat) : ∀ (ρ ns : List Nat) (k : Nat → Prop) (no : Prop), idxK r ρ ns k no → (∃ i j : Nat, ρ[i]? = some r ∧ ns[i]? = some j ∧ k j) ∨ no
  | [], _, k, no, h => .inr h
  | a :: l, [], k, no, h => by simp [idxK] at h
  | a :: l, n :: ns, k, no, h => by
    simp only [idxK] at h
    split at h
    · rename_i hb
      exact .inl ⟨0, n, by simpa using Nat.eq_of_beq_eq_true hb, rfl, h⟩
    · rcases idxK_aux r l ns k no h with ⟨i, j, h1, h2, h3⟩ | h
      · exact .inl ⟨i + 1, j, by simpa using h1, by simpa using h2, h3⟩
      · exact .inr h
theorem idxK_spec {r : Nat} {ρ : List Nat} {k : Nat → Prop} {no : Prop} (h : idxK r ρ nums k no) : (∃ j : Nat, ρ[j]? = some r ∧ k j) ∨ no := by
  rcases idxK_aux r ρ nums k no h with ⟨i, j, h1, h2, h3⟩ | h
  · rw [nums_get _ _ h2] at h3; exact .inl ⟨i, h1, h3⟩
  · exact .inr h

section
variable {E : Env} {G : List Gh} {w : World} {st : Bool}

theorem foldRt_spec {h S F Fr} (hg : Good E G h w S F) {rt : Root} {g : Gh} (hr : RootR G w E.Ro S rt g Fr) (ha : Apart E w S F Fr) {k : Root → HP → Prop} (hp : foldRt rt h k) :
    ∃ rt' h' S' F' Fy, k rt' h' ∧ Stp E G w h S F h' S' F' ∧ RootR G w E.Ro S' rt' g Fy ∧ Apart E w S' F' Fy ∧ ∀ k, Fy k → Fr k ∨ ∃ r, F r k := by
  have same : ∀ rt, RootR G w E.Ro S rt g Fr → k rt h → ∃ rt' h' S' F' Fy, k rt' h' ∧ Stp E G w h S F h' S' F' ∧ RootR G w E.Ro S' rt' g Fy ∧ Apart E w S' F' Fy ∧ ∀ k, Fy k → Fr k ∨ ∃ r, F r k := fun rt h1 h2 => ⟨rt, h, S, F, Fr, h2, .refl hg, h1, ha, fun _ h => .inl h⟩
  cases rt with
  | box cells =>
    obtain ⟨b, cs, T, h1, h2, h3, h4⟩ := hr
    obtain ⟨F0, q1, q2, q3⟩ := blk_csR h4
    obtain ⟨l', h', S', F', Fy, r1, r2, r3, r4, r5⟩ := foldCs_specG cells _ hg q1 (ha.sub fun k hk => (q2 k).2 (.inr hk)) hp
    have hFb : Fr b := (q2 b).2 (.inl rfl)
    have hyb : ¬ Fy b := fun hk => by
      rcases r5 b hk with h | ⟨r, h⟩
      · exact q3 h
      · exact ha.2 r b h hFb
    have hl : l'.length = cells.length := by have := r3.choose_spec.1; rw [segV_length] at this; exact this
    have hblk := r3.blk (b := b) (cs := cs) (fun j hj => by
      have hjs : j < cs.size := by omega
      simp [segV, show j < cells.length by omega, Array.getD_eq_getD_getElem?, hjs]) hyb
    have ha2 := r2.apart ha
    refine ⟨.box l', h', S', F', _, r1, r2, ⟨b, cs, T, h1, h2, by omega, hblk⟩, ⟨fun k hk => ?_, fun r k hr hk => ?_⟩, fun k hk => ?_⟩
    · rcases hk with rfl | hk
      · exact ha2.1 _ hFb
      · exact r4.1 k hk
    · rcases hk with rfl | hk
      · exact ha2.2 r _ hr hFb
      · exact r4.2 r k hr hk
    · rcases hk with rfl | hk
      · exact .inl hFb
      · exact (r5 k hk).imp (fun h => (q2 k).2 (.inr h)) id
  | lst s l => exact same _ hr hp
  | mp t l => exact same _ hr hp
  | dead => exact same _ hr hp

theorem grabK_spec {h S F ρ hs Ft} (hg : Good E G h w S F) (T : Tk E st G w S F ρ hs Ft) {r : Nat} {rt : Root} (hr : h[r]? = some rt) {k : Nat → List Nat → HP → HP → Prop} (hp : grabK st r rt ρ hs h k) :
    ∃ rt' h' S' F' Ft', k ρ.length (ρ ++ [r]) (hs ++ [rt']) h' ∧ Stp E G w h S F h' S' F' ∧ Tk E st G w S' F' (ρ ++ [r]) (hs ++ [rt']) Ft' := by
  unfold grabK at hp
  rw [setK_eq] at hp
  obtain ⟨g, hgr, hroot, st1, ap1⟩ := hg.kill hr
  obtain ⟨rt', h', S', F', Fy, hp2, st2, hrt, ap2, hFy⟩ := foldRt_spec st1.good hroot ap1 hp
  obtain ⟨hp3, hC⟩ := rootOk_spec hrt hp2
  have hp4 := newK_spec hp3
  rw [snocK_eq] at hp4
  have T2 := (T.step st1).step st2
  have hl : hs.length = ρ.length := T.len.symm
  have hdis : ∀ j k, Ft j k → ¬ Fy k := by
    intro j k hj hy
    rcases hFy k hy with h | ⟨i, h⟩
    · exact (T.ap j).2 r k h hj
    · exact (T.ap j).2 i k (st1.sub i k h) hj
  refine ⟨rt', h', S', F', fun j => if j = hs.length then Fy else Ft j, by rw [← hl]; exact hp4, st1.trans st2, ?_⟩
  constructor
  · simp [hl]
  · intro j r' rt'' h1 h2
    by_cases hj : j = hs.length
    · subst hj
      rw [List.getElem?_append_right (by omega)] at h1
      rw [List.getElem?_append_right (Nat.le_refl _)] at h2
      simp [hl] at h1 h2
      subst h1; subst h2
      exact ⟨g, hgr, by simpa using hC⟩
    · have hlt : j < hs.length := by have := (List.getElem?_eq_some_iff.1 h2).1; simp at this; omega
      rw [List.getElem?_append_left (by omega)] at h1 h2
      simp only [hj, if_false]
      exact T2.root j r' rt'' h1 h2
  · intro i j k hi hj
    by_cases h1 : i = hs.length <;> by_cases h2 : j = hs.length <;> simp only [h1, h2, if_true, if_false] at hi hj
    · omega
    · exact absurd hi (hdis j k hj)
    · exact absurd hj (hdis i k hi)
    · exact T2.dis i j k hi hj
  · intro j k hj
    simp at hj
    simp only [show ¬ j = hs.length by omega, if_false]
    exact T2.out j k (by omega)
  · intro j
    by_cases hj : j = hs.length
    · simp only [hj, if_true]; exact ap2
    · simp only [hj, if_false]; exact T2.ap j

/-- What putting a value into order gives. -/
def CanS (E : Env) (G : List Gh) (w : World) (st : Bool) (f : AV → List Nat → HP → HP → CK → Prop) : Prop :=
  ∀ {x : AV} {v : Value} {ρ : List Nat} {hs h : HP} {S : BS} {F Ft : Nat → BS} {k : CK}, Good E G h w S F → Tk E st G w S F ρ hs Ft → VR G w E.Ro S x v → f x ρ hs h k →
    ∃ y ρ' hs' h' S' F' Ft', k y (ρ ++ ρ') hs' h' ∧ Stp E G w h S F h' S' F' ∧ Tk E st G w S' F' (ρ ++ ρ') hs' Ft' ∧ ∀ G2, Mt (ρ ++ ρ') G G2 → VR G2 w E.Ro S' y v ∧ (st = true → ∀ Ro2, VR G2 w Ro2 S' y v)

theorem refK_spec {ρ : List Nat} {hs h : HP} {S : BS} {F Ft : Nat → BS} {r : Nat} {k : Nat → List Nat → HP → HP → Prop} {no : Prop} (hg : Good E G h w S F) (T : Tk E st G w S F ρ hs Ft) (hp : refK st r ρ hs h k no) :
    no ∨ ∃ j ρ' hs' h' S' F' Ft', k j (ρ ++ ρ') hs' h' ∧ Stp E G w h S F h' S' F' ∧ Tk E st G w S' F' (ρ ++ ρ') hs' Ft' ∧ (ρ ++ ρ')[j]? = some r := by
  rcases idxK_spec hp with ⟨j, h1, h2⟩ | hp
  · exact .inr ⟨j, [], hs, h, S, F, Ft, by simpa using h2, .refl hg, by simpa using T, by simpa using h1⟩
  · obtain ⟨rt, hr, hp2⟩ := rootK_spec hp
    have go : grabK st r rt ρ hs h k → no ∨ ∃ j ρ' hs' h' S' F' Ft', k j (ρ ++ ρ') hs' h' ∧ Stp E G w h S F h' S' F' ∧ Tk E st G w S' F' (ρ ++ ρ') hs' Ft' ∧ (ρ ++ ρ')[j]? = some r := fun hp => by
      obtain ⟨rt', h', S', F', Ft', q1, q2, q3⟩ := grabK_spec hg T hr hp
      exact .inr ⟨ρ.length, [r], _, h', S', F', Ft', q1, q2, q3, by simp⟩
    cases rt with
    | dead => exact .inl hp2
    | box l => exact go hp2
    | lst s l => exact go hp2
    | mp t l => exact go hp2

theorem can0 : CanS E G w st (canV0 st) := by
  intro x v ρ hs h S F Ft k hg T hv hp
  have stay : ∀ y, k y ρ hs h → (∀ G2, VR G2 w E.Ro S y v) → (st = true → ∀ G2 Ro2, VR G2 w Ro2 S y v) → ∃ y ρ' hs' h' S' F' Ft', k y (ρ ++ ρ') hs' h' ∧ Stp E G w h S F h' S' F' ∧ Tk E st G w S' F' (ρ ++ ρ') hs' Ft' ∧ ∀ G2, Mt (ρ ++ ρ') G G2 → VR G2 w E.Ro S' y v ∧ (st = true → ∀ Ro2, VR G2 w Ro2 S' y v) :=
    fun y h1 h2 h3 => ⟨y, [], hs, h, S, F, Ft, by simpa using h1, .refl hg, by simpa using T, fun G2 _ => ⟨h2 G2, fun hst Ro2 => h3 hst G2 Ro2⟩⟩
  have ref : ∀ (r : Nat) (f : Nat → AV), refK st r ρ hs h (fun j ρ hs h => k (f j) ρ hs h) (k .top ρ hs h) → (∀ j ρ' G2, (ρ ++ ρ')[j]? = some r → Mt (ρ ++ ρ') G G2 → ∀ S' Ro2, VR G2 w Ro2 S' (f j) v) →
      ∃ y ρ' hs' h' S' F' Ft', k y (ρ ++ ρ') hs' h' ∧ Stp E G w h S F h' S' F' ∧ Tk E st G w S' F' (ρ ++ ρ') hs' Ft' ∧ ∀ G2, Mt (ρ ++ ρ') G G2 → VR G2 w E.Ro S' y v ∧ (st = true → ∀ Ro2, VR G2 w Ro2 S' y v) := by
    intro r f hp hf
    rcases refK_spec hg T hp with h | ⟨j, ρ', hs', h', S', F', Ft', q1, q2, q3, q4⟩
    · exact stay .top h (fun _ => .top _) (fun _ _ _ => .top _)
    · exact ⟨_, ρ', hs', h', S', F', Ft', q1, q2, q3, fun G2 hM => ⟨hf j ρ' G2 q4 hM S' _, fun _ Ro2 => hf j ρ' G2 q4 hM S' Ro2⟩⟩
  have pure : ∀ y, y = x → y.pure1 = true → (st = true → y.shut1 = true) → k y ρ hs h → _ := fun y hy h1 h2 hp =>
    stay y hp (fun _ => by subst hy; exact hv.pure1 (fun _ h => h) h1) (fun hst _ _ => by subst hy; exact hv.shut1 (h2 hst))
  cases x <;> simp only [canV0] at hp
  case top => exact stay _ hp (fun _ => .top _) (fun _ _ _ => .top _)
  case v x => exact pure _ rfl rfl (fun _ => rfl) hp
  case nils => exact pure _ rfl rfl (fun _ => rfl) hp
  case ptr r i o n =>
    obtain ⟨b, g, h1, h2, rfl⟩ := hv.ptr_inv
    exact ref r (fun j => .ptr j i o n) hp (fun j ρ' G2 hj hM S' _ => .ptr j i o n b g (hM j r g hj h1) h2)
  case aptr r o q =>
    obtain ⟨b, g, h1, h2, rfl⟩ := hv.aptr_inv
    exact ref r (fun j => .aptr j o q) hp (fun j ρ' G2 hj hM S' _ => .aptr j o q b g (hM j r g hj h1) h2)
  case slc r o n z =>
    obtain ⟨g, a, c, h1, rfl, h3, h4, h5⟩ := hv.slc_inv
    exact ref r (fun j => .slc j o n false) hp (fun j ρ' G2 hj hM S' _ => .slc j o n false g a c (hM j r g hj h1) h3 (by simp) h5)
  case bsl r o n =>
    obtain ⟨b, g, c, h1, h2, h3, rfl⟩ := hv.bsl_inv
    exact ref r (fun j => .bsl j o n) hp (fun j ρ' G2 hj hM S' _ => .bsl j o n b c g (hM j r g hj h1) h2 h3)
  case mapr r =>
    obtain ⟨b, g, h1, h2, rfl⟩ := hv.mapr_inv
    exact ref r (fun j => .mapr j) hp (fun j ρ' G2 hj hM S' _ => .mapr j b g (hM j r g hj h1) h2)
  case pan x => exact hv.pan_inv.elim
  case imm t z s l =>
    split at hp
    · exact hp.elim
    · rename_i hb
      exact pure _ rfl rfl (fun hst => by subst hst; cases t <;> first | rfl | simp at hb) hp
  case iptr t l =>
    split at hp
    · exact hp.elim
    · rename_i hb
      exact pure _ rfl rfl (fun hst => by subst hst; cases t <;> first | rfl | simp at hb) hp
  case fn f caps =>
    cases caps with
    | nil => exact pure _ rfl rfl (fun _ => rfl) hp
    | cons _ _ => exact hp.elim

theorem canL_spec {f : AV → List Nat → HP → HP → CK → Prop} (hf : CanS E G w st f) : ∀ (l : List AV) (vs : List Value) {ρ : List Nat} {hs h : HP} {S : BS} {F Ft : Nat → BS} {k : List AV → List Nat → HP → HP → Prop}, Good E G h w S F → Tk E st G w S F ρ hs Ft → (∀ (j : Nat) x, l[j]? = some x → VR G w E.Ro S x (vs.getD j undef)) → canL f l ρ hs h k →
    ∃ y ρ' hs' h' S' F' Ft', k y (ρ ++ ρ') hs' h' ∧ Stp E G w h S F h' S' F' ∧ Tk E st G w S' F' (ρ ++ ρ') hs' Ft' ∧ y.length = l.length ∧ ∀ G2, Mt (ρ ++ ρ') G G2 → ∀ (j : Nat) x, y[j]? = some x → VR G2 w E.Ro S' x (vs.getD j undef) ∧ (st = true → ∀ Ro2, VR G2 w Ro2 S' x (vs.getD j undef))
  | [], vs, ρ, hs, h, S, F, Ft, k, hg, T, hv, hp => ⟨[], [], hs, h, S, F, Ft, by simpa [canL] using hp, .refl hg, by simpa using T, rfl, by simp⟩
  | x :: l, vs, ρ, hs, h, S, F, Ft, k, hg, T, hv, hp => by
    obtain ⟨y, ρ1, hs1, h1, S1, F1, Ft1, a1, a2, a3, a4⟩ := hf hg T (hv 0 x rfl) hp
    obtain ⟨ys, ρ2, hs2, h2, S2, F2, Ft2, b1, b2, b3, b4, b5⟩ := canL_spec hf l vs.tail a2.good a3 (fun j z hj => by
      have := (hv (j + 1) z (by simpa using hj)).ext a2.ext
      cases vs <;> simpa using this) a1
    rw [List.append_assoc] at b1 b3 b5
    refine ⟨y :: ys, ρ1 ++ ρ2, hs2, h2, S2, F2, Ft2, b1, a2.trans b2, b3, by simp [b4], fun G2 hM j z hj => ?_⟩
    cases j with
    | zero =>
      simp at hj; subst hj
      obtain ⟨q1, q2⟩ := a4 G2 (by rw [← List.append_assoc] at hM; exact hM.pre)
      exact ⟨q1.ext (E := E) ⟨fun _ _ h => h, b2.s, fun _ _ => rfl, fun _ _ => rfl⟩, fun hst Ro2 => (q2 hst Ro2).ext (E := ⟨E.w0, E.O, E.S0, Ro2, E.ws, E.G0⟩) ⟨fun _ _ h => h, b2.s, fun _ _ => rfl, fun _ _ => rfl⟩⟩
    | succ j =>
      have := b5 G2 hM j z (by simpa using hj)
      cases vs <;> simpa using this

theorem can1 : CanS E G w st (canV1 st) := by
  intro x v ρ hs h S F Ft k hg T hv hp
  cases x
  case fn f caps =>
    obtain ⟨vs, rfl, h1, h2⟩ := hv.fn_inv
    obtain ⟨ys, ρ', hs', h', S', F', Ft', b1, b2, b3, b4, b5⟩ := canL_spec (can0 (st := st)) caps vs hg T h2 hp
    exact ⟨_, ρ', hs', h', S', F', Ft', b1, b2, b3, fun G2 hM => ⟨.fn f ys vs (b4.trans h1) (fun j x hj => (b5 G2 hM j x hj).1), fun hst Ro2 => .fn f ys vs (b4.trans h1) (fun j x hj => (b5 G2 hM j x hj).2 hst Ro2)⟩⟩
  all_goals exact can0 hg T hv hp
theorem can2 : CanS E G w st (canV2 st) := by
  intro x v ρ hs h S F Ft k hg T hv hp
  cases x
  case agg l =>
    obtain ⟨vs, rfl, h1, h2, h3⟩ := hv.agg_inv
    obtain ⟨ys, ρ', hs', h', S', F', Ft', b1, b2, b3, b4, b5⟩ := canL_spec (can1 (st := st)) l vs hg T h3 hp
    exact ⟨_, ρ', hs', h', S', F', Ft', b1, b2, b3, fun G2 hM => ⟨.agg ys vs (b4.trans h1) h2 (fun j x hj => (b5 G2 hM j x hj).1), fun hst Ro2 => .agg ys vs (b4.trans h1) h2 (fun j x hj => (b5 G2 hM j x hj).2 hst Ro2)⟩⟩
  all_goals exact can1 hg T hv hp
theorem can3 : CanS E G w st (canV3 st) := by
  intro x v ρ hs h S F Ft k hg T hv hp
  cases x
  case tup l =>
    obtain ⟨vs, rfl, h1, h3⟩ := hv.tup_inv
    obtain ⟨ys, ρ', hs', h', S', F', Ft', b1, b2, b3, b4, b5⟩ := canL_spec (can2 (st := st)) l vs hg T h3 hp
    exact ⟨_, ρ', hs', h', S', F', Ft', b1, b2, b3, fun G2 hM => ⟨.tup ys vs (b4.trans h1) (fun j x hj => (b5 G2 hM j x hj).1), fun hst Ro2 => .tup ys vs (b4.trans h1) (fun j x hj => (b5 G2 hM j x hj).2 hst Ro2)⟩⟩
  all_goals exact can2 hg T hv hp

theorem takeN_spec : ∀ (n : Nat) (is ρ : List Nat) {hs h : HP} {S : BS} {F Ft : Nat → BS} {k : List Nat → HP → HP → Prop}, (∀ (j i : Nat), is[j]? = some i → i = ρ.length + j) → Good E G h w S F → Tk E st G w S F ρ hs Ft → takeN st n is ρ hs h k →
    ∃ hs' h' S' F' Ft', k (ρ ++ List.range' ρ.length n) hs' h' ∧ Stp E G w h S F h' S' F' ∧ Tk E st G w S' F' (ρ ++ List.range' ρ.length n) hs' Ft'
  | 0, is, ρ, hs, h, S, F, Ft, k, _, hg, T, hp => ⟨hs, h, S, F, Ft, by simpa [takeN] using hp, .refl hg, by simpa using T⟩
  | n + 1, [], ρ, hs, h, S, F, Ft, k, _, hg, T, hp => hp.elim
  | n + 1, i :: is, ρ, hs, h, S, F, Ft, k, hi, hg, T, hp => by
    simp only [takeN] at hp
    obtain ⟨rt, hr, hp1⟩ := rootK_spec hp
    obtain ⟨rt', h', S', F', Ft', q1, q2, q3⟩ := grabK_spec hg T hr hp1
    have hi0 : i = ρ.length := by simpa using hi 0 i rfl
    subst hi0
    obtain ⟨hs2, h2, S2, F2, Ft2, r1, r2, r3⟩ := takeN_spec n is (ρ ++ [ρ.length]) (fun j i hj => by have := hi (j + 1) i (by simpa using hj); simp; omega) q2.good q3 q1
    rw [List.append_assoc, List.length_append, List.length_singleton] at r1 r3
    rw [List.range'_succ]
    exact ⟨hs2, h2, S2, F2, Ft2, r1, q2.trans r2, r3⟩

/-- The ghosts of the roots that were taken out. -/
def ghs (G : List Gh) (ρ : List Nat) : List Gh := ρ.map fun r => G.getD r ⟨none, 0, 0⟩
theorem mt_ghs (G : List Gh) (ρ : List Nat) : Mt ρ G (ghs G ρ) := fun j r g h1 h2 => by
  simp only [ghs, List.getElem?_map, h1, Option.map_some, List.getD_eq_getElem?_getD, h2, Option.getD_some]

theorem foldE_spec : ∀ (fs : List (Nat × Nat × Nat)) {h : HP} {S : BS} {F : Nat → BS} {k : HP → Prop}, Good E G h w S F → foldE fs h k → ∃ h' S' F', k h' ∧ Good E G h' w S' F' ∧ ∀ k, S k → S' k
  | [], h, S, F, k, hg, hp => ⟨h, S, F, hp, hg, fun _ h => h⟩
  | (r, e, f) :: fs, h, S, F, k, hg, hp => by
    simp only [foldE] at hp
    obtain ⟨rt, hr, hp1⟩ := rootK_spec hp
    cases rt with
    | lst s l0 =>
      obtain ⟨el, hel, hp2⟩ := hp1
      obtain ⟨c1, hp3⟩ := cutK_spec _ _ _ _ hp2
      split at hp3
      · rename_i r' o n z hcut
        rw [setK_eq] at hp3
        obtain ⟨g, hgr, hroot, st1, ap1⟩ := hg.kill hr
        obtain ⟨q1, q2, q3⟩ := hroot
        have hells : el.length = s := q2 el (List.mem_of_getElem? hel)
        have hfl : f < el.length := by omega
        have helf : el[f]? = some (.slc r' o n z) := by
          have := congrArg (fun l => l[0]?) hcut
          simpa [List.getElem?_take, List.getElem?_drop] using this
        have hpl : l0.flatten[e * s + f]? = some (.slc r' o n z) := (flat_get s l0 q2 e el hel f (by omega)).trans helf
        rcases q3 with ⟨_, q3, _⟩ | ⟨b, cs, T, u1, u2, u3, u4, u5⟩
        · subst q3; simp at hel
        obtain ⟨cv, Fc, w1, w2, w3, w4, w5⟩ := u5
        have hpl' := (List.getElem?_eq_some_iff.1 hpl).1
        obtain ⟨hvr, hone, _⟩ := (w2 _ _ hpl).vr rfl
        have hval := w1 _ hpl'
        obtain ⟨cs', h2, S2, F2, Fy, hp4, st2, hcr, hap, hFy⟩ := foldCs_spec [.slc r' o n z] [cv (e * s + f)] st1.good rfl (fun j x hj => by
          cases j with
          | zero => simp at hj; subst hj; exact .inl ⟨rfl, by simpa using hvr, by simpa using hone⟩
          | succ j => simp at hj) hp3
        obtain ⟨c6, hp5⟩ := layK_spec _ _ _ _ hp4
        rw [setK_eq] at hp5
        have hcl : cs'.length = 1 := hcr.choose_spec.1
        obtain ⟨l1, l2⟩ := lst_lay q2 hel c6
        have hblk : BlkR G w E.Ro S2 l0.flatten b cs (F r) := BlkR.ext (E := E) (G' := G) ⟨fun _ _ h => h, fun k h => st2.s k (st1.s k h), fun _ _ => rfl, fun _ _ => rfl⟩ ⟨cv, Fc, w1, w2, w3, w4, w5⟩ (fun _ _ _ => rfl)
        have ap2 := st2.apart ap1
        have hdis : ∀ k, F r k → ¬ Fy k := fun k h1 h2 => by obtain ⟨i, hi⟩ := hFy k h2; exact ap1.2 i k hi h1
        obtain ⟨F3, hF3, hsub⟩ := blkR_put hblk (cs' := cs) hcr hdis l2 (fun j => by
          simp only [List.length_singleton]
          split
          · rename_i hj
            have : j = e * s + f := by omega
            subst this
            rw [Nat.sub_self, hval]; rfl
          · rfl)
        have hlen : (lay l0.flatten (e * s + f) cs').length = l0.flatten.length := lay_length l2
        have hrt : RootR G w E.Ro S2 (.lst s (l0.set e (lay el f cs'))) g F3 := ⟨q1, l1.2, .inr ⟨b, cs, T, u1, u2, u3, by rw [← l1.1, hlen]; exact u4, by rw [← l1.1]; exact hF3⟩⟩
        have hrl : r < h2.length := by rw [st2.len, st1.len]; exact (List.getElem?_eq_some_iff.1 hr).1
        have hg3 := st2.good.setRoot' hrl hgr (Chg.refl w _) hrt (fun i k hi h1 h2 => ?_) (fun k hk => ?_)
        · obtain ⟨h', S', F', r1, r2, r3⟩ := foldE_spec fs hg3 hp5
          exact ⟨h', S', F', r1, r2, fun k h => r3 k (st2.s k (st1.s k h))⟩
        · rcases hsub k h2 with h | h
          · exact ap2.2 i k h1 h
          · exact hap.2 i k h1 h
        · rcases hsub k hk with h | h
          · exact ap2.1 k h
          · exact hap.1 k h
      · exact hp3.elim
    | _ => exact hp1.elim

/-- What was taken out stands by itself, under its ghosts. -/
theorem Tk.good {ρ hs h S F Ft} (hg : Good E G h w S F) (T : Tk E st G w S F ρ hs Ft) (hgp : ∀ (r : Nat) g, E.G0[r]? = some g → (ghs G ρ)[r]? = some g) : Good E (ghs G ρ) hs w S Ft := by
  constructor
  · simp [ghs, T.len]
  · intro r rt g h1 h2
    have hr : r < ρ.length := by rw [T.len]; exact (List.getElem?_eq_some_iff.1 h1).1
    obtain ⟨g', q1, q2⟩ := T.root r ρ[r] rt (List.getElem?_eq_getElem hr) h1
    have := mt_ghs G ρ r ρ[r] g' (List.getElem?_eq_getElem hr) q1
    rw [h2] at this; cases this
    exact q2.1 _
  · exact T.dis
  · exact T.out
  · exact fun r k hk => (T.ap r).1 k hk
  · exact hg.sb
  · exact hg.s0
  · exact hg.sn
  · exact hg.size
  · exact hg.os
  · exact hg.tape
  · exact hg.output
  · exact hg.fr
  · exact hg.rok
  · exact hgp
  · exact hg.sf

theorem range_pre {n m : Nat} {ρ' : List Nat} (h : m ≤ n) (G : List Gh) (hm : n ≤ G.length) : ∀ (r : Nat) g, r < m → G[r]? = some g → (ghs G (List.range' 0 n ++ ρ'))[r]? = some g := by
  intro r g hr hg
  refine mt_ghs G _ r r g ?_ hg
  rw [List.getElem?_append_left (by simp; omega), List.getElem?_range' (by omega)]
  simp

/-- A loop's head. -/
theorem headK_spec {m : Nat} (hm : E.G0.length ≤ m) {cn : Bool} {vs : List AV} {h : HP} {S : BS} {F : Nat → BS} {k : List AV → HP → Prop} (hg : Good E G h w S F) (us : List Value) (hv : ∀ (j : Nat) x, vs[j]? = some x → VR G w E.Ro S x (us.getD j undef)) (hp : headK m cn vs h k) :
    ∃ vs' h' G' S' F', k vs' h' ∧ Good E G' h' w S' F' ∧ vs'.length = vs.length ∧ ∀ (j : Nat) x, vs'[j]? = some x → VR G' w E.Ro S' x (us.getD j undef) := by
  cases cn with
  | false => exact ⟨vs, h, G, S, F, hp, hg, rfl, hv⟩
  | true =>
    obtain ⟨fs, hp⟩ := hp
    obtain ⟨h1, S1, F1, hp1, hg1, hs1⟩ := foldE_spec fs hg hp
    obtain ⟨hs2, h2, S2, F2, Ft2, hp2, st2, T2⟩ := takeN_spec (st := false) m nums [] (fun j i hj => by simpa using nums_get j i hj) hg1 Tk.nil hp1
    obtain ⟨ys, ρ', hs3, h3, S3, F3, Ft3, hp3, st3, T3, hl, hv3⟩ := canL_spec (can3 (st := false)) vs us st2.good T2 (fun j x hj => (hv j x hj).ext (E := E) ⟨fun _ _ h => h, fun k h => st2.s k (hs1 k h), fun _ _ => rfl, fun _ _ => rfl⟩) hp2
    simp only [List.nil_append, List.length_nil] at T3 hv3
    have hlen : m ≤ G.length := by
      rcases Nat.eq_zero_or_pos m with h0 | h0
      · omega
      · have hT := T2.root (m - 1) (m - 1)
        have : m ≤ hs2.length := by have := T2.len; simp at this; omega
        obtain ⟨g, hg', _⟩ := hT hs2[m - 1] (by rw [List.nil_append, List.length_nil, List.getElem?_range' (by omega)]; simp) (List.getElem?_eq_getElem (by omega))
        have := (List.getElem?_eq_some_iff.1 hg').1
        omega
    have hgood := T3.good st3.good (fun r g hr => by
      have hrl := (List.getElem?_eq_some_iff.1 hr).1
      exact range_pre (Nat.le_refl m) G hlen r g (by omega) (hg1.gp r g hr))
    exact ⟨ys, hs3, _, S3, Ft3, hp3, hgood, hl, fun j x hj => (hv3 _ (mt_ghs G _) j x hj).1⟩
end

end Go.Proofs.YtbfjkjdbdejnmaaGreat.Ab

/- One operation, looked at with other temporaries or in another memory. No condition. -/
namespace Go.Proofs.YtbfjkjdbdejnmaaGreat.Ab
set_option linter.unusedVariables false
set_option linter.unusedSimpArgs false

theorem putK_eq (t : TS) (d : Option Tmp) (x : AV) (k : TS → Prop) : putK t d x k = k (putF t d x) := by
  cases d with
  | none => rfl
  | some i => simp only [putK, putF, setK_eq]
theorem putF_length (t : TS) (d : Option Tmp) (x : AV) : (putF t d x).length = t.length := by cases d <;> simp [putF]

/-- The end that names what is left. -/
def kx (o : Oper) (x : AV) (h2 : HP) (t : TS) : TS → HP → Prop := fun t' h' => t' = putF t o.dst x ∧ h' = h2
theorem kx_congr {o : Oper} {x : AV} {h2 : HP} {t s : TS} (hl : t.length = s.length) (z : AV) (h' : HP) : kx o x h2 t (putF t o.dst z) h' = kx o x h2 s (putF s o.dst z) h' := by
  cases hd : o.dst with
  | none => simp [kx, putF, hd]
  | some d =>
    simp only [kx, putF, hd]
    have key : ∀ (l : TS), (l.set d z = l.set d x) = (d < l.length → z = x) := fun l => propext ⟨fun h hlt => by
      have := congrArg (·[d]?) h
      simpa [hlt] using this, fun h => by
      by_cases hlt : d < l.length
      · rw [h hlt]
      · rw [List.set_eq_of_length_le (Nat.le_of_not_lt hlt), List.set_eq_of_length_le (Nat.le_of_not_lt hlt)]⟩
    rw [key, key, hl]

/-- The end that says what is left. -/
def kr (o : Oper) (Res : AV → HP → Prop) (t : TS) : TS → HP → Prop := fun t' h' => ∃ x h2, Res x h2 ∧ t' = putF t o.dst x ∧ h' = h2
theorem kr_congr {o : Oper} {Res : AV → HP → Prop} {t s : TS} (hl : t.length = s.length) (z : AV) (h' : HP) : kr o Res t (putF t o.dst z) h' = kr o Res s (putF s o.dst z) h' := by
  unfold kr
  congr 1; funext x; congr 1; funext h2
  have := kx_congr (o := o) (x := x) (h2 := h2) hl z h'
  unfold kx at this
  rw [this]

theorem bndK_congr {t s : TS} {o : Option Operand} {d : Nat} {k : Nat → Prop} (h : ∀ x, o = some x → evF t x = evF s x) : bndK t o d k = bndK s o d k := by
  cases o with
  | none => rfl
  | some x => simp only [bndK, evK_eq, h x rfl]
theorem elemsK_congr {t s : TS} {ei : TI} : ∀ (l : List (Nat × Operand)) (j : Nat) (h : HP) (k : List (List AV) → HP → Prop), (∀ p ∈ l, evF t p.2 = evF s p.2) → elemsK t ei j l h k = elemsK s ei j l h k
  | [], j, h, k, he => rfl
  | (i, x) :: l, j, h, k, he => by
    simp only [elemsK, evK_eq]
    rw [he (i, x) List.mem_cons_self]
    have : ∀ j h k, elemsK t ei j l h k = elemsK s ei j l h k := fun j h k => elemsK_congr l j h k fun p hp => he p (List.mem_cons_of_mem _ hp)
    simp only [this]
theorem map_evF_congr {t s : TS} {l : List Operand} (h : ∀ x ∈ l, evF t x = evF s x) : l.map (evF t) = l.map (evF s) := List.map_congr_left h

theorem kp_congr {o : Oper} {x : AV} {h2 : HP} {t s : TS} (hl : t.length = s.length) (z : AV) (h' : HP) : (putK t o.dst z fun t' => kx o x h2 t t' h') = (putK s o.dst z fun t' => kx o x h2 s t' h') := by
  rw [putK_eq, putK_eq]; exact kx_congr hl z h'
set_option maxHeartbeats 1000000 in
theorem opP_congrK {C : Ctx} {o : Oper} {t s : TS} {h : HP} {k1 k2 : TS → HP → Prop} (he : ∀ y ∈ o.op.operands, evF t y = evF s y) (key : ∀ z h', (putK t o.dst z fun t' => k1 t' h') = (putK s o.dst z fun t' => k2 t' h')) : opP C o t h k1 = opP C o s h k2 := by
  unfold opP
  cases ho : o.op <;> rw [ho] at he <;> simp only [Op.operands] at he
  case build ty ps =>
    have : ps.toList.map (fun p => (p.1, evF t p.2)) = ps.toList.map (fun p => (p.1, evF s p.2)) := List.map_congr_left fun p hp => by rw [he p.2 (by simp; exact ⟨p.1, by simpa using hp⟩)]
    simp only [mapK_ps, this, key]
  case buildSlice ty n ps =>
    have : ∀ ei j h k, elemsK t ei j ps.toList h k = elemsK s ei j ps.toList h k := fun ei j h k => elemsK_congr _ j h k fun p hp => he p.2 (by simp; exact ⟨p.1, by simpa using hp⟩)
    simp only [this, key]
  case makeFunc f fs cs =>
    have : cs.toList.map (evF t) = cs.toList.map (evF s) := map_evF_congr fun x hx => he x (by simp at hx ⊢; exact .inr hx)
    simp only [mapK_ev, this, key]
  case call c =>
    have : c.args.toList.map (evF t) = c.args.toList.map (evF s) := map_evF_congr fun x hx => he x (by simp at hx; simp [Call.operands, hx])
    simp only [mapK_ev, this, evK_eq, key]
    have hf : ∀ f, c.callee = .value f → evF t f = evF s f := fun f hf => he f (by simp [Call.operands, hf])
    split <;> try rfl
    rename_i f hcal
    rw [hf f hcal]
  case slice ty y lo hi mx =>
    have h1 : evF t y = evF s y := he y (by cases lo <;> cases hi <;> cases mx <;> simp)
    have hlo : ∀ d k, bndK t lo d k = bndK s lo d k := fun d k => bndK_congr fun z hz => by subst hz; exact he z (by cases hi <;> cases mx <;> simp)
    have hhi : ∀ d k, bndK t hi d k = bndK s hi d k := fun d k => bndK_congr fun z hz => by subst hz; exact he z (by cases lo <;> cases mx <;> simp)
    have hmx : ∀ d k, bndK t mx d k = bndK s mx d k := fun d k => bndK_congr fun z hz => by subst hz; exact he z (by cases lo <;> cases hi <;> simp)
    simp only [evK_eq, h1, sliceP, hlo, hhi, hmx, key]
  case makeMap ty r => cases r <;> simp only [key]
  all_goals (first | rfl | (simp at he; simp only [evK_eq, he, key]))
theorem opP_congr {C : Ctx} {o : Oper} {t s : TS} {h h2 : HP} {x : AV} (hl : t.length = s.length) (he : ∀ y ∈ o.op.operands, evF t y = evF s y) : opP C o t h (kx o x h2 t) = opP C o s h (kx o x h2 s) :=
  opP_congrK he fun z h' => kp_congr hl z h'
theorem opP_congrR {C : Ctx} {o : Oper} {t s : TS} {h : HP} {Res : AV → HP → Prop} (hl : t.length = s.length) (he : ∀ y ∈ o.op.operands, evF t y = evF s y) : opP C o t h (kr o Res t) = opP C o s h (kr o Res s) :=
  opP_congrK he fun z h' => by rw [putK_eq, putK_eq]; exact kr_congr hl z h'
end Go.Proofs.YtbfjkjdbdejnmaaGreat.Ab

/- What an operation that leaves memory alone answers is one value. No condition. -/
namespace Go.Proofs.YtbfjkjdbdejnmaaGreat.Ab
set_option linter.unusedVariables false
set_option linter.unusedSimpArgs false

/-- A word that hands on one value. -/
def Fnl {α : Type} (W : (α → Prop) → Prop) : Prop := ∀ k, W k → ∃ x, k x ∧ ∀ k' : α → Prop, k' x → W k'
section
variable {α β γ : Type}
theorem Fnl.pure (x : α) : Fnl (fun k => k x) := fun k h => ⟨x, h, fun _ h => h⟩
theorem Fnl.none : Fnl (fun _ : α → Prop => False) := fun k h => h.elim
theorem Fnl.and {P : Prop} {W : (α → Prop) → Prop} (h : Fnl W) : Fnl (fun k => P ∧ W k) := fun k hk => by
  obtain ⟨x, h1, h2⟩ := h k hk.2
  exact ⟨x, h1, fun k' h => ⟨hk.1, h2 k' h⟩⟩
theorem Fnl.ex {W : β → (α → Prop) → Prop} (h : ∀ b, Fnl (W b)) : Fnl (fun k => ∃ b, W b k) := fun k ⟨b, hk⟩ => by
  obtain ⟨x, h1, h2⟩ := h b k hk
  exact ⟨x, h1, fun k' h => ⟨b, h2 k' h⟩⟩
theorem Fnl.bind {V : (β → Prop) → Prop} {W : β → (α → Prop) → Prop} (hv : Fnl V) (h : ∀ b, Fnl (W b)) : Fnl (fun k => V fun b => W b k) := fun k hk => by
  obtain ⟨b, h1, h2⟩ := hv _ hk
  obtain ⟨x, h3, h4⟩ := h b k h1
  exact ⟨x, h3, fun k' h => h2 _ (h4 k' h)⟩
theorem Fnl.on {o : Option β} {W : β → (α → Prop) → Prop} (h : ∀ b, Fnl (W b)) : Fnl (fun k => on o fun b => W b k) := by
  cases o with
  | none => exact .none
  | some b => exact h b
theorem Fnl.ite {p : Prop} [Decidable p] {V W : (α → Prop) → Prop} (hv : Fnl V) (hw : Fnl W) : Fnl (fun k => if p then V k else W k) := by
  by_cases hp : p
  · simp only [hp, if_true]; exact hv
  · simp only [hp, if_false]; exact hw
theorem Fnl.bool {c : Bool} {V W : (α → Prop) → Prop} (hv : Fnl V) (hw : Fnl W) : Fnl (fun k => (c = true → V k) ∧ (c = false → W k)) := by
  cases c with
  | true => exact fun k h => (by obtain ⟨x, h1, h2⟩ := hv k (h.1 rfl); exact ⟨x, h1, fun k' h => ⟨fun _ => h2 k' h, fun h => (by cases h)⟩⟩)
  | false => exact fun k h => (by obtain ⟨x, h1, h2⟩ := hw k (h.2 rfl); exact ⟨x, h1, fun k' h => ⟨fun h => (by cases h), fun _ => h2 k' h⟩⟩)
end

theorem cutK_eq (l : List AV) (o n : Nat) (k : List AV → Prop) : cutK l o n k = (o + n ≤ l.length ∧ k ((l.drop o).take n)) := by
  induction l generalizing o n k with
  | nil => cases o <;> cases n <;> simp [cutK]
  | cons a l ih =>
    cases o with
    | zero =>
      cases n with
      | zero => simp [cutK]
      | succ n => simp [cutK, ih]
    | succ o => simp [cutK, ih]; intro _; omega
theorem layK_eq (l : List AV) (o : Nat) (cs : List AV) (k : List AV → Prop) : layK l o cs k = (o + cs.length ≤ l.length ∧ k (lay l o cs)) := by
  induction l generalizing o cs k with
  | nil => cases o <;> cases cs <;> simp [layK, lay]
  | cons a l ih =>
    cases o with
    | zero =>
      cases cs with
      | nil => simp [layK, lay]
      | cons c cs => simp [layK, ih, lay]
    | succ o => simp [layK, ih, lay, Nat.add_right_comm]
theorem Fnl.cut (l : List AV) (o n : Nat) : Fnl (cutK l o n) := fun k h => by
  rw [cutK_eq] at h
  exact ⟨_, h.2, fun k' h' => by rw [cutK_eq]; exact ⟨h.1, h'⟩⟩
theorem Fnl.lay (l : List AV) (o : Nat) (cs : List AV) : Fnl (layK l o cs) := fun k h => by
  rw [layK_eq] at h
  exact ⟨_, h.2, fun k' h' => by rw [layK_eq]; exact ⟨h.1, h'⟩⟩
theorem Fnl.fill (place : Nat → Option (Nat × Nat)) : ∀ (ps : List (Nat × AV)) (cells : List AV), Fnl (fillK place ps cells)
  | [], cells => .pure cells
  | (i, x) :: r, cells => by
    show Fnl fun k => fillK place ((i, x) :: r) cells k
    simp only [fillK]
    refine .on fun p => ?_
    cases x <;> first
      | exact .none
      | exact .ite (.bind (.lay _ _ _) fun c => Fnl.fill place r c) .none
theorem Fnl.eqC : ∀ (ks : List Nat) (l r : List AV), Fnl (eqCells ks l r)
  | ks, l, r => fun k h => by
    unfold eqCells at h ⊢
    split at h
    · exact ⟨_, h, fun _ h => h⟩
    · split at h
      · obtain ⟨e, h1, h2⟩ := Fnl.eqC _ _ _ _ h
        rename_i hj
        refine ⟨_, h1, fun k' h' => ?_⟩
        simp only [hj, if_true]
        exact h2 _ h'
      · exact h.elim
    · obtain ⟨e, h1, h2⟩ := Fnl.eqC _ _ _ _ h
      exact ⟨_, h1, fun k' h' => h2 _ h'⟩
    · obtain ⟨e, h1, h2⟩ := Fnl.eqC _ _ _ _ h
      exact ⟨_, h1, fun k' h' => h2 _ h'⟩
    · exact h.elim
theorem Fnl.intO (op : BinOp) (k : IntKind) (a b : Int) : Fnl (intOp op k a b) := by
  intro K h
  unfold intOp at h ⊢
  split at h
  all_goals first
    | exact ⟨_, h, fun _ h' => h'⟩
    | exact ⟨_, h.2, fun _ h' => ⟨h.1, h'⟩⟩
    | exact h.elim
theorem Fnl.bin (op : BinOp) (i : Option TI) (x y : AV) (hy : y ≠ .nils) : Fnl (binP op i x y) := by
  intro K h
  unfold binP at h
  split at h
  · exact ⟨_, h.2, fun _ h' => ⟨h.1, h'⟩⟩
  · exact ⟨_, h.2, fun _ h' => ⟨h.1, h'⟩⟩
  · exact ⟨_, h, fun _ h' => h'⟩
  · exact ⟨_, h, fun _ h' => h'⟩
  · exact ⟨_, h.2, fun _ h' => ⟨h.1, h'⟩⟩
  · cases i with
    | none => exact h.elim
    | some j =>
      simp only [Ab.on] at h
      split at h
      · rename_i hk
        exact ⟨_, h, fun _ h' => by simp only [binP, Ab.on, hk]; exact h'⟩
      · exact h.elim
  · cases i with
    | none => exact h.elim
    | some j =>
      simp only [Ab.on] at h
      split at h
      · rename_i hk
        exact ⟨_, h, fun _ h' => by simp only [binP, Ab.on, hk]; exact h'⟩
      · exact h.elim
  · cases i with
    | none => exact h.elim
    | some j =>
      simp only [Ab.on] at h
      split at h
      · exact h.elim
      · obtain ⟨e, h1, h2⟩ := Fnl.eqC _ _ _ _ h
        exact ⟨_, h1, fun k' h' => by simp only [binP, Ab.on]; exact h2 _ h'⟩
  · cases i with
    | none => exact h.elim
    | some j =>
      simp only [Ab.on] at h
      split at h
      · exact h.elim
      · obtain ⟨e, h1, h2⟩ := Fnl.eqC _ _ _ _ h
        exact ⟨_, h1, fun k' h' => by simp only [binP, Ab.on]; exact h2 _ h'⟩
  · exact absurd rfl hy
  · exact absurd rfl hy
  · split at h
    · rename_i hk
      subst hk
      obtain ⟨e, h1, h2⟩ := Fnl.intO _ _ _ _ _ h
      refine ⟨_, h1, fun K' h' => ?_⟩
      have h3 := h2 _ h'
      cases op <;> first | (simp only [binP, if_true]; exact h3) | (simp only [intOp] at h3)
    · exact h.elim
  · exact h.elim
end Go.Proofs.YtbfjkjdbdejnmaaGreat.Ab

/- Operations that may come up at any time. No condition. -/
namespace Go.Proofs.YtbfjkjdbdejnmaaGreat.Ab
set_option linter.unusedVariables false
set_option linter.unusedSimpArgs false

section
variable {C : Ctx} {o : Oper} {t : TS} {h : HP} {k : TS → HP → Prop} {n : Nat}
def FlR (C : Ctx) (o : Oper) (t : TS) (h : HP) (n : Nat) (k : TS → HP → Prop) : Prop :=
  ∃ x, k (putF t o.dst x) h ∧ opP C o t h (kx o x h t) ∧ (n = 0 → ∀ h2, opP C o t h2 (kx o x h2 t))
theorem fl_mk {V : (AV → Prop) → Prop} (hV : Fnl V) (hE : ∀ h' k, (n = 0 ∨ h' = h) → opP C o t h' k = V (fun x => k (putF t o.dst x) h')) (hp : opP C o t h k) : FlR C o t h n k := by
  rw [hE _ _ (.inr rfl)] at hp
  obtain ⟨x, h1, h2⟩ := hV _ hp
  exact ⟨x, h1, by rw [hE _ _ (.inr rfl)]; exact h2 _ ⟨rfl, rfl⟩, fun hn h' => by rw [hE _ _ (.inl hn)]; exact h2 _ ⟨rfl, rfl⟩⟩

theorem fl_move {x : Operand} (ho : o.op = .move x) (hp : opP C o t h k) : FlR C o t h n k :=
  fl_mk (V := fun K => K (evF t x)) (.pure _) (fun h' k _ => by unfold opP; simp only [ho, evK_eq, putK_eq]) hp
theorem fl_assign {x : Operand} (ho : o.op = .assign x) (hx : evF t x ≠ .nils) (hp : opP C o t h k) : FlR C o t h n k := by
  refine fl_mk (V := fun K => K (evF t x)) (.pure _) (fun h' k _ => ?_) hp
  unfold opP
  simp only [ho, evK_eq, putK_eq]
theorem fl_pick {c x y : Operand} (ho : o.op = .pick c x y) (hp : opP C o t h k) : FlR C o t h n k := by
  refine fl_mk (V := fun K => match evF t c with | .v (.bool b) => (b = true → K (evF t x)) ∧ (b = false → K (evF t y)) | _ => False) ?_ (fun h' k _ => by unfold opP; simp only [ho, evK_eq, putK_eq]; rfl) hp
  split
  · exact .bool (.pure _) (.pure _)
  · exact .none
theorem fl_nilCheck {x : Operand} (ho : o.op = .nilCheck x) (hp : opP C o t h k) : FlR C o t h n k := by
  refine fl_mk (V := fun K => match evF t x with | .ptr r e f n => K (.ptr r e f n) | .aptr r f j => K (.aptr r f j) | .iptr b l => K (.iptr b l) | .fn f c => K (.fn f c) | _ => False) ?_ (fun h' k _ => by unfold opP; simp only [ho, evK_eq, putK_eq]; rfl) hp
  split <;> first | exact .pure _ | exact .none
theorem fl_extract {x : Operand} {m : Nat} (ho : o.op = .extract x m) (hp : opP C o t h k) : FlR C o t h n k := by
  refine fl_mk (V := fun K => match evF t x with | .tup l => on l[m]? K | _ => False) ?_ (fun h' k _ => by unfold opP; simp only [ho, evK_eq, putK_eq]; rfl) hp
  split
  · exact .on fun _ => .pure _
  · exact .none
theorem fl_fieldAddr {ty : TypeId} {x : Operand} {m : Nat} (ho : o.op = .fieldAddr ty x m) (hp : opP C o t h k) : FlR C o t h n k := by
  refine fl_mk (V := fun K => on (C.tab ty) fun i => match i.kind with
    | .struct fs => on fs[m]? fun f => (match evF t x with
      | .ptr r e b _ => if f.2 == 0 then False else K (.ptr r e (b + f.1) f.2)
      | .iptr b l => if f.2 == 0 then False else cutK l f.1 f.2 fun l => K (.iptr b l)
      | _ => False)
    | _ => False) (.on fun i => ?_) (fun h' k _ => by unfold opP; simp only [ho, evK_eq, putK_eq]; rfl) hp
  split
  · refine .on fun f => ?_
    split
    · exact .ite .none (.pure _)
    · exact .ite .none (.bind (.cut _ _ _) fun _ => .pure _)
    · exact .none
  · exact .none
theorem fl_binOp {op : BinOp} {ty ty' : TypeId} {x y : Operand} (ho : o.op = .binOp op ty x y ty') (hy : evF t y ≠ .nils) (hp : opP C o t h k) : FlR C o t h n k :=
  fl_mk (.bin op (C.tab ty) (evF t x) (evF t y) hy) (fun h' k _ => by unfold opP; simp only [ho, evK_eq, putK_eq]) hp
theorem fl_unOp {op : UnOp} {ty : TypeId} {x : Operand} (ho : o.op = .unOp op ty x) (hp : opP C o t h k) : FlR C o t h n k := by
  refine fl_mk (V := fun K => match (generalizing := false) op, evF t x with
    | .not, .v (.bool b) => K (.v (.bool (!b)))
    | .neg, .v (.int n a) => intOp .sub n 0 a K
    | .xor, .v (.int n a) => intOp .xor n (if n.signed then -1 else n.max) a K
    | _, _ => False) ?_ (fun h' k _ => by unfold opP; simp only [ho, evK_eq, putK_eq]; rfl) hp
  split
  · exact .pure _
  · exact .intO _ _ _ _
  · exact .intO _ _ _ _
  · exact .none
theorem fl_index {ty : TypeId} {x y : Operand} (ho : o.op = .index ty x y) (hp : opP C o t h k) : FlR C o t h n k := by
  refine fl_mk (V := fun K => on (C.tab ty) fun i => match i.kind, evF t x, evF t y with
    | .str, .v (.string s), .v (.int _ z) => ∃ j : Nat, z = (j : Int) ∧ ∃ b, s.data[j]? = some b ∧ K (.v (.int .u8 b.toNat))
    | _, _, _ => False) (.on fun i => ?_) (fun h' k _ => by unfold opP; simp only [ho, evK_eq, putK_eq]; rfl) hp
  split
  · exact .ex fun _ => .and (.ex fun _ => .and (.pure _))
  · exact .none
theorem fl_build {ty : TypeId} {ps : Array (Nat × Operand)} (ho : o.op = .build ty ps) (hp : opP C o t h k) : FlR C o t h n k := by
  refine fl_mk (V := fun K => on (C.tab ty) fun i => match i.kind with
    | .struct fs => fillK (fun n => fs[n]?) (ps.toList.map fun p => (p.1, evF t p.2)) (i.zero.map nilF) fun l => K (.agg l)
    | .array _ es => fillK (fun n => some (n * es, es)) (ps.toList.map fun p => (p.1, evF t p.2)) (i.zero.map nilF) fun l => K (.agg l)
    | _ => False) (.on fun i => ?_) (fun h' k _ => by unfold opP; simp only [ho, mapK_ps, mapK_nil, putK_eq]; rfl) hp
  split
  · exact .bind (.fill _ _ _) fun _ => .pure _
  · exact .bind (.fill _ _ _) fun _ => .pure _
  · exact .none
theorem fl_convert {s d : TypeId} {x : Operand} (ho : o.op = .convert s d x) {i : TI} {m : IntKind} (hi : C.tab d = some i) (hk : i.kind = .int m) (hp : opP C o t h k) : FlR C o t h n k := by
  refine fl_mk (V := fun K => on (C.tab s) fun _ => match evF t x with | .v (.int _ a) => K (.v (.int m (m.wrap a))) | _ => False) (.on fun _ => ?_) (fun h' k _ => by unfold opP; simp only [ho, evK_eq, putK_eq, hi, on, hk]; generalize evF t x = a; cases a <;> first | rfl | (rename_i u; cases u <;> rfl)) hp
  split
  · exact .pure _
  · exact .none
theorem fl_len {c : Call} (ho : o.op = .call c) (hc : c.callee = .builtin .len) (hp : opP C o t h k) : FlR C o t h n k := by
  refine fl_mk (V := fun K => on (c.argTypes[0]?) fun ty => on (C.tab ty) fun i => lenP i (c.args.toList.map (evF t)) K) (.on fun _ => .on fun i => ?_) (fun h' k _ => by unfold opP; simp only [ho, mapK_ev, hc, putK_eq]) hp
  intro K hK
  unfold lenP at hK ⊢
  split at hK <;> first | exact hK.elim | exact ⟨_, hK, fun _ h => h⟩
theorem Fnl.imm (b : Bool) (l : List AV) : Fnl (mapK (immCellK b) l) := by
  induction l with
  | nil => exact .pure _
  | cons a l ih =>
    refine .bind (V := immCellK b a) ?_ fun _ => .bind ih fun _ => .pure _
    cases a <;> exact .pure _
theorem Fnl.val (i : TI) (cs : List AV) : Fnl (valK i cs) := by
  intro K hK
  unfold valK at hK ⊢
  split at hK <;> first | exact hK.elim | exact ⟨_, hK, fun _ h => h⟩
theorem fl_loadI {ty : TypeId} {x : Operand} (ho : o.op = .load ty x) {b : Bool} {l : List AV} (hx : evF t x = .iptr b l) (hp : opP C o t h k) : FlR C o t h n k := by
  refine fl_mk (V := fun K => on (C.tab ty) fun i => cutK l 0 i.size fun cs => mapK (immCellK b) cs fun cs => valK i cs K) (.on fun _ => .bind (.cut _ _ _) fun _ => .bind (.imm _ _) fun _ => .val _ _) (fun h' k _ => by unfold opP; simp only [ho, evK_eq, hx, loadP, putK_eq]) hp
theorem outK_none : ∀ {cs : List AV} {h : HP} {k : List AV → HP → Prop}, cs.any AV.isSl = false → outK cs h k = k cs h
  | [], h, k, _ => rfl
  | c :: cs, h, k, hs => by
    simp only [List.any_cons, Bool.or_eq_false_iff] at hs
    have : ∀ h k, outK cs h k = k cs h := fun h k => outK_none hs.2
    cases c <;> simp [AV.isSl] at hs <;> simp only [outK, this]
theorem fl_loadB {ty : TypeId} {x : Operand} (ho : o.op = .load ty x) {i : TI} (hi : C.tab ty = some i) {r f m : Nat} {cells : List AV} (hx : evF t x = .ptr r 0 f m) (hr : h[r]? = some (.box cells)) (hs : ((cells.drop f).take i.size).any AV.isSl = false)
    (hn : n ≠ 0) (hp : opP C o t h k) : FlR C o t h n k := by
  have e : ∀ k, opP C o t h k = (f + i.size ≤ cells.length ∧ valK i ((cells.drop f).take i.size) fun x => k (putF t o.dst x) h) := by
    intro k
    unfold opP
    have hrk : ∀ (k : Root → Prop), rootK h r k = k (.box cells) := fun k => by
      clear hx hp
      induction h generalizing r with
      | nil => simp at hr
      | cons a h ih => cases r with
        | zero => simp at hr; subst hr; rfl
        | succ r => exact ih (by simpa using hr)
    have hset : h.set r (.box cells) = h := by
      apply List.ext_getElem?
      intro j
      rw [List.getElem?_set]
      split
      · rename_i hj; subst hj
        split
        · exact hr.symm
        · rename_i hlt; rw [List.getElem?_eq_none (by omega)]
      · rfl
    simp only [ho, evK_eq, hx, loadP, hi, on, hrk, cutK_eq, outK_none hs, layK_eq, putK_eq, setK_eq]
    refine propext ⟨fun ⟨h1, h2, h3⟩ => ?_, fun ⟨h1, h3⟩ => ?_⟩
    · refine ⟨h1, ?_⟩
      have hl : lay cells f ((cells.drop f).take i.size) = cells := by
        unfold lay
        rw [show ((cells.drop f).take i.size).length = i.size by simp; omega, List.append_assoc, show cells.drop (f + i.size) = (cells.drop f).drop i.size by rw [List.drop_drop], List.take_append_drop, List.take_append_drop]
      rw [hl, hset] at h3
      exact h3
    · refine ⟨h1, by simp; omega, ?_⟩
      have hl : lay cells f ((cells.drop f).take i.size) = cells := by
        unfold lay
        rw [show ((cells.drop f).take i.size).length = i.size by simp; omega, List.append_assoc, show cells.drop (f + i.size) = (cells.drop f).drop i.size by rw [List.drop_drop], List.take_append_drop, List.take_append_drop]
      rw [hl, hset]
      exact h3
  exact fl_mk (V := fun K => f + i.size ≤ cells.length ∧ valK i ((cells.drop f).take i.size) K) (.and (.val _ _)) (fun h' k hh => by rcases hh with hh | rfl; exact absurd hh hn; exact e k) hp
theorem Fnl.root (h : HP) (r : Nat) : Fnl (rootK h r) := by
  induction h generalizing r with
  | nil => exact .none
  | cons a h ih => cases r with
    | zero => exact .pure a
    | succ r => exact ih r
theorem fl_loadA {ty : TypeId} {x : Operand} (ho : o.op = .load ty x) {r f j : Nat} (hx : evF t x = .aptr r f j) (hn : n ≠ 0) (hp : opP C o t h k) : FlR C o t h n k := by
  refine fl_mk (V := fun K => on (C.tab ty) fun i => match i.agg with
    | true => False
    | false => rootK h r fun root => match root with
      | .box cells => ∃ x, cells[j + f]? = some x ∧ x.isSl = false ∧ (match Nat.beq i.size 1 with | true => K x | false => False)
      | _ => False) (.on fun i => ?_) (fun h' k hh => by rcases hh with hh | rfl; exact absurd hh hn; unfold opP; simp only [ho, evK_eq, hx, loadP, putK_eq]; rfl) hp
  split
  · exact .none
  · refine .bind (.root h r) fun root => ?_
    split
    · refine .ex fun x => .and (.and ?_)
      split
      · exact .pure _
      · exact .none
    · exact .none
theorem fl_indexAddr {ty : TypeId} {x y : Operand} (ho : o.op = .indexAddr ty x y) (hn : n ≠ 0) (hp : opP C o t h k) : FlR C o t h n k := by
  refine fl_mk (V := fun K => on (C.tab ty) fun i => match i.kind, evF t x, evF t y with
    | .slice _ es, .slc r b n _, .v (.int _ z) => rootK h r fun root => match root with
      | .lst s _ => if s == es then ∃ j : Nat, z = (j : Int) ∧ j < n ∧ K (.ptr r (b + j) 0 es) else False
      | _ => False
    | .slice _ es, .imm b _ s l, .v (.int _ z) => if s == es then ∃ j : Nat, z = (j : Int) ∧ ∃ el, l[j]? = some el ∧ K (.iptr b el) else False
    | .array n 1, .ptr r 0 f _, .v (.int _ z) => ∃ j : Nat, z = (j : Int) ∧ j < n ∧ K (.aptr r f j)
    | .array n 1, .iptr b l, .v (.int _ z) => ∃ j : Nat, z = (j : Int) ∧ j < n ∧ ∃ x, l[j]? = some x ∧ K (.iptr b [x])
    | _, _, _ => False) (.on fun i => ?_) (fun h' k hh => ?_) hp
  · split
    · refine .bind (.root h _) fun root => ?_
      split
      · exact .ite (.ex fun _ => .and (.and (.pure _))) .none
      · exact .none
    · exact .ite (.ex fun _ => .and (.ex fun _ => .and (.pure _))) .none
    · exact .ex fun _ => .and (.and (.pure _))
    · exact .ex fun _ => .and (.and (.ex fun _ => .and (.pure _)))
    · exact .none
  · rcases hh with hh | rfl
    · exact absurd hh hn
    unfold opP
    simp only [ho, evK_eq, putK_eq]
    rfl

theorem avO_evF {t : TS} {x : Operand} {a : AV} (h : avO t x = a) (ha : a ≠ .top) : evF t x = a := by
  cases x <;> simp only [avO, evF] at * <;> first | exact h | exact absurd h.symm ha
theorem fl_spec {ops : List Oper} (hf : flK C ops t h o = n + 1) (hg : gOff ops t o = false) (hn : n = 0 ∨ n = 1) (hp : opP C o t h k) : FlR C o t h n k := by
  unfold flK at hf
  simp only [hg] at hf
  cases ho : o.op <;> simp only [ho] at hf
  case move x => exact fl_move ho hp
  case assign x =>
    refine fl_assign ho (fun he => ?_) hp
    split at hf
    · rename_i i
      simp only [evF] at he
      rw [he] at hf
      cases hf
    · cases hf
    · rename_i h1 h2
      cases x with
      | tmp i => exact h1 i rfl
      | const v =>
        simp only [evF] at he
        split at he <;> first | exact h2 _ _ _ rfl | cases he
      | global g => cases he
      | func f => cases he
  case pick c x y => exact fl_pick ho hp
  case nilCheck x => exact fl_nilCheck ho hp
  case extract x m => exact fl_extract ho hp
  case fieldAddr ty x m => exact fl_fieldAddr ho hp
  case binOp op ty x y ty' =>
    refine fl_binOp ho (fun he => ?_) hp
    split at hf
    · rename_i i
      simp only [evF] at he
      rw [he] at hf
      cases hf
    · cases hf
    · rename_i h1 h2
      cases y with
      | tmp i => exact h1 i rfl
      | const v =>
        simp only [evF] at he
        split at he <;> first | exact h2 _ _ _ rfl | cases he
      | global g => cases he
      | func f => cases he
  case unOp op ty x => exact fl_unOp ho hp
  case index ty x y => exact fl_index ho hp
  case build ty ps => exact fl_build ho hp
  case convert s d x =>
    split at hf
    · rename_i i hi
      split at hf
      · rename_i m hk
        exact fl_convert ho hi hk hp
      · omega
    · omega
  case load ty x =>
    split at hf
    · rename_i i hi
      split at hf
      · rename_i b l hx; exact fl_loadI ho (avO_evF hx (by simp)) hp
      · rename_i r e f m hx
        split at hf
        · omega
        · rename_i cells hr
          split at hf
          · split at hf
            · omega
            · rename_i hs
              exact fl_loadB ho hi (avO_evF hx (by simp)) hr hs (by omega) hp
          · omega
        · omega
      · rename_i r f j hx; exact fl_loadA ho (avO_evF hx (by simp)) (by omega) hp
      · omega
    · omega
  case indexAddr ty x y => exact fl_indexAddr ho (by omega) hp
  case call c =>
    split at hf
    · rename_i hc; exact fl_len ho hc hp
    · omega
  all_goals omega
end
end Go.Proofs.YtbfjkjdbdejnmaaGreat.Ab

/- The abstract machine is sound: what it asks of a piece of code makes the model's code run so. No condition. -/
namespace Go.Proofs.YtbfjkjdbdejnmaaGreat.Ab
set_option linter.unusedVariables false
set_option linter.unusedSimpArgs false

section
variable {P : Program} {C : Ctx} {E : Env} {D : List Deferred × Nat} {t : TS} {h : HP} {a : Act} {w : World} {Q : Exit → Act → World → Prop}

theorem s_call {o : Oper} {c : Call} (hC : CtxOk P C) (ho : o.op = .call c) : OpS P C o := by
  intro E D t h a w k next Q hp hr hpan hc
  have hp0 := hp
  unfold opP at hp
  simp only [ho, mapK_ev] at hp
  split at hp
  · rename_i f hcal; exact s_callv hC ho hcal E D t h a w k next Q hp0 hr hpan hc
  · rename_i hcal; exact (q_len hC ho hcal).toS E D t h a w k next Q hp0 hr hpan hc
  · rename_i hcal; exact s_append hC ho hcal E D t h a w k next Q hp0 hr hpan hc
  · rename_i hcal; exact s_copy hC ho hcal E D t h a w k next Q hp0 hr hpan hc
  · rename_i hcal; exact s_clear hC ho hcal E D t h a w k next Q hp0 hr hpan hc
  · rename_i hcal; exact (q_minmax ho (.inl hcal)).toS E D t h a w k next Q hp0 hr hpan hc
  · rename_i hcal; exact (q_minmax ho (.inr hcal)).toS E D t h a w k next Q hp0 hr hpan hc
  · exact hp.elim

theorem opP_sound (hC : CtxOk P C) (o : Oper) : OpS P C o := by
  have no : (∀ t h k, ¬ opP C o t h k) → OpS P C o := fun hn E D t h a w k next Q hp _ _ _ => (hn _ _ _ hp).elim
  cases ho : o.op with
  | move x => exact (q_move ho).toS
  | assign x => exact (q_assign hC ho).toS
  | pick c x y => exact (q_pick ho).toS
  | alloc ty => exact s_alloc hC ho
  | box ty x => exact s_box hC ho
  | load ty x => exact (q_load hC ho).toS
  | store ty x y => exact s_store hC ho
  | nilCheck x => exact (q_nilCheck ho).toS
  | fieldAddr ty x n => exact (q_fieldAddr hC ho).toS
  | indexAddr ty x y => exact (q_indexAddr hC ho).toS
  | binOp op ty x y ty' => exact (q_binOp hC ho).toS
  | unOp op ty x => exact (q_unOp ho).toS
  | convert s d x =>
    cases hd : C.tab d with
    | none => exact no (fun t h k hp => by unfold opP at hp; simp only [ho] at hp; obtain ⟨_, _, hp⟩ := on_spec hp; rw [hd] at hp; exact hp)
    | some i =>
      by_cases hk : ∃ e es, i.kind = .slice e es
      · obtain ⟨e, es, hk⟩ := hk; exact s_convertS hC ho hd hk
      · exact (q_convert hC ho (fun i' e es hi' hk' => by rw [hd] at hi'; cases hi'; exact hk ⟨e, es, hk'⟩)).toS
  | extract x n => exact (q_extract ho).toS
  | build ty ps => exact (q_build hC ho).toS
  | buildSlice ty n ps => exact s_buildSlice hC ho
  | makeSlice ty x y => exact s_makeSlice hC ho
  | makeFunc f x y => exact (q_makeFunc ho).toS
  | makeMap ty r => exact s_makeMap hC ho
  | slice ty x lo hi mx => exact (q_slice hC ho).toS
  | sliceToArrayPointer ty x => exact (q_s2ap hC ho).toS
  | index ty x y => exact (q_index hC ho).toS
  | lookup ty x y b => exact (q_lookup hC ho).toS
  | mapUpdate ty x y z => exact s_mapUpd hC (.inl ho)
  | insert ty x y z => exact s_mapUpd hC (.inr ho)
  | makeInterface ty x => exact s_makeInterface hC ho
  | panic x => exact s_panic ho
  | call c => exact s_call hC ho
  | _ => exact no (fun t h k hp => by unfold opP at hp; simp only [ho] at hp)

/-- What follows a panic is as it is asked for. -/
def PanOk (E : Env) (D : List Deferred × Nat) (C : Ctx) (Q : Exit → Act → World → Prop) : Prop := ∀ v t h a w, C.pan v h → Rel E D t h a w → Q (.panic [{ v, recovered := false }]) a w

theorem TR.set {G w Ro S} (ht : TR G w Ro S t a) {i : Nat} {x : AV} (hx : VR G w Ro S x (a.tmps.getD i undef)) : TR G w Ro S (t.set i x) a := by
  refine ⟨by simpa using ht.1, fun j => ?_⟩
  rw [List.getD_eq_getElem?_getD, List.getElem?_set]
  split
  · rename_i hij
    subst hij
    split
    · exact hx
    · exact .top _
  · have := ht.2 j
    rwa [List.getD_eq_getElem?_getD] at this

theorem splitG_spec {all : List Oper} {d : Option Tmp} {k : TS → Prop} (hr : Rel E D t h a w) (hp : splitG all d t k) : ∃ t', k t' ∧ Rel E D t' h a w := by
  unfold splitG at hp
  split at hp
  · rename_i i
    split at hp
    · simp only [getK_eq] at hp
      split at hp
      · rename_i b hb
        obtain ⟨G, S, F, hg, ht, hd⟩ := hr
        have hv := ht.2 i
        rw [hb] at hv
        cases b with
        | true =>
          have := hp.1 rfl
          rw [setK_eq] at this
          exact ⟨_, this, G, S, F, hg, ht.set hv, hd⟩
        | false =>
          have := hp.2 rfl
          rw [setK_eq] at this
          exact ⟨_, this, G, S, F, hg, ht.set hv, hd⟩
      · exact ⟨t, hp, hr⟩
    · exact ⟨t, hp, hr⟩
  · exact ⟨t, hp, hr⟩

theorem opG_sound (hC : CtxOk P C) (hpan : PanOk E D C Q) {ops : Array Oper} {i : Nat} {o : Oper} (ho : ops[i]? = some o) {k : TS → HP → Prop} {K : Act → World → Prop} (hp : opG C ops.toList o t h k) (hr : Rel E D t h a w)
    (hK : ∀ t h a w, k t h → Rel E D t h a w → K a w) : wpOp P ops Q i K a w := by
  have go : ∀ {t a}, Rel E D t h a w → (opP C o t h fun t h => splitG ops.toList o.dst t fun t => k t h) → o.wp P a w K Q := fun hr hp =>
    opP_sound hC o _ _ _ _ _ _ _ _ _ hp hr hpan (fun t' h' a' w' hs hr' => by
      obtain ⟨t'', h1, h2⟩ := splitG_spec hr' hs
      exact hK _ _ _ _ h1 h2)
  unfold wpOp
  simp only [ho]
  unfold opG at hp
  split at hp
  · rename_i hgd
    rw [if_pos (by simp [Region.wanted, hgd])]
    exact .inl (go hr hp)
  · rename_i j want hgd
    obtain ⟨d, hd, hp⟩ := on_spec hp
    simp only [getK_eq] at hp
    split at hp
    · rename_i b hb
      obtain ⟨G, S, F, hg, ht, hdf⟩ := hr
      have hv := ht.2 d
      rw [hb] at hv
      have hv := hv.v_inv.1
      have hy : yielded ops a.tmps j = some b := by
        unfold yielded
        rw [← Array.getElem?_toList, hd]
        rw [Array.getD_eq_getD_getElem?] at hv
        cases hq : a.tmps[d]? with
        | none => rw [hq] at hv; simp [undef] at hv
        | some q => rw [hq] at hv; simp at hv; subst hv; simp [hq]
      split at hp
      · rename_i hbw
        have hbw : b = want := by simpa using hbw
        rw [if_pos (by simp [Region.wanted, hgd, hy, hbw])]
        exact .inl (go ⟨G, S, F, hg, ht, hdf⟩ hp)
      · rename_i hbw
        have hbw : ¬ b = want := by simpa using hbw
        rw [if_neg (by simp [Region.wanted, hgd, hy, hbw])]
        obtain ⟨t', h1, h2⟩ := putK_spec ht (VR.tup [] [] rfl (by simp)) hp
        exact hK _ _ _ _ h1 ⟨G, S, F, hg, h2, hdf.put _ _⟩
    · rename_i l hb
      obtain ⟨G, S, F, hg, ht, hdf⟩ := hr
      have hv := ht.2 d
      rw [hb] at hv
      obtain ⟨vs, hv, _⟩ := hv.tup_inv
      have hy : yielded ops a.tmps j = none := by
        unfold yielded
        rw [← Array.getElem?_toList, hd]
        rw [Array.getD_eq_getD_getElem?] at hv
        cases hq : a.tmps[d]? with
        | none => simp [hq]
        | some q => rw [hq] at hv; simp at hv; subst hv; simp [hq]
      rw [if_neg (by simp [Region.wanted, hgd, hy])]
      obtain ⟨t', h1, h2⟩ := putK_spec ht (VR.tup [] [] rfl (by simp)) hp
      exact hK _ _ _ _ h1 ⟨G, S, F, hg, h2, hdf.put _ _⟩
    · exact hp.elim

theorem opsP_sound (hC : CtxOk P C) (hpan : PanOk E D C Q) {ops : Array Oper} {k : TS → HP → Prop} (hQ : ∀ t h a w, k t h → Rel E D t h a w → Q .normal a w) : ∀ (r : List Oper) (i : Nat) (t : TS) (h : HP) (a : Act) (w : World), ops.toList.drop i = r →
    opsP C ops.toList r t h k → Rel E D t h a w → wpOps P ops Q (List.range' i r.length) a w
  | [], i, t, h, a, w, _, hp, hr => by simpa [wpOps] using hQ _ _ _ _ hp hr
  | o :: r, i, t, h, a, w, hd, hp, hr => by
    have ho : ops[i]? = some o := by
      have : ops.toList[i]? = some o := by
        have h1 := List.getElem?_drop (xs := ops.toList) (i := i) (j := 0)
        rw [hd] at h1
        simpa using h1.symm
      simpa using this
    have hd' : ops.toList.drop (i + 1) = r := by
      rw [← List.drop_drop, hd]; rfl
    rw [List.length_cons, List.range'_succ, wpOps_cons]
    exact opG_sound hC hpan ho hp hr (fun t h a w hk hr => opsP_sound hC hpan hQ r (i + 1) t h a w hd' hk hr)

theorem readyL_eq (ops : Array Oper) (listed : List Bool) : Region.ready .any ops listed.toArray = readyL ops.toList listed := by
  unfold Region.ready readyL
  simp only [Array.length_toList]
  refine List.filter_congr fun i _ => ?_
  simp only [Array.getElem?_toList, Array.getD_eq_getD_getElem?, List.getD_eq_getElem?_getD, List.getElem?_toArray, ← Array.all_toList]
end

end Go.Proofs.YtbfjkjdbdejnmaaGreat.Ab

/- A region is walked in one order; behind what changes memory the others are looked at again. No condition. -/
namespace Go.Proofs.YtbfjkjdbdejnmaaGreat.Ab
set_option linter.unusedVariables false
set_option linter.unusedSimpArgs false

section
variable {C : Ctx} {o : Oper} {t s : TS} {h : HP} {k : TS → HP → Prop} {n : Nat} {all : List Oper}

theorem splitG_iff {d : Option Tmp} {k : TS → Prop} : splitG all d t k ↔ k t := by
  unfold splitG
  split
  · rename_i i
    split
    · simp only [getK_eq]
      split
      · rename_i b hb
        have hlt : i < t.length := by
          rcases Nat.lt_or_ge i t.length with h | h
          · exact h
          · rw [List.getD_eq_getElem?_getD, List.getElem?_eq_none h] at hb; cases hb
        have hs : t.set i (.v (.bool b)) = t := by
          rw [← hb, List.getD_eq_getElem?_getD, List.getElem?_eq_getElem hlt]
          simp
        cases b
        · simp only [setK_eq, hs]; simp
        · simp only [setK_eq, hs]; simp
      · exact Iff.rfl
    · exact Iff.rfl
  · exact Iff.rfl
theorem splitG_fun (o : Oper) (k : TS → HP → Prop) : (fun t h => splitG all o.dst t fun t => k t h) = k := by
  funext t h; exact propext splitG_iff

theorem opG_cases (hp : opG C all o t h k) : (gOn all t o = true ∧ gOff all t o = false ∧ opP C o t h k) ∨ (gOff all t o = true ∧ k (putF t o.dst (.tup [])) h) := by
  unfold opG at hp
  simp only [splitG_fun] at hp
  split at hp
  · rename_i hg
    exact .inl ⟨by simp [gOn, hg], by simp [gOff, hg], hp⟩
  · rename_i j want hg
    obtain ⟨d, hd, hp⟩ := on_spec hp
    simp only [getK_eq] at hp
    split at hp
    · rename_i b hb
      split at hp
      · rename_i hbw
        exact .inl ⟨by simp only [gOn, hg, hd, hb]; exact hbw, by simp only [gOff, hg, hd, hb]; rw [hbw]; rfl, hp⟩
      · rename_i hbw
        rw [putK_eq] at hp
        exact .inr ⟨by simp only [gOff, hg, hd, hb]; cases hq : (b == want) <;> simp_all, hp⟩
    · rename_i l hb
      rw [putK_eq] at hp
      exact .inr ⟨by simp only [gOff, hg, hd, hb], hp⟩
    · exact hp.elim
theorem opG_on (hg : gOn all t o = true) (hp : opP C o t h k) : opG C all o t h k := by
  unfold opG
  simp only [splitG_fun]
  unfold gOn at hg
  split
  · exact hp
  · rename_i j want hq
    simp only [hq] at hg
    split at hg
    · rename_i d hd
      rw [hd]
      show getK t d _
      simp only [getK_eq]
      split at hg
      · rename_i b hb
        simp only [hb, hg, if_true]
        exact hp
      · cases hg
    · cases hg
theorem opG_off (hg : gOff all t o = true) (hp : k (putF t o.dst (.tup [])) h) : opG C all o t h k := by
  unfold opG
  simp only [splitG_fun]
  unfold gOff at hg
  split
  · rename_i hq
    simp only [hq] at hg
    cases hg
  · rename_i j want hq
    simp only [hq] at hg
    split at hg
    · rename_i d hd
      rw [hd]
      show getK t d _
      simp only [getK_eq]
      split at hg
      · rename_i b hb
        have : (b == want) = false := by simpa using hg
        simp only [hb, this]
        rw [if_neg (by simp), putK_eq]
        exact hp
      · rename_i l hb
        simp only [hb, putK_eq]
        exact hp
      · cases hg
    · cases hg

/-- Two states of the temporaries in which an operation sees the same. -/
def Agr (all : List Oper) (o : Oper) (t s : TS) : Prop := t.length = s.length ∧ ∀ d ∈ looksL all o, t.getD d .top = s.getD d .top
theorem Agr.op (ha : Agr all o t s) (y : Operand) (hy : y ∈ o.op.operands) : evF t y = evF s y := by
  cases y with
  | tmp i => exact ha.2 i (List.mem_append_left _ (List.mem_filterMap.2 ⟨.tmp i, by simpa using hy, rfl⟩))
  | _ => rfl
theorem Agr.gOn (ha : Agr all o t s) : gOn all t o = gOn all s o := by
  unfold Ab.gOn
  cases hg : o.guard with
  | none => rfl
  | some p =>
    obtain ⟨j, want⟩ := p
    simp only
    cases hd : (all[j]?).bind (·.dst) with
    | none => rfl
    | some d => simp only; rw [ha.2 d (List.mem_append_right _ (by simp only [hg, hd]; simp))]
theorem Agr.gOff (ha : Agr all o t s) : gOff all t o = gOff all s o := by
  unfold Ab.gOff
  cases hg : o.guard with
  | none => rfl
  | some p =>
    obtain ⟨j, want⟩ := p
    simp only
    cases hd : (all[j]?).bind (·.dst) with
    | none => rfl
    | some d => simp only; rw [ha.2 d (List.mem_append_right _ (by simp only [hg, hd]; simp))]
theorem opG_congr {x : AV} {h2 : HP} (ha : Agr all o t s) (hp : opG C all o t h (kx o x h2 t)) : opG C all o s h (kx o x h2 s) := by
  rcases opG_cases hp with ⟨h1, h2, h3⟩ | ⟨h1, h3⟩
  · exact opG_on (ha.gOn ▸ h1) (by rw [← opP_congr ha.1 ha.op]; exact h3)
  · refine opG_off (ha.gOff ▸ h1) ?_
    rw [← kx_congr ha.1]
    exact h3

theorem flG_spec (hf : flK C all t h o = n + 1) (hn : n = 0 ∨ n = 1) (hp : opG C all o t h k) :
    ∃ x, k (putF t o.dst x) h ∧ opG C all o t h (kx o x h t) ∧ (n = 0 → ∀ h2, opG C all o t h2 (kx o x h2 t)) := by
  rcases opG_cases hp with ⟨h1, h2, h3⟩ | ⟨h1, h3⟩
  · obtain ⟨x, a1, a2, a3⟩ := fl_spec hf h2 hn h3
    exact ⟨x, a1, opG_on h1 a2, fun hn h2 => opG_on h1 (a3 hn h2)⟩
  · exact ⟨.tup [], h3, opG_off h1 ⟨rfl, rfl⟩, fun _ h2 => opG_off h1 ⟨rfl, rfl⟩⟩
end

/-! ### What the text's Bool says -/

section
variable {ops : List Oper}
theorem wf_after (hw : wfB ops = true) {i : Nat} {o : Oper} (ho : ops[i]? = some o) {e : Edge} (he : e ∈ o.after) (hb : Region.binds .any e = true) : e.on < i := by
  have h1 := List.all_eq_true.1 hw i (List.mem_range.2 (List.getElem?_eq_some_iff.1 ho).1)
  simp only [ho, wfO, Bool.and_eq_true] at h1
  have h2 := List.all_eq_true.1 h1.1 e (by simpa using he)
  simp only [hb, Bool.not_true, Bool.false_or] at h2
  exact Nat.le_of_ble_eq_true h2
theorem last_spec {j : Nat} (h : lastB ops j = true) : j + 1 = ops.length ∧ ∃ o, ops[j]? = some o ∧ ∀ k, k < j → ∃ e ∈ o.after, Region.binds .any e = true ∧ e.on = k := by
  unfold lastB at h
  rw [Bool.and_eq_true] at h
  refine ⟨Nat.eq_of_beq_eq_true h.1, ?_⟩
  have h2 := h.2
  split at h2
  · rename_i o ho
    refine ⟨o, ho, fun k hk => ?_⟩
    have h3 := List.all_eq_true.1 h2 k (List.mem_range.2 hk)
    simp only [List.any_eq_true, Bool.and_eq_true] at h3
    obtain ⟨e, h4, h5, h6⟩ := h3
    exact ⟨e, by simpa using h4, h5, Nat.eq_of_beq_eq_true h6⟩
  · cases h2
theorem wf_looks (hw : wfB ops = true) {i j d : Nat} {o oj : Oper} (ho : ops[i]? = some o) (hj : ops[j]? = some oj) (hd : oj.dst = some d) (hl : d ∈ looksL ops o) : (∃ e ∈ o.after, Region.binds .any e = true ∧ e.on = j) ∨ (lastB ops j = true ∧ i ≠ j) := by
  have h1 := List.all_eq_true.1 hw i (List.mem_range.2 (List.getElem?_eq_some_iff.1 ho).1)
  simp only [ho, wfO, Bool.and_eq_true] at h1
  have h2 := List.all_eq_true.1 h1.2 j (List.mem_range.2 (List.getElem?_eq_some_iff.1 hj).1)
  simp only [hj, Option.bind_some, hd, Bool.and_eq_true] at h2
  have h3 := h2.1
  rw [show (looksL ops o).contains d = true by simpa using hl] at h3
  simp only [Bool.or_eq_true, Bool.and_eq_true] at h3
  rcases h3 with h3 | ⟨h3, h4⟩
  · simp only [List.any_eq_true, Bool.and_eq_true] at h3
    obtain ⟨e, h4, h5, h6⟩ := h3
    exact .inl ⟨e, by simpa using h4, h5, Nat.eq_of_beq_eq_true h6⟩
  · refine .inr ⟨h3, fun h => ?_⟩
    rw [h] at h4
    simp at h4
theorem wf_dst (hw : wfB ops = true) {i j d : Nat} {o oj : Oper} (ho : ops[i]? = some o) (hj : ops[j]? = some oj) (hd : oj.dst = some d) (hne : i ≠ j) : o.dst ≠ some d := by
  have h1 := List.all_eq_true.1 hw i (List.mem_range.2 (List.getElem?_eq_some_iff.1 ho).1)
  simp only [ho, wfO, Bool.and_eq_true] at h1
  have h2 := List.all_eq_true.1 h1.2 j (List.mem_range.2 (List.getElem?_eq_some_iff.1 hj).1)
  simp only [hj, Option.bind_some, hd, Bool.and_eq_true, Bool.or_eq_true] at h2
  rcases h2.2 with h3 | h3
  · exact absurd (Nat.eq_of_beq_eq_true h3) hne
  · intro he
    rw [he] at h3
    simp at h3

/-- Listed. -/
def Ls (X : List Bool) (i : Nat) : Prop := X[i]? = some true
theorem mem_readyL {X : List Bool} {i : Nat} : i ∈ readyL ops X ↔ i < ops.length ∧ X.getD i true = false ∧ ∃ o, ops[i]? = some o ∧ ∀ e ∈ o.after, Region.binds .any e = true → Ls X e.on := by
  unfold readyL
  rw [List.mem_filter, List.mem_range]
  have key : ∀ e : Edge, (X.getD e.on false = true) ↔ Ls X e.on := fun e => by
    unfold Ls
    rw [List.getD_eq_getElem?_getD]
    cases hq : X[e.on]? with
    | none => simp
    | some b => simp
  constructor
  · rintro ⟨h1, h2⟩
    simp only [Bool.and_eq_true, Bool.not_eq_true'] at h2
    refine ⟨h1, h2.1, _, List.getElem?_eq_getElem h1, fun e he hb => ?_⟩
    have h3 := h2.2
    rw [List.getElem?_eq_getElem h1] at h3
    simp only [Option.map_some, Option.getD_some, List.all_eq_true, Bool.or_eq_true, Bool.not_eq_true'] at h3
    rcases h3 e (by simpa using he) with h4 | h4
    · rw [hb] at h4; cases h4
    · exact (key e).1 h4
  · rintro ⟨h1, h2, o, ho, h3⟩
    refine ⟨h1, ?_⟩
    simp only [Bool.and_eq_true, Bool.not_eq_true', ho, Option.map_some, Option.getD_some, List.all_eq_true, Bool.or_eq_true]
    refine ⟨h2, fun e he => ?_⟩
    cases hb : Region.binds .any e with
    | false => exact .inl rfl
    | true => exact .inr ((key e).2 (h3 e (by simpa using he) hb))
theorem ready_ls {X : List Bool} {i : Nat} (h : i ∈ readyL ops X) : ¬ Ls X i := by
  intro hl
  have := (mem_readyL.1 h).2.1
  rw [List.getD_eq_getElem?_getD, hl] at this
  cases this
theorem ls_set {X : List Bool} {i : Nat} (hi : i < X.length) (j : Nat) : Ls (X.set i true) j ↔ Ls X j ∨ j = i := by
  unfold Ls
  rw [List.getElem?_set]
  split
  · rename_i h; subst h; simp [hi]
  · rename_i h; simp [Ne.symm h]
def cnt : List Bool → Nat
  | [] => 0
  | true :: l => cnt l
  | false :: l => cnt l + 1
theorem cnt_set : ∀ {X : List Bool} {i : Nat}, X[i]? = some false → cnt (X.set i true) + 1 = cnt X
  | [], i, h => by simp at h
  | a :: X, 0, h => by simp at h; subst h; rfl
  | a :: X, i + 1, h => by
    have := cnt_set (X := X) (i := i) (by simpa using h)
    cases a <;> simp only [List.set_cons_succ, cnt] <;> omega
theorem cnt_zero : ∀ {X : List Bool}, cnt X = 0 → ∀ i, i < X.length → Ls X i
  | [], _, i, h => by simp at h
  | true :: X, h0, 0, h => rfl
  | true :: X, h0, i + 1, h => by
    have := cnt_zero (X := X) h0 i (by simpa using h)
    simpa [Ls] using this
  | false :: X, h0, i, h => by simp [cnt] at h0
theorem cnt_rep (n : Nat) : cnt (List.replicate n false) = n := by
  induction n with
  | zero => rfl
  | succ n ih => simp only [List.replicate_succ, cnt, ih]
end

/-! ### The walk -/

section
variable {P : Program} {C : Ctx} {E : Env} {D : List Deferred × Nat} {ops : Array Oper} {Q : Exit → Act → World → Prop} {k : TS → HP → Prop}
  {X : List Bool} {R : List Nat} {t : TS} {h : HP} {L : List Bool} {tL : TS} {a : Act} {w : World}

/-- An operation may come up now and gives what is there already. -/
def Av (C : Ctx) (ops : Array Oper) (i : Nat) (t : TS) (h : HP) : Prop := ∃ o x, ops[i]? = some o ∧ opG C ops.toList o t h (kx o x h t) ∧ putF t o.dst x = t
/-- The walk's own state against a state of the run, in which some are still to come. -/
structure Jn (C : Ctx) (E : Env) (D : List Deferred × Nat) (ops : Array Oper) (X : List Bool) (R : List Nat) (t : TS) (h : HP) (L : List Bool) (tL : TS) (a : Act) (w : World) : Prop where
  lx : X.length = ops.size
  ll : L.length = ops.size
  cl : ∀ i o, Ls X i → ops[i]? = some o → ∀ e ∈ o.after, Region.binds .any e = true → Ls X e.on
  cL : ∀ i o, Ls L i → ops[i]? = some o → ∀ e ∈ o.after, Region.binds .any e = true → Ls L e.on
  sub : ∀ i, Ls L i → Ls X i
  av : ∀ i, Ls X i → ¬ Ls L i → (∀ h', Av C ops i t h') ∨ (i ∈ R ∧ Av C ops i t h)
  rel : Rel E D tL h a w
  eq : ∀ d, (∀ i o, Ls X i → ¬ Ls L i → ops[i]? = some o → o.dst ≠ some d) → tL.getD d .top = t.getD d .top
  len : tL.length = t.length
  ls : ∀ i, lastB ops.toList i = true → Ls X i → Ls L i

theorem putF_ne {t : TS} {d : Option Tmp} {x : AV} {j : Nat} (h : d ≠ some j) : (putF t d x).getD j .top = t.getD j .top := by
  cases d with
  | none => rfl
  | some i =>
    have : i ≠ j := fun he => h (he ▸ rfl)
    simp [putF, List.getD_eq_getElem?_getD, List.getElem?_set, this]
theorem putF_eq {t : TS} {x : AV} {j : Nat} (h : j < t.length) : (putF t (some j) x).getD j .top = x := by
  simp [putF, List.getD_eq_getElem?_getD, h]
theorem putF_at {t : TS} {x : AV} {j : Nat} (he : putF t (some j) x = t) (h : j < t.length) : t.getD j .top = x := by
  rw [← he]; exact putF_eq h
theorem putF_comm {t : TS} {d d' : Option Tmp} {x y : AV} (h : ∀ j, d = some j → d' ≠ some j) : putF (putF t d x) d' y = putF (putF t d' y) d x := by
  cases d with
  | none => rfl
  | some i => cases d' with
    | none => rfl
    | some j => exact List.set_comm _ _ (fun he => h i rfl (he ▸ rfl))
theorem putF_idem {t : TS} {d : Option Tmp} {x : AV} : putF (putF t d x) d x = putF t d x := by
  cases d with
  | none => rfl
  | some i => simp [putF]

/-- Another's answer makes no difference to one that was there before it. -/
theorem Av.put (hw : wfB ops.toList = true) {i m : Nat} {o om : Oper} {t : TS} {h : HP} {x : AV} (ho : ops[i]? = some o) (hm : ops[m]? = some om) (hno : ∀ e ∈ om.after, Region.binds .any e = true → e.on ≠ i) (hne : m ≠ i) (hnl : ¬ lastB ops.toList i = true) (hA : Av C ops m t h) :
    Av C ops m (putF t o.dst x) h := by
  obtain ⟨om', y, hm', h1, h2⟩ := hA
  rw [hm] at hm'; cases hm'
  have hot : ops.toList[i]? = some o := by simpa using ho
  have hmt : ops.toList[m]? = some om := by simpa using hm
  have hag : Agr ops.toList om t (putF t o.dst x) := ⟨(putF_length _ _ _).symm, fun d hd => by
    refine (putF_ne fun hod => ?_).symm
    rcases wf_looks hw hmt hot hod hd with ⟨e, he, hb, hon⟩ | h9
    · exact hno e he hb hon
    · exact hnl h9.1⟩
  refine ⟨om, y, hm, opG_congr hag h1, ?_⟩
  rw [putF_comm (fun j hj => wf_dst hw hmt hot hj hne), h2]

theorem Jn.later (j : Jn C E D ops X R t h L tL a w) (hw : wfB ops.toList = true) {i : Nat} (hi : i ∈ readyL ops.toList X) (hnla : ¬ lastB ops.toList i = true) {o : Oper} (ho : ops[i]? = some o) {x : AV} {R' : List Nat} (hR : ∀ r ∈ R, r ∈ R')
    (hav : (∀ h', opG C ops.toList o t h' (kx o x h' t)) ∨ (i ∈ R' ∧ opG C ops.toList o t h (kx o x h t))) :
    Jn C E D ops (X.set i true) R' (putF t o.dst x) h L tL a w := by
  obtain ⟨r1, r2, o', ho', r3⟩ := mem_readyL.1 hi
  have hot : ops.toList[i]? = some o := by simpa using ho
  rw [hot] at ho'; cases ho'
  have hix : i < X.length := by rw [j.lx]; simpa using r1
  have hag : Agr ops.toList o t (putF t o.dst x) := ⟨(putF_length _ _ _).symm, fun d hd => by
    refine (putF_ne fun hod => ?_).symm
    rcases wf_looks hw hot hot hod hd with ⟨e, he, hb, hon⟩ | h9
    · have := wf_after hw hot he hb
      omega
    · exact h9.2 rfl⟩
  refine ⟨by simpa using j.lx, j.ll, fun m om hm hom e he hb => ?_, j.cL, fun m hm => (ls_set hix m).2 (.inl (j.sub m hm)), fun m hm hnl => ?_, j.rel, fun d hd => ?_, by rw [putF_length]; exact j.len, fun m hml hm => ?_⟩
  · rw [ls_set hix] at hm ⊢
    rcases hm with hm | rfl
    · exact .inl (j.cl m om hm hom e he hb)
    · rw [ho] at hom; cases hom; exact .inl (r3 e he hb)
  · rw [ls_set hix] at hm
    rcases hm with hm | rfl
    · have hne : m ≠ i := fun he => ready_ls hi (he ▸ hm)
      have hml : m < ops.size := by
        have := (List.getElem?_eq_some_iff.1 hm).1
        rw [j.lx] at this
        exact this
      have hom : ops[m]? = some ops[m] := Array.getElem?_eq_getElem hml
      have hno : ∀ e ∈ (ops[m]).after, Region.binds .any e = true → e.on ≠ i := fun e he hb hon => ready_ls hi (hon ▸ j.cl m _ hm hom e he hb)
      rcases j.av m hm hnl with h1 | ⟨h1, h2⟩
      · exact .inl fun h' => (h1 h').put hw ho hom hno hne hnla
      · exact .inr ⟨hR m h1, h2.put hw ho hom hno hne hnla⟩
    · rcases hav with h1 | ⟨h1, h2⟩
      · exact .inl fun h' => ⟨o, x, ho, opG_congr hag (h1 h'), putF_idem⟩
      · exact .inr ⟨h1, o, x, ho, opG_congr hag h2, putF_idem⟩
  · rw [j.eq d (fun m om hm hnl hom => hd m om ((ls_set hix m).2 (.inl hm)) hnl hom)]
    refine (putF_ne ?_).symm
    refine hd i o ((ls_set hix i).2 (.inr rfl)) (fun hl => ready_ls hi (j.sub i hl)) ho
  · rcases (ls_set hix m).1 hm with hm | rfl
    · exact j.ls m hml hm
    · exact absurd hml hnla

/-- What an operation that may come up looks at is as the walk has it. -/
theorem Jn.agr (j : Jn C E D ops X R t h L tL a w) (hw : wfB ops.toList = true) {i : Nat} (hi : i ∈ readyL ops.toList L) {o : Oper} (ho : ops[i]? = some o) : Agr ops.toList o t tL := by
  have hot : ops.toList[i]? = some o := by simpa using ho
  refine ⟨j.len.symm, fun d hd => (j.eq d fun m om hm hnl hom hod => ?_).symm⟩
  rcases wf_looks hw hot (by simpa using hom) hod hd with ⟨e, he, hb, hon⟩ | h9
  · obtain ⟨_, _, o', ho', r3⟩ := mem_readyL.1 hi
    rw [hot] at ho'; cases ho'
    exact hnl (hon ▸ r3 e he hb)
  · exact hnl (j.ls m h9.1 hm)
theorem Jn.ready (j : Jn C E D ops X R t h L tL a w) {i : Nat} (hi : i ∈ readyL ops.toList L) (hx : ¬ Ls X i) : i ∈ readyL ops.toList X := by
  obtain ⟨r1, r2, o, ho, r3⟩ := mem_readyL.1 hi
  refine mem_readyL.2 ⟨r1, ?_, o, ho, fun e he hb => j.sub _ (r3 e he hb)⟩
  have : i < X.length := by rw [j.lx]; simpa using r1
  rw [List.getD_eq_getElem?_getD, List.getElem?_eq_getElem this]
  unfold Ls at hx
  rw [List.getElem?_eq_getElem this] at hx
  simpa using hx
theorem Jn.done (j : Jn C E D ops X R t h L tL a w) (hw : wfB ops.toList = true) (hr : readyL ops.toList L = []) : ∀ i, Ls X i → Ls L i := by
  intro i
  induction i using Nat.strongRecOn with
  | _ i ih =>
    intro hi
    apply Classical.byContradiction
    intro hnl
    have hil : i < ops.size := by
      have := (List.getElem?_eq_some_iff.1 hi).1
      rw [j.lx] at this
      exact this
    have hoi : ops[i]? = some ops[i] := Array.getElem?_eq_getElem hil
    have hot : ops.toList[i]? = some ops[i] := by rw [Array.getElem?_toList]; exact hoi
    have : i ∈ readyL ops.toList L := by
      refine mem_readyL.2 ⟨by simpa using hil, ?_, ops[i], hot, fun e he hb => ih _ (wf_after hw hot he hb) (j.cl i _ hi hoi e he hb)⟩
      have hlt : i < L.length := by rw [j.ll]; exact hil
      rw [List.getD_eq_getElem?_getD, List.getElem?_eq_getElem hlt]
      unfold Ls at hnl
      rw [List.getElem?_eq_getElem hlt] at hnl
      simpa using hnl
    rw [hr] at this
    cases this

theorem markA_sub {o : Oper} {L : List Bool} (ho : ∀ e ∈ o.after, Region.binds .any e = true → Ls L e.on) : ∀ {M : List Bool}, (∀ i, Ls M i → Ls L i) → ∀ i, Ls (markA o M) i → Ls L i := by
  unfold markA
  have ho : ∀ e ∈ o.after.toList, Region.binds .any e = true → Ls L e.on := fun e he => ho e (by simpa using he)
  generalize o.after.toList = es at ho
  induction es with
  | nil => intro M hM; exact hM
  | cons e es ih =>
    intro M hM
    rw [List.foldl_cons]
    refine ih (fun e he => ho e (List.mem_cons_of_mem _ he)) fun i hi => ?_
    split at hi
    · rename_i hb
      by_cases h : e.on = i
      · exact h ▸ ho e List.mem_cons_self hb
      · unfold Ls at hi
        rw [List.getElem?_set_ne h] at hi
        exact hM i hi
    · exact hM i hi
theorem ancs_sub {L : List Bool} (hL : ∀ i o, Ls L i → ops[i]? = some o → ∀ e ∈ o.after, Region.binds .any e = true → Ls L e.on) : ∀ (j : Nat) {M : List Bool}, (∀ i, Ls M i → Ls L i) → ∀ i, Ls (ancs ops j M) i → Ls L i
  | 0, M, hM => hM
  | j + 1, M, hM => by
    simp only [ancs]
    refine ancs_sub hL j ?_
    split
    · rename_i o hj ho
      refine markA_sub (hL j o (hM j ?_) ho) hM
      unfold Ls
      rw [List.getD_eq_getElem?_getD] at hj
      cases hq : M[j]? with
      | none => rw [hq] at hj; cases hj
      | some b => rw [hq] at hj; simp at hj; rw [hj]
    · exact hM
theorem nonAnc_mem {o : Oper} {L : List Bool} {m q : Nat} {R : List Nat} (ho : ∀ e ∈ o.after, Region.binds .any e = true → Ls L e.on) (hL : ∀ i o, Ls L i → ops[i]? = some o → ∀ e ∈ o.after, Region.binds .any e = true → Ls L e.on) (hq : q ∈ R) (hn : ¬ Ls L q) : q ∈ nonAnc ops m o R := by
  refine List.mem_filter.2 ⟨hq, ?_⟩
  rw [Bool.not_eq_true']
  cases hb : (ancs ops m (markA o (List.replicate m false))).getD q false with
  | false => rfl
  | true =>
    refine absurd (ancs_sub hL m (M := markA o (List.replicate m false)) (markA_sub (M := List.replicate m false) ho fun i hi => ?_) q ?_) hn
    · unfold Ls at hi
      rw [List.getElem?_replicate] at hi
      split at hi <;> simp at hi
    · unfold Ls
      rw [List.getD_eq_getElem?_getD] at hb
      cases hq : (ancs ops m (markA o (List.replicate m false)))[q]? with
      | none => rw [hq] at hb; cases hb
      | some b => rw [hq] at hb; simp at hb; rw [hb]
/-- As long as nothing comes up that the walk has not taken. -/
theorem held_stay (hC : CtxOk P C) (hpan : PanOk E D C Q) (hw : wfB ops.toList = true) {X : List Bool} {R : List Nat} {t : TS} {h : HP}
    (hex : ∀ g L tL a w, Jn C E D ops X R t h L tL a w → ∀ i ∈ readyL ops.toList L, ¬ Ls X i → cnt L ≤ g + 1 → wpOp P ops Q i (wpAny P .any ops Q g (L.set i true).toArray) a w)
    (hend : ∀ L tL a w, Jn C E D ops X R t h L tL a w → readyL ops.toList L = [] → Q .normal a w) :
    ∀ g L tL a w, Jn C E D ops X R t h L tL a w → cnt L ≤ g → wpAny P .any ops Q g L.toArray a w := by
  intro g
  induction g with
  | zero =>
    intro L tL a w j hc
    have hr : readyL ops.toList L = [] := by
      rw [List.eq_nil_iff_forall_not_mem]
      intro i hi
      exact ready_ls hi (cnt_zero (by omega) i (by rw [j.ll]; simpa using (mem_readyL.1 hi).1))
    simp only [wpAny, readyL_eq]
    exact ⟨hr, hend _ _ _ _ j hr⟩
  | succ g ih =>
    intro L tL a w j hc
    simp only [wpAny, readyL_eq]
    refine ⟨fun hr => hend _ _ _ _ j hr, fun i hi => ?_⟩
    have hset : L.toArray.setIfInBounds i true = (L.set i true).toArray := by simp
    rw [hset]
    by_cases hx : Ls X i
    · obtain ⟨r1, r2, o', ho', r3⟩ := mem_readyL.1 hi
      have hil : i < L.length := by rw [j.ll]; simpa using r1
      have hLi : L[i]? = some false := by
        rw [List.getElem?_eq_getElem hil]
        rw [List.getD_eq_getElem?_getD, List.getElem?_eq_getElem hil] at r2
        simpa using r2
      have hA : Av C ops i t h := (j.av i hx (ready_ls hi)).elim (fun h1 => h1 h) (fun h1 => h1.2)
      obtain ⟨o, x, ho, h1, h2⟩ := hA
      refine opG_sound hC hpan ho (opG_congr (j.agr hw hi ho) h1) j.rel fun t' h' a' w' hk hr => ?_
      obtain ⟨rfl, rfl⟩ := hk
      refine ih _ (putF tL o.dst x) _ _ ⟨j.lx, by simpa using j.ll, j.cl, fun m om hm hom e he hb => ?_, fun m hm => ?_, fun m hm hnl => j.av m hm fun hl => hnl ((ls_set hil m).2 (.inl hl)), hr, fun d hd => ?_, by rw [putF_length]; exact j.len, fun m hml hm => (ls_set hil m).2 (.inl (j.ls m hml hm))⟩ (by have := cnt_set hLi; omega)
      · rw [ls_set hil] at hm ⊢
        rcases hm with hm | rfl
        · exact .inl (j.cL m om hm hom e he hb)
        · have hot : ops.toList[m]? = some om := by rw [Array.getElem?_toList]; exact hom
          rw [hot] at ho'; cases ho'
          exact .inl (r3 e he hb)
      · rcases (ls_set hil m).1 hm with hm | rfl
        · exact j.sub m hm
        · exact hx
      · by_cases hod : o.dst = some d
        · by_cases hlt : d < t.length
          · rw [hod, putF_eq (by rw [j.len]; exact hlt)]
            rw [hod] at h2
            exact (putF_at h2 hlt).symm
          · rw [List.getD_eq_getElem?_getD, List.getElem?_eq_none (by rw [putF_length, j.len]; exact Nat.le_of_not_lt hlt), List.getD_eq_getElem?_getD, List.getElem?_eq_none (Nat.le_of_not_lt hlt)]
        · rw [putF_ne hod]
          refine j.eq d fun m om hm hnl hom => ?_
          by_cases hmi : m = i
          · subst hmi; rw [ho] at hom; cases hom; exact hod
          · exact hd m om hm (fun hl => by rcases (ls_set hil m).1 hl with hl | hl; exact hnl hl; exact hmi hl) hom
    · exact hex g L tL a w j i hi hx hc

theorem pickFl_spec {t : TS} {h : HP} : ∀ {rs : List Nat} {i n : Nat}, pickFl C ops t h rs = some (i, n) → i ∈ rs ∧ ∃ o, ops[i]? = some o ∧ flK C ops.toList t h o = n + 1
  | [], i, n, hp => by cases hp
  | r :: rs, i, n, hp => by
    unfold pickFl at hp
    split at hp
    · rename_i o ho
      split at hp
      · obtain ⟨h1, h2⟩ := pickFl_spec hp; exact ⟨List.mem_cons_of_mem _ h1, h2⟩
      · rename_i m hm
        cases hp
        exact ⟨List.mem_cons_self, o, ho, hm⟩
    · obtain ⟨h1, h2⟩ := pickFl_spec hp; exact ⟨List.mem_cons_of_mem _ h1, h2⟩
theorem reevL_spec {t : TS} {h : HP} {p : Prop} : ∀ {R : List Nat}, reevL C ops R t h p → p ∧ ∀ i ∈ R, ∃ o, ops[i]? = some o ∧ opP C o t h fun t' h' => t' = t ∧ h' = h
  | [], hp => ⟨hp, by simp⟩
  | i :: R, hp => by
    obtain ⟨h1, h2⟩ := hp
    obtain ⟨h3, h4⟩ := reevL_spec h2
    obtain ⟨o, ho, h5⟩ := on_spec h1
    refine ⟨h3, fun m hm => ?_⟩
    rcases List.mem_cons.1 hm with rfl | hm
    · exact ⟨o, ho, h5⟩
    · exact h4 m hm

theorem allL_memH {α : Type} {k : α → Prop} : ∀ {l : List α}, allL l k → ∀ a ∈ l, k a
  | [], _, a, ha => by cases ha
  | [x], h, a, ha => by rcases List.mem_cons.1 ha with rfl | ha; exact h; cases ha
  | x :: y :: l, h, a, ha => by
    rcases List.mem_cons.1 ha with rfl | ha
    · exact h.1
    · exact allL_memH (l := y :: l) h.2 a ha

theorem heldW_sound (hC : CtxOk P C) (hpan : PanOk E D C Q) (hw : wfB ops.toList = true) (hQ : ∀ t h a w, k t h → Rel E D t h a w → Q .normal a w) : ∀ (f : Nat) (X : List Bool) (R : List Nat) (t : TS) (h : HP), heldW C ops f X R t h k →
    ∀ g L tL a w, Jn C E D ops X R t h L tL a w → cnt L ≤ g → wpAny P .any ops Q g L.toArray a w := by
  have fin : ∀ X R t h, readyL ops.toList X = [] → k t h → ∀ g L tL a w, Jn C E D ops X R t h L tL a w → cnt L ≤ g → wpAny P .any ops Q g L.toArray a w := by
    intro X R t h hX hk
    refine held_stay hC hpan hw (fun g L tL a w j i hi hx _ => ?_) (fun L tL a w j hr => ?_)
    · have := j.ready hi hx
      rw [hX] at this
      cases this
    · have hd := j.done hw hr
      have : tL = t := by
        apply List.ext_getElem?
        intro d
        have h1 := j.eq d (fun i o h1 h2 => absurd (hd i h1) h2)
        rw [List.getD_eq_getElem?_getD, List.getD_eq_getElem?_getD] at h1
        have hl := j.len
        by_cases hlt : d < t.length
        · rw [List.getElem?_eq_getElem (by omega), List.getElem?_eq_getElem hlt] at h1 ⊢
          simpa using h1
        · rw [List.getElem?_eq_none (by omega), List.getElem?_eq_none (by omega)]
      exact hQ _ _ _ _ (this ▸ hk) (by have := j.rel; subst tL; exact this)
  have last : ∀ X R t h (i : Nat), lastB ops.toList i = true → i ∈ readyL ops.toList X → ∀ o, ops[i]? = some o → ∀ x, opG C ops.toList o t h (kx o x h t) → ∀ R', (∀ g L tL a w, Jn C E D ops (X.set i true) R' (putF t o.dst x) h L tL a w → cnt L ≤ g → wpAny P .any ops Q g L.toArray a w) →
      ∀ g L tL a w, Jn C E D ops X R t h L tL a w → cnt L ≤ g → wpAny P .any ops Q g L.toArray a w := by
    intro X R t h i hla hiX o ho x hG R' ih
    obtain ⟨l1, o9, l2, l3⟩ := last_spec hla
    have hot : ops.toList[i]? = some o := by simpa using ho
    rw [hot] at l2; cases l2
    obtain ⟨x1, x2, o', ho', x3⟩ := mem_readyL.1 hiX
    rw [hot] at ho'; cases ho'
    refine held_stay hC hpan hw (fun g L tL a w j m hm hx hc => ?_) (fun L tL a w j hr => ?_)
    · have hmi : m = i := by
        have hml := (mem_readyL.1 hm).1
        apply Classical.byContradiction
        intro hne
        obtain ⟨e, he, hb, hon⟩ := l3 m (by omega)
        exact hx (hon ▸ x3 e he hb)
      subst hmi
      obtain ⟨_, r2, o', ho', hL3⟩ := mem_readyL.1 hm
      rw [hot] at ho'; cases ho'
      have hil : m < L.length := by rw [j.ll]; simpa using x1
      have hix : m < X.length := by rw [j.lx]; simpa using x1
      have hLi : L[m]? = some false := by
        rw [List.getElem?_eq_getElem hil]
        rw [List.getD_eq_getElem?_getD, List.getElem?_eq_getElem hil] at r2
        simpa using r2
      have hall : ∀ q, Ls X q → Ls L q := fun q hq => by
        have hql : q < ops.size := by
          have := (List.getElem?_eq_some_iff.1 hq).1
          rw [j.lx] at this
          exact this
        have hne : q ≠ m := fun h => hx (h ▸ hq)
        obtain ⟨e, he, hb, hon⟩ := l3 q (by have : q < ops.toList.length := by simpa using hql
                                            omega)
        exact hon ▸ hL3 e he hb
      refine opG_sound hC hpan ho (opG_congr (j.agr hw hm ho) hG) j.rel fun t' h' a' w' hk hr => ?_
      obtain ⟨rfl, rfl⟩ := hk
      refine ih g _ (putF tL o.dst x) _ _ ⟨by simpa using j.lx, by simpa using j.ll, fun q oq hq hoq e he hb => ?_, fun q oq hq hoq e he hb => ?_, fun q hq => ?_, fun q hq hnl => ?_, hr, fun d hd => ?_, by rw [putF_length, putF_length]; exact j.len, fun q hql hq => ?_⟩ (by have := cnt_set hLi; omega)
      · rw [ls_set hix] at hq ⊢
        rcases hq with hq | rfl
        · exact .inl (j.cl q oq hq hoq e he hb)
        · rw [ho] at hoq; cases hoq; exact .inl (x3 e he hb)
      · rw [ls_set hil] at hq ⊢
        rcases hq with hq | rfl
        · exact .inl (j.cL q oq hq hoq e he hb)
        · rw [ho] at hoq; cases hoq; exact .inl (hL3 e he hb)
      · rw [ls_set hil] at hq
        rw [ls_set hix]
        exact hq.imp (j.sub q) id
      · rw [ls_set hix] at hq
        rw [ls_set hil] at hnl
        exact absurd (hq.imp (hall q) id) hnl
      · by_cases hod : o.dst = some d
        · rw [hod]
          by_cases hlt : d < t.length
          · rw [putF_eq hlt, putF_eq (by rw [j.len]; exact hlt)]
          · rw [List.getD_eq_getElem?_getD, List.getElem?_eq_none (by rw [putF_length, j.len]; exact Nat.le_of_not_lt hlt), List.getD_eq_getElem?_getD, List.getElem?_eq_none (by rw [putF_length]; exact Nat.le_of_not_lt hlt)]
        · rw [putF_ne hod, putF_ne hod]
          exact j.eq d fun q oq hq hnl hoq => absurd (hall q hq) hnl
      · rw [ls_set hix] at hq
        rw [ls_set hil]
        exact hq.imp (hall q) id
    · have hd := j.done hw hr
      have hil : i ∈ readyL ops.toList L := by
        refine mem_readyL.2 ⟨x1, ?_, o, hot, fun e he hb => hd _ (x3 e he hb)⟩
        have hlt : i < L.length := by rw [j.ll]; simpa using x1
        rw [List.getD_eq_getElem?_getD, List.getElem?_eq_getElem hlt]
        have : ¬ Ls L i := fun h => ready_ls hiX (j.sub i h)
        unfold Ls at this
        rw [List.getElem?_eq_getElem hlt] at this
        simpa using this
      rw [hr] at hil
      cases hil
  intro f
  induction f with
  | zero => exact fun X R t h hp => fin X R t h hp.1 hp.2
  | succ f ih =>
    intro X R t h hp
    simp only [heldW] at hp
    split at hp
    · rename_i hX
      exact fin X R t h hX hp
    · rename_i rs hne
      split at hp
      · rename_i i hpk
        obtain ⟨hi, o, ho, hf⟩ := pickFl_spec hpk
        rw [ho] at hp
        obtain ⟨x, h1, h2, h3⟩ := flG_spec hf (.inl rfl) hp
        intro g L tL a w j hc
        by_cases hla : lastB ops.toList i = true
        · exact last _ _ _ _ i hla hi _ ho x h2 _ (ih _ _ _ _ h1) g L tL a w j hc
        exact ih _ _ _ _ h1 g L tL a w (j.later hw hi hla ho (fun _ h => h) (.inl (h3 rfl))) hc
      · rename_i i hpk
        obtain ⟨hi, o, ho, hf⟩ := pickFl_spec hpk
        rw [ho] at hp
        obtain ⟨x, h1, h2, h3⟩ := flG_spec hf (.inr rfl) hp
        intro g L tL a w j hc
        by_cases hla : lastB ops.toList i = true
        · exact last _ _ _ _ i hla hi _ ho x h2 _ (ih _ _ _ _ h1) g L tL a w j hc
        exact ih _ _ _ _ h1 g L tL a w (j.later hw hi hla ho (fun _ h => List.mem_cons_of_mem _ h) (.inr ⟨List.mem_cons_self, h2⟩)) hc
      · rename_i i m _ _ hpk
        obtain ⟨hi, o, ho, hf⟩ := pickFl_spec hpk
        rw [ho] at hp
        simp only [on] at hp
        split at hp
        · rename_i hon
          obtain ⟨x, h1, h2⟩ := hp
          rw [putK_eq, splitG_iff] at h2
          intro g L tL a w j hc
          by_cases hla : lastB ops.toList i = true
          · exact last _ _ _ _ i hla hi _ ho x (opG_on hon h1) _ (ih _ _ _ _ h2) g L tL a w j hc
          exact ih _ _ _ _ h2 g L tL a w (j.later hw hi hla ho (fun _ h => List.mem_cons_of_mem _ h) (.inr ⟨List.mem_cons_self, opG_on hon h1⟩)) hc
        · exact hp.elim
      · rename_i hnone
        have hall := fun i (hi : i ∈ readyL ops.toList X) => allL_memH hp i hi
        obtain ⟨i0, hi0⟩ : ∃ i, i ∈ readyL ops.toList X := by
          cases hq : readyL ops.toList X with
          | nil => exact absurd hq hne
          | cons a l => exact ⟨a, List.mem_cons_self⟩
        clear hp
        refine held_stay hC hpan hw (fun g L tL a w j m hm hx hc => ?_) (fun L tL a w j hr => ?_)
        · have hmi := j.ready hm hx
          obtain ⟨o, ho, hp⟩ := on_spec (hall m hmi)
          split at hp
          · rename_i hon
            obtain ⟨Res, h1, hp⟩ : ∃ Res : AV → HP → Prop, (∀ s : TS, Agr ops.toList o t s → opP C o s h (kr o Res s)) ∧ ∀ x h2, Res x h2 → (putK t o.dst x fun t => splitG ops.toList o.dst t fun t => reevL C ops (nonAnc ops m o R) t h2 (heldW C ops f (X.set m true) (nonAnc ops m o R) t h2 k)) := by
              rcases hp with ⟨x, h2, h1, hp⟩ | ⟨Res, h1, hp⟩
              · refine ⟨fun y h' => y = x ∧ h' = h2, fun s hag => ?_, fun y h' hy => by obtain ⟨rfl, rfl⟩ := hy; exact hp⟩
                have h1 : opP C o t h (kx o x h2 t) := h1
                rw [opP_congrK (k2 := kr o (fun y h' => y = x ∧ h' = h2) s) hag.op (fun z h' => by
                  rw [putK_eq, putK_eq, kx_congr hag.1]
                  unfold kx kr
                  exact propext ⟨fun ⟨a1, a2⟩ => ⟨x, h2, ⟨rfl, rfl⟩, a1, a2⟩, fun ⟨_, _, ⟨a0, a0'⟩, a1, a2⟩ => ⟨a0 ▸ a1, a2.trans a0'⟩⟩)] at h1
                exact h1
              · refine ⟨Res, fun s hag => ?_, hp⟩
                have h1 : opP C o t h (kr o Res t) := h1
                rwa [opP_congrR hag.1 hag.op] at h1
            obtain ⟨r1, r2, o', ho', r3⟩ := mem_readyL.1 hmi
            have hot : ops.toList[m]? = some o := by simpa using ho
            rw [hot] at ho'; cases ho'
            have hil : m < L.length := by rw [j.ll]; simpa using r1
            have hix : m < X.length := by rw [j.lx]; simpa using r1
            have hLi : L[m]? = some false := by
              have := (mem_readyL.1 hm).2.1
              rw [List.getElem?_eq_getElem hil]
              rw [List.getD_eq_getElem?_getD, List.getElem?_eq_getElem hil] at this
              simpa using this
            have hL3 : ∀ e ∈ o.after, Region.binds .any e = true → Ls L e.on := by
              obtain ⟨_, _, o', ho', q3⟩ := mem_readyL.1 hm
              rw [hot] at ho'; cases ho'
              exact q3
            refine opG_sound hC hpan ho (opG_on ((j.agr hw hm ho).gOn ▸ hon) (h1 tL (j.agr hw hm ho))) j.rel fun t' h' a' w' hk hr => ?_
            obtain ⟨x, h2, hres, rfl, rfl⟩ := hk
            have hp := hp x _ hres
            rw [putK_eq, splitG_iff] at hp
            obtain ⟨hp, hre⟩ := reevL_spec hp
            refine ih _ _ _ _ hp g _ (putF tL o.dst x) _ _ ⟨by simpa using j.lx, by simpa using j.ll, fun q oq hq hoq e he hb => ?_, fun q oq hq hoq e he hb => ?_, fun q hq => ?_, fun q hq hnl => ?_, hr, fun d hd => ?_, by rw [putF_length, putF_length]; exact j.len, fun q hql hq => ?_⟩ (by have := cnt_set hLi; omega)
            · rw [ls_set hix] at hq ⊢
              rcases hq with hq | rfl
              · exact .inl (j.cl q oq hq hoq e he hb)
              · rw [ho] at hoq; cases hoq; exact .inl (r3 e he hb)
            · rw [ls_set hil] at hq ⊢
              rcases hq with hq | rfl
              · exact .inl (j.cL q oq hq hoq e he hb)
              · rw [ho] at hoq; cases hoq; exact .inl (hL3 e he hb)
            · rw [ls_set hil] at hq
              rw [ls_set hix]
              exact hq.imp (j.sub q) id
            · rw [ls_set hix] at hq
              rw [ls_set hil] at hnl
              have hqm : q ≠ m := fun he => hnl (.inr he)
              have hq : Ls X q := hq.resolve_right hqm
              have hql : q < ops.size := by
                have := (List.getElem?_eq_some_iff.1 hq).1
                rw [j.lx] at this
                exact this
              have hoq : ops[q]? = some ops[q] := Array.getElem?_eq_getElem hql
              have hno : ∀ e ∈ (ops[q]).after, Region.binds .any e = true → e.on ≠ m := fun e he hb hon => ready_ls hmi (hon ▸ j.cl q _ hq hoq e he hb)
              have hnlm : ¬ lastB ops.toList m = true := fun hlm => by
                obtain ⟨l1, o9, l2, l3⟩ := last_spec hlm
                rw [hot] at l2; cases l2
                have hq9 : q < m := by
                  have : q < ops.toList.length := by simpa using hql
                  omega
                obtain ⟨e, he, hb, hon⟩ := l3 q hq9
                exact hnl (.inl (hon ▸ hL3 e he hb))
              rcases j.av q hq (fun h => hnl (.inl h)) with h3 | ⟨h3, h4⟩
              · exact .inl fun h' => (h3 h').put hw ho hoq hno hqm hnlm
              · have h3 : q ∈ nonAnc ops m o R := nonAnc_mem hL3 j.cL h3 (fun h => hnl (.inl h))
                refine .inr ⟨h3, ?_⟩
                obtain ⟨oq, hoq', h5⟩ := hre q h3
                obtain ⟨oq', y, hoq'', h6, h7⟩ := h4.put (x := x) hw ho hoq hno hqm hnlm
                rw [hoq'] at hoq''; cases hoq''
                refine ⟨oq, y, hoq', ?_, h7⟩
                have e5 : ∀ h2, (kx oq y h2 (putF t o.dst x)) = (fun t' h' => t' = putF t o.dst x ∧ h' = h2) := fun h2 => by funext t' h'; unfold kx; rw [h7]
                rcases opG_cases h6 with ⟨h8, _, _⟩ | ⟨h8, h9⟩
                · exact opG_on h8 (by rw [e5]; exact h5)
                · exact opG_off h8 (by rw [e5] at h9 ⊢; exact ⟨h9.1, rfl⟩)
            · by_cases hod : o.dst = some d
              · rw [hod]
                by_cases hlt : d < t.length
                · rw [putF_eq hlt, putF_eq (by rw [j.len]; exact hlt)]
                · rw [List.getD_eq_getElem?_getD, List.getElem?_eq_none (by rw [putF_length, j.len]; exact Nat.le_of_not_lt hlt), List.getD_eq_getElem?_getD, List.getElem?_eq_none (by rw [putF_length]; exact Nat.le_of_not_lt hlt)]
              · rw [putF_ne hod, putF_ne hod]
                refine j.eq d fun q oq hq hnl hoq => hd q oq ((ls_set hix q).2 (.inl hq)) (fun hl => ?_) hoq
                rcases (ls_set hil q).1 hl with hl | rfl
                · exact hnl hl
                · exact hx hq
            · rw [ls_set hix] at hq
              rw [ls_set hil]
              exact hq.imp (j.ls q hql) id
          · exact hp.elim
        · obtain ⟨r1, r2, o, hot, r3⟩ := mem_readyL.1 hi0
          have hd := j.done hw hr
          have hil : i0 ∈ readyL ops.toList L := by
            refine mem_readyL.2 ⟨r1, ?_, o, hot, fun e he hb => hd _ (r3 e he hb)⟩
            have hlt : i0 < L.length := by rw [j.ll]; simpa using r1
            rw [List.getD_eq_getElem?_getD, List.getElem?_eq_getElem hlt]
            have : ¬ Ls L i0 := fun h => ready_ls hi0 (j.sub i0 h)
            unfold Ls at this
            rw [List.getElem?_eq_getElem hlt] at this
            simpa using this
          rw [hr] at hil
          cases hil

theorem openH_spec : ∀ (rs : List Nat) {t : TS} {h : HP} {a : Act} {w : World} {k : HP → Prop}, Rel E D t h a w → openH rs h k → ∃ h', k h' ∧ Rel E D t h' a w
  | [], t, h, a, w, k, hr, hp => ⟨h, hp, hr⟩
  | r :: rs, t, h, a, w, k, hr, hp => by
    unfold openH at hp
    split at hp
    · rename_i cells hroot
      split at hp
      · rename_i hany
        obtain ⟨x, rts, hp, hO⟩ := outK_spec _ _ _ hp
        rw [setK_eq] at hp
        obtain ⟨G, S, F, hg, ht, hd⟩ := hr
        have hrl := (List.getElem?_eq_some_iff.1 hroot).1
        have hrG : r < G.length := by rw [hg.len]; exact hrl
        have hgr : G[r]? = some G[r] := List.getElem?_eq_getElem hrG
        have hpos : 0 < cells.length := by cases cells <;> simp at hany ⊢
        obtain ⟨G', F', b, ca, T, a1, a2, _⟩ := hg.outSeg (pre := []) (post := []) (rt' := .box x) hO rfl hroot hgr (by simp [Flat]) (by simpa using hpos) trivial (by simp [Flat])
        exact openH_spec rs ⟨G', S, F', a1, ht.ext (hg.ext_none (Chg.refl w _) a2), hd⟩ hp
      · exact openH_spec rs hr hp
    · exact openH_spec rs hr hp

theorem heldP_sound (hC : CtxOk P C) (hpan : PanOk E D C Q) (hQ : ∀ t h a w, k t h → Rel E D t h a w → Q .normal a w) {t : TS} {h : HP} {a : Act} {w : World} (hp : heldP C ops t h k) (hr : Rel E D t h a w) :
    wpAny P .any ops Q ops.toList.length (List.replicate ops.toList.length false).toArray a w := by
  obtain ⟨hw, hp⟩ := hp
  obtain ⟨h', hp, hr⟩ := openH_spec _ hr hp
  refine heldW_sound hC hpan hw hQ _ _ _ _ _ hp _ _ t a w ⟨by simp, by simp, fun i o hi => ?_, fun i o hi => ?_, fun i hi => hi, fun i hi => ?_, hr, fun d _ => rfl, rfl, fun i _ hi => hi⟩ (by rw [cnt_rep]; exact Nat.le_refl _)
  · exact absurd hi (by unfold Ls; rw [List.getElem?_replicate]; split <;> simp)
  · exact absurd hi (by unfold Ls; rw [List.getElem?_replicate]; split <;> simp)
  · exact absurd hi (by unfold Ls; rw [List.getElem?_replicate]; split <;> simp)
end
end Go.Proofs.YtbfjkjdbdejnmaaGreat.Ab
