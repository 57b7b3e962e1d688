/- Functions walked, part 12. No condition. -/
import Derived.Test.YtbfjkjdbdejnmaaGreatWalk11
import Derived.Test.YtbfjkjdbdejnmaaGreatWalk6
import Derived.Test.YtbfjkjdbdejnmaaGreatWalk8
import Derived.Test.YtbfjkjdbdejnmaaGreatWalk9
import Derived.Test.YtbfjkjdbdejnmaaGreatWalk10
set_option linter.unusedVariables false
set_option linter.unusedSimpArgs false
/- Images: what they are, in plain words. No condition. -/
namespace Go.Proofs.YtbfjkjdbdejnmaaGreat.Ab
set_option linter.unusedVariables false
set_option linter.unusedSimpArgs false

def pourN (b : List Int) (a : Nat) (ws : List Int) : Nat → List Int
  | 0 => b
  | i + 1 => putY (pourN b a ws i) (a + 4 * i) (ws.getD i 0) 4
def banksN (f : List Int) (p : Pl) (m : Mo) : Nat → List Int
  | 0 => f
  | k + 1 => pourN (banksN f p m k) (p.banks.getD k 0).toNat (m.banks.getD k []) (m.banks.getD k []).length
def lowAt (r : List Int) (a : Nat) : Int := lowB ((r.drop a).take 4)
def relsN (r : List Int) (a : Nat) (d : Int) (rs : List Int) : Nat → List Int
  | 0 => r
  | k + 1 => putY (relsN r a d rs k) (a + (rs.getD k 0).toNat) ((lowAt (relsN r a d rs k) (a + (rs.getD k 0).toNat) + d) % 4294967296) 4
def layB (r : List Int) (a : Nat) (xs : List Int) : List Int := r.take a ++ xs ++ r.drop (a + xs.length)
def flashN (ms : List Mo) (l : La) : Nat → List Int
  | 0 => List.replicate l.flash.toNat 0
  | i + 1 => match ms[i]?, l.pls[i]? with
    | some m, some p => banksN (pourN (flashN ms l i) p.text.toNat m.text m.text.length) p m m.banks.length
    | _, _ => flashN ms l i
def ramN (ms : List Mo) (l : La) : Nat → List Int
  | 0 => List.replicate l.ram.toNat 0
  | i + 1 => match ms[i]?, l.pls[i]? with
    | some m, some p => relsN (layB (ramN ms l i) (p.data - 65536).toNat m.data) (p.data - 65536).toNat p.data m.rels m.rels.length
    | _, _ => ramN ms l i
theorem pourN_len (b : List Int) (a : Nat) (ws : List Int) (n : Nat) : (pourN b a ws n).length = b.length := by
  induction n with
  | zero => rfl
  | succ n ih => rw [pourN, putY_len, ih]
theorem banksN_len (f : List Int) (p : Pl) (m : Mo) (n : Nat) : (banksN f p m n).length = f.length := by
  induction n with
  | zero => rfl
  | succ n ih => rw [banksN, pourN_len, ih]
theorem relsN_len (r : List Int) (a : Nat) (d : Int) (rs : List Int) (n : Nat) : (relsN r a d rs n).length = r.length := by
  induction n with
  | zero => rfl
  | succ n ih => rw [relsN, putY_len, ih]
theorem layB_len {r : List Int} {a : Nat} {xs : List Int} (h : a + xs.length ≤ r.length) : (layB r a xs).length = r.length := by
  simp only [layB, List.length_append, List.length_take, List.length_drop]
  omega
theorem flashN_len (ms : List Mo) (l : La) (i : Nat) : (flashN ms l i).length = l.flash.toNat := by
  induction i with
  | zero => simp [flashN]
  | succ i ih =>
    unfold flashN
    split
    · rw [banksN_len, pourN_len, ih]
    · exact ih
theorem bytes_set {l : List Int} (h : BytesOk l) {i : Nat} {x : Int} (hx : 0 ≤ x ∧ x ≤ 255) : BytesOk (l.set i x) := by
  intro b hb
  rcases List.mem_or_eq_of_mem_set hb with h1 | h1
  · exact h b h1
  · exact h1 ▸ hx
theorem putY_ok {l : List Int} (h : BytesOk l) (p : Nat) (v : Int) (n : Nat) : BytesOk (putY l p v n) := by
  induction n with
  | zero => exact h
  | succ n ih =>
    refine bytes_set ih ?_
    unfold byteV
    omega
theorem relsN_ok {r : List Int} (h : BytesOk r) (a : Nat) (d : Int) (rs : List Int) (n : Nat) : BytesOk (relsN r a d rs n) := by
  induction n with
  | zero => exact h
  | succ n ih => exact putY_ok ih _ _ _
theorem layB_ok {r xs : List Int} (h : BytesOk r) (h2 : BytesOk xs) (a : Nat) : BytesOk (layB r a xs) := by
  intro b hb
  unfold layB at hb
  rcases List.mem_append.1 hb with hb | hb
  · rcases List.mem_append.1 hb with hb | hb
    · exact h b (List.mem_of_mem_take hb)
    · exact h2 b hb
  · exact h b (List.mem_of_mem_drop hb)
theorem ramN_ok {ms : List Mo} (hd : ∀ m ∈ ms, BytesOk m.data) (l : La) (i : Nat) : BytesOk (ramN ms l i) := by
  induction i with
  | zero =>
    intro b hb
    have := List.eq_of_mem_replicate hb
    omega
  | succ i ih =>
    unfold ramN
    split
    · rename_i m p hm hp
      exact relsN_ok (layB_ok ih (hd m (List.mem_of_getElem? hm)) _) _ _ _ _
    · exact ih
theorem rup_ge (n : Nat) : n ≤ rup n := by unfold rup; omega
theorem bkP_mono (bs : List (List Int)) (f : Nat) {k n : Nat} (h : k ≤ n) : (bkP bs f k).2 ≤ (bkP bs f n).2 := by
  induction n with
  | zero => have : k = 0 := by omega
            subst this
            exact Nat.le_refl _
  | succ n ih =>
    rcases Nat.lt_or_ge k (n + 1) with r | r
    · refine Nat.le_trans (ih (by omega)) ?_
      conv => rhs; unfold bkP
      split
      · exact Nat.le_add_right _ _
      · exact Nat.le_refl _
    · have : k = n + 1 := by omega
      subst this
      exact Nat.le_refl _
theorem bkP_get {bs : List (List Int)} {f : Nat} : ∀ {n k : Nat} {b : List Int}, k < n → n ≤ bs.length → bs[k]? = some b → (bkP bs f n).1[k]? = some ((bkP bs f k).2 : Int) ∧ (bkP bs f k).2 + rup (4 * b.length) ≤ (bkP bs f n).2
  | 0, k, b, h, _, _ => by omega
  | n + 1, k, b, h, hn, hb => by
    have hl := bkP_len bs f (k := n) (by omega)
    obtain ⟨b', hb'⟩ : ∃ b', bs[n]? = some b' := ⟨_, List.getElem?_eq_getElem (by omega)⟩
    rcases Nat.lt_or_ge k n with r | r
    · obtain ⟨h1, h2⟩ := bkP_get (f := f) r (by omega) hb
      refine ⟨?_, Nat.le_trans h2 (bkP_mono _ _ (Nat.le_succ _))⟩
      rw [bkP_at bs f hb', List.getElem?_append_left (by omega)]
      exact h1
    · have : k = n := by omega
      subst this
      rw [hb] at hb'
      cases hb'
      rw [bkP_at bs f hb]
      refine ⟨?_, Nat.le_refl _⟩
      rw [List.getElem?_append_right (by omega), hl, Nat.sub_self]
      rfl
theorem bkP_ge (bs : List (List Int)) (f k : Nat) : f ≤ (bkP bs f k).2 := bkP_mono bs f (Nat.zero_le k)
theorem plP_mono (ms : List Mo) {k n : Nat} (h : k ≤ n) : (plP ms k).2.1 ≤ (plP ms n).2.1 ∧ (plP ms k).2.2 ≤ (plP ms n).2.2 := by
  induction n with
  | zero => have : k = 0 := by omega
            subst this
            exact ⟨Nat.le_refl _, Nat.le_refl _⟩
  | succ n ih =>
    rcases Nat.lt_or_ge k (n + 1) with r | r
    · obtain ⟨i1, i2⟩ := ih (by omega)
      cases hm : ms[n]? with
      | none =>
        have : plP ms (n + 1) = plP ms n := by rw [plP, hm]
        rw [this]
        exact ⟨i1, i2⟩
      | some m =>
        rw [plP_at hm]
        refine ⟨Nat.le_trans i1 (Nat.le_trans (Nat.le_add_right _ _) (bkP_ge _ _ _)), Nat.le_trans i2 (Nat.le_add_right _ _)⟩
    · have : k = n + 1 := by omega
      subst this
      exact ⟨Nat.le_refl _, Nat.le_refl _⟩
/-- Where the pieces of a layout that Link gives lie. -/
structure At (l : La) (m : Mo) (p : Pl) : Prop where
  text : 0 ≤ p.text ∧ p.text + 4 * m.text.length ≤ l.flash
  bn : p.banks.length = m.banks.length
  banks : ∀ (k : Nat) a b, p.banks[k]? = some a → m.banks[k]? = some b → 0 ≤ a ∧ a + 4 * b.length ≤ l.flash
  data : 65536 ≤ p.data ∧ p.data - 65536 + m.data.length ≤ l.ram
  rels : ∀ r ∈ m.rels, 0 ≤ r ∧ r + 4 ≤ m.data.length
  mo : GoodM m
structure Lim (ms : List Mo) (l : La) : Prop where
  len : 1 ≤ ms.length ∧ ms.length ≤ 4
  pls : l.pls.length = ms.length
  fl : 0 ≤ l.flash ∧ l.flash ≤ 16384
  ram : 0 ≤ l.ram ∧ l.ram ≤ 16384
  at' : ∀ (i : Nat) p m, l.pls[i]? = some p → ms[i]? = some m → At l m p
theorem rels_bd {m : Mo} (h : modOk m = 0) : ∀ r ∈ m.rels, 0 ≤ r ∧ r + 4 ≤ m.data.length := by
  intro r hr
  obtain ⟨_, _, _, h4, _⟩ := modOk_parts h
  simp only [relsB, Bool.and_eq_true, decide_eq_true_eq, List.all_eq_true, List.mem_range] at h4
  obtain ⟨i, hi, rfl⟩ := List.mem_iff_getElem.1 hr
  have := h4.2 i hi
  rw [relB_val (List.getElem?_eq_getElem hi), decide_eq_true_eq] at this
  omega
theorem mods_ok {ms : List Mo} {c : Cf} (h : soundF ms c = 0) : ∀ m ∈ ms, modOk m = 0 := by
  unfold soundF at h
  repeat' split at h
  all_goals first | (exfalso; omega) | skip
  rename_i h1 h2 h3 h4
  simp only [Bool.not_eq_false, List.all_eq_true, decide_eq_true_eq] at h3
  exact h3
theorem link_room {ms : List Mo} {c : Cf} (h : linkC ms c = 0) : (laF ms c).flash ≤ 16384 ∧ (laF ms c).ram ≤ 16384 := by
  unfold linkC at h
  repeat' split at h
  all_goals first | (exfalso; omega) | skip
  constructor <;> omega
theorem slP_ge (w r k : Nat) : r ≤ (slP w r k).2 := by
  induction k with
  | zero => exact Nat.le_refl _
  | succ k ih => exact Nat.le_trans ih (Nat.le_add_right _ _)
theorem lim_of {ms : List Mo} {l : La} {w : Int} (h : GivesP ms l w) : Lim ms l := by
  have hk := lk_of h
  obtain ⟨hc, hl⟩ := h
  have hso : soundF ms (cfL l w) = 0 := by
    unfold linkC at hc
    split at hc
    · omega
    · omega
  obtain ⟨rm1, rm2⟩ := link_room hc
  have hmo := mods_ok hso
  generalize hcf : cfL l w = c at *
  have ef : l.flash = ((plP ms ms.length).2.1 : Int) := by rw [← hl]; rfl
  have er : l.ram = ((slP c.words.toNat ((plP ms ms.length).2.2 + c.stack.toNat) c.slots.toNat).2 : Int) := by rw [← hl]; rfl
  have hge := slP_ge c.words.toNat ((plP ms ms.length).2.2 + c.stack.toNat) c.slots.toNat
  rw [hl] at rm1 rm2
  refine ⟨hk.len, hk.pls, ⟨by omega, rm1⟩, ⟨by omega, rm2⟩, fun i p m hp hm => ?_⟩
  have hi := (List.getElem?_eq_some_iff.1 hm).1
  have e : l.pls = (plP ms ms.length).1 := by rw [← hl]; rfl
  have hbn := (hk.bk i p m hp hm).1
  rw [e, plP_get hi (Nat.le_refl _) hm] at hp
  cases hp
  have g := hk.mo m (List.mem_of_getElem? hm)
  obtain ⟨q1, q2⟩ := plP_mono ms (k := i + 1) (n := ms.length) (by omega)
  rw [plP_at hm] at q1 q2
  have b0 := bkP_ge m.banks ((plP ms i).2.1 + rup (4 * m.text.length)) m.banks.length
  have r1 := rup_ge (4 * m.text.length)
  have r2 := rup_ge (m.data.length + m.bss.toNat)
  have h5 := g.bss
  dsimp only [moSz] at q1 q2
  refine ⟨⟨by dsimp only; omega, by dsimp only; omega⟩, hbn, fun k a b ha hb => ?_, ⟨by dsimp only; omega, by dsimp only; omega⟩, rels_bd (hmo m (List.mem_of_getElem? hm)), g⟩
  have hkb := (List.getElem?_eq_some_iff.1 hb).1
  obtain ⟨s1, s2⟩ := bkP_get (f := (plP ms i).2.1 + rup (4 * m.text.length)) hkb (Nat.le_refl _) hb
  simp only at ha
  rw [s1] at ha
  cases ha
  have r3 := rup_ge (4 * b.length)
  constructor <;> omega
theorem ramN_len {ms : List Mo} {l : La} (h : Lim ms l) (i : Nat) : (ramN ms l i).length = l.ram.toNat := by
  induction i with
  | zero => simp [ramN]
  | succ i ih =>
    unfold ramN
    split
    · rename_i m p hm hp
      have := (h.at' i p m hp hm).data
      rw [relsN_len, layB_len (by omega), ih]
    · exact ih
end Go.Proofs.YtbfjkjdbdejnmaaGreat.Ab

/- Images: words put into bytes. No condition. -/
namespace Go.Proofs.YtbfjkjdbdejnmaaGreat.Ab
set_option linter.unusedVariables false
set_option linter.unusedSimpArgs false
set_option maxRecDepth 100000

def hPut4 : CH := fun args hl K => match args, hl with
  | [.slc 0 o n _, .v (.int .i64 v)], [.lst 1 L] => ∃ bs : List Int, L = bs.map byteC ∧ n = 4 ∧ o + 4 ≤ bs.length ∧ K (.tup []) [.lst 1 ((putY bs o v 4).map byteC)]
  | _, _ => False
def cx_s_put : Ctx := mkC []
theorem cx_s_put_ok : CtxOk Tryz.prog cx_s_put := cx0_ok
set_option maxRecDepth 100000 in
set_option pp.maxSteps 1500 in
set_option maxHeartbeats 4000000 in
theorem s_put : HSound Tryz.prog 111 (callM [.rw] false hPut4) := by
  refine callM_sound cx_s_put_ok mixed Tryz.func111 rfl fun args hl K hp => ?_
  unfold hPut4 at hp
  split at hp
  · rename_i p n z0 v L
    obtain ⟨r, rfl, rfl, hlen, key⟩ := hp
    obtain ⟨e0, e1, e2, e3⟩ := shB_eq v
    repeat' ((first | refine And.intro (by decide) ?_ | refine And.intro (fun h9 => ?_) (fun h9 => ?_)) <;> try (exfalso; simp at h9; done))
    repeat' (refine And.intro (by decide) ?_)
    refine Exists.intro 3 (And.intro rfl (And.intro (by omega) ?_))
    obtain ⟨b3, g3⟩ := allB_get (allB_map r) (p + 3) (by simp; omega)
    refine Exists.intro _ (And.intro g3 (And.intro (by decide) ?_))
    repeat' (refine And.intro (by decide) ?_)
    refine Exists.intro 2 (And.intro rfl (And.intro (by omega) ?_))
    obtain ⟨b2, g2⟩ := allB_get (allB_set (allB_map r) (p + 3) (shB v 24)) (p + 2) (by simp; omega)
    refine Exists.intro _ (And.intro g2 (And.intro (by decide) ?_))
    repeat' (refine And.intro (by decide) ?_)
    refine Exists.intro 1 (And.intro rfl (And.intro (by omega) ?_))
    obtain ⟨b1, g1⟩ := allB_get (allB_set (allB_set (allB_map r) (p + 3) (shB v 24)) (p + 2) (shB v 16)) (p + 1) (by simp; omega)
    refine Exists.intro _ (And.intro g1 (And.intro (by decide) ?_))
    repeat' (refine And.intro (by decide) ?_)
    refine Exists.intro 0 (And.intro rfl (And.intro (by omega) ?_))
    obtain ⟨b0, g0⟩ := allB_get (allB_set (allB_set (allB_set (allB_map r) (p + 3) (shB v 24)) (p + 2) (shB v 16)) (p + 1) (shB v 8)) (p + 0) (by simp; omega)
    refine Exists.intro _ (And.intro g0 (And.intro (by decide) ?_))
    have eq : (putY r p v 4).map byteC = (((((r.map byteC).set (p + 3) (byteC (shB v 24))).set (p + 2) (byteC (shB v 16))).set (p + 1) (byteC (shB v 8))).set (p + 0) (byteC (IntKind.u8.wrap v))) := by rw [← put_ord]; simp [putY, List.map_set, e0, e1, e2, e3]
    have hc := closed_bytes (putY r p v 4)
    rw [eq] at hc key
    refine And.intro hc ?_
    exact key
  · exact hp.elim
theorem word_at {ws : List Int} (h : wordsB ws = true) {i : Nat} {w : Int} (hw : ws[i]? = some w) : 0 ≤ w ∧ w < 4294967296 := by
  simp only [wordsB, List.all_eq_true] at h
  have := h w (List.mem_of_getElem? hw)
  simp only [isW, decide_eq_true_eq, Bool.and_eq_true] at this
  omega
theorem pourN_at {b : List Int} {a : Nat} {ws : List Int} {i : Nat} {w : Int} (hw : ws[i]? = some w) : pourN b a ws (i + 1) = putY (pourN b a ws i) (a + 4 * i) w 4 := by
  rw [pourN, List.getD_eq_getElem?_getD, hw]
  rfl
def hPour : CH := fun args hl K => match args, hl with
  | [.slc 0 0 n _, .v (.int .i64 a), .imm _ _ 1 W], [.lst 1 L] => ∃ (bs ws : List Int) (A : Nat), L = bs.map byteC ∧ n = bs.length ∧ a = A ∧ W = ws.map intC ∧ wordsB ws = true ∧ A + 4 * ws.length ≤ bs.length ∧ bs.length ≤ 1048576 ∧ K (.tup []) [.lst 1 ((pourN bs A ws ws.length).map byteC)]
  | _, _ => False
def cx_s_l5Pour : Ctx := mkC [(50, callM [.rw] false hLPut)]
theorem cx_s_l5Pour_ok : CtxOk Tryz.prog cx_s_l5Pour := mkC_ok (mem1 ⟨s_l1Put, fnOk Tryz.func50 rfl rfl⟩ mem0)
set_option maxRecDepth 100000 in
set_option pp.maxSteps 1500 in
set_option maxHeartbeats 4000000 in
theorem s_l5Pour : HSound Tryz.prog 49 (callM [.rw] false hPour) := by
  refine callM_sound cx_s_l5Pour_ok mixed Tryz.func49 rfl fun args hl K hp => ?_
  unfold hPour at hp
  split at hp
  · rename_i n z0 a t z W L
    obtain ⟨bs, ws, A, rfl, rfl, rfl, rfl, hws, hA, hlen, hp⟩ := hp
    refine Exists.intro true (Exists.intro [0, 1, 2, 6] (Exists.intro (fun m vs h => ∃ i : Nat, i ≤ ws.length ∧ m = ws.length - i ∧ vs = [.slc 0 0 bs.length false, .v (.int .i64 A), .imm t z 1 (ws.map intC), .v (.int .i64 i)] ∧ h = [.lst 1 ((pourN bs A ws i).map byteC)]) (And.intro ?_ ?_)))
    · refine Exists.intro [] ?_
      refine And.intro (closed_bytes _) ?_
      exact Exists.intro ws.length ⟨0, by omega, rfl, rfl, rfl⟩
    intro m vs h hI
    obtain ⟨i, hi, rfl, rfl, rfl⟩ := hI
    refine And.intro (fun h1 => ?_) (fun h1 => ?_)
    · have h1 := of_decide_eq_true h1
      rw [List.length_map] at h1
      have hlt : i < ws.length := by omega
      obtain ⟨w, hw⟩ : ∃ w, ws[i]? = some w := ⟨_, List.getElem?_eq_getElem hlt⟩
      obtain ⟨w0, w1⟩ := word_at hws hw
      have hst := pourN_at (b := bs) (a := A) hw
      have hpl := pourN_len bs A ws i
      refine Exists.intro i (And.intro rfl (Exists.intro (intC w) (And.intro (get_map hw) ?_)))
      refine And.intro (closed_bytes _) ?_
      refine Exists.intro (pourN bs A ws i) ?_
      refine Exists.intro (A + 4 * i) ?_
      refine Exists.intro (4 : Nat) ?_
      refine And.intro rfl (And.intro hpl.symm (And.intro ?_ (And.intro rfl (And.intro (by omega) (And.intro (by omega) (And.intro (by omega) (And.intro w0 (And.intro w1 ?_))))))))
      · rw [wrap64 (x := 4 * (i : Int)) (by omega), wrap64 (by omega)]
        omega
      rw [← hst]
      refine Exists.intro [] ?_
      refine And.intro (closed_bytes _) ?_
      refine Exists.intro (ws.length - (i + 1)) (And.intro (by omega) ⟨i + 1, by omega, rfl, ?_, rfl⟩)
      rw [wrap_succ hlt (by omega)]
    · have h1 := of_decide_eq_false h1
      rw [List.length_map] at h1
      have hie : i = ws.length := by omega
      subst hie
      refine And.intro (closed_bytes _) ?_
      exact hp
  · exact hp.elim
end Go.Proofs.YtbfjkjdbdejnmaaGreat.Ab

/- Images of impl: the closure that pours. No condition. -/
namespace Go.Proofs.YtbfjkjdbdejnmaaGreat.Ab
set_option linter.unusedVariables false
set_option linter.unusedSimpArgs false
set_option maxRecDepth 100000

theorem tkL {α : Type} {C : α → List AV} {l : List α} {n : Nat} (h : l.length = n) : List.take n (l.map C) = l.map C ∧ (l.map C).length = n := by
  subst h
  exact ⟨lendL _ _, List.length_map _⟩
def hPourC : CH := fun args hl K => match args, hl with
  | [.v (.int .i64 a), .imm _ _ 1 W, .ptr 0 0 0 _], [.box [.sl 1 F, .sl 1 R, .sl 1 O]] => ∃ (bs ws : List Int) (A : Nat), F = bs.map byteC ∧ a = A ∧ W = ws.map intC ∧ wordsB ws = true ∧ A + 4 * ws.length ≤ bs.length ∧ bs.length ≤ 1048576 ∧ K (.tup []) [.box [.sl 1 ((pourN bs A ws ws.length).map byteC), .sl 1 R, .sl 1 O]]
  | _, _ => False
def cx_s_pourC : Ctx := mkC [(111, callM [.rw] false hPut4)]
theorem cx_s_pourC_ok : CtxOk Tryz.prog cx_s_pourC := mkC_ok (mem1 ⟨s_put, fnOk Tryz.func111 rfl rfl⟩ mem0)
set_option maxRecDepth 100000 in
set_option pp.maxSteps 1500 in
set_option maxHeartbeats 4000000 in
theorem s_pourC : HSound Tryz.prog 110 (callM [.ro, .ro, .rw] false hPourC) := by
  refine callM_sound cx_s_pourC_ok mixed Tryz.func110 rfl fun args hl K hp => ?_
  unfold hPourC at hp
  split at hp
  · rename_i a t z W q F R O
    obtain ⟨bs, ws, A, rfl, rfl, rfl, hws, hA, hlen, hp⟩ := hp
    refine Exists.intro true (Exists.intro [0, 2, 7, 8, 9] (Exists.intro (fun m vs h => ∃ i : Nat, i ≤ ws.length ∧ m = ws.length - i ∧ vs = [.v (.int .i64 A), .ptr 0 0 0 q, .imm t z 1 (ws.map intC), .v (.int .i64 ws.length), .v (.int .i64 i)] ∧ h = [.box [.sl 1 ((pourN bs A ws i).map byteC), .sl 1 R, .sl 1 O]]) (And.intro ?_ ?_)))
    · refine Exists.intro [] ?_
      refine Exists.intro ws.length ⟨0, by omega, rfl, ?_, rfl⟩
      rw [List.length_map]
      rfl
    intro m vs h hI
    obtain ⟨i, hi, rfl, rfl, rfl⟩ := hI
    refine And.intro (fun h1 => ?_) (fun h1 => ?_)
    · have h1 := of_decide_eq_true h1
      have hlt : i < ws.length := by omega
      obtain ⟨w, hw⟩ : ∃ w, ws[i]? = some w := ⟨_, List.getElem?_eq_getElem hlt⟩
      obtain ⟨w0, w1⟩ := word_at hws hw
      have hst := pourN_at (b := bs) (a := A) hw
      have hpl := pourN_len bs A ws i
      refine Exists.intro i (And.intro rfl (Exists.intro (intC w) (And.intro (get_map hw) ?_)))
      have hw1 : IntKind.i64.wrap ((A : Int) + IntKind.i64.wrap (4 * (i : Int))) = ((A + 4 * i : Nat) : Int) := by rw [wrap64 (x := 4 * (i : Int)) (by omega), wrap64 (by omega)]; omega
      have hw2 : IntKind.i64.wrap (IntKind.i64.wrap ((A : Int) + IntKind.i64.wrap (4 * (i : Int))) + 4) = ((A + 4 * i + 4 : Nat) : Int) := by rw [hw1, wrap64 (by omega)]; omega
      refine Exists.intro (A + 4 * i) (And.intro hw1 (Exists.intro (A + 4 * i + 4) (And.intro hw2 (And.intro (by omega) (And.intro (by rw [List.length_map, hpl]; omega) ?_)))))
      refine And.intro (closed_bytes _) ?_
      refine Exists.intro (pourN bs A ws i) (And.intro rfl (And.intro (by omega) (And.intro (by omega) ?_)))
      rw [show 0 + (A + 4 * i) = A + 4 * i from Nat.zero_add _, ← hst]
      refine Exists.intro [] ?_
      have htk := tkL (C := byteC) (show (pourN bs A ws (i + 1)).length = (List.map byteC (pourN bs A ws i)).length by rw [List.length_map, pourN_len, pourN_len])
      refine Exists.intro _ (And.intro htk.1 (And.intro htk.2 (And.intro (closed_bytes _) ?_)))
      refine Exists.intro (ws.length - (i + 1)) (And.intro (by omega) ⟨i + 1, by omega, rfl, ?_, rfl⟩)
      rw [wrap_succ hlt (by omega)]
    · have h1 := of_decide_eq_false h1
      have hie : i = ws.length := by omega
      subst hie
      exact hp
  · exact hp.elim
end Go.Proofs.YtbfjkjdbdejnmaaGreat.Ab

/- Layouts compared, in both answers. No condition. -/
namespace Go.Proofs.YtbfjkjdbdejnmaaGreat.Ab
set_option linter.unusedVariables false
set_option linter.unusedSimpArgs false
set_option maxRecDepth 100000

theorem take_stepG {α : Type} {xs ys : List α} {i : Nat} {a : α} (h : xs.take i = ys.take i) (ha : xs[i]? = some a) (hb : ys[i]? = some a) : xs.take (i + 1) = ys.take (i + 1) := by
  rw [List.take_add_one, List.take_add_one, h, ha, hb]
theorem take_end {α : Type} {xs ys : List α} {i : Nat} (h : xs.take i = ys.take i) (hl : xs.length = ys.length) (hi : ¬ i < xs.length) : xs = ys := by
  rw [List.take_of_length_le (by omega), List.take_of_length_le (by omega)] at h
  exact h
theorem ne_at {α : Type} {xs ys : List α} {i : Nat} {a b : α} (ha : xs[i]? = some a) (hb : ys[i]? = some b) (h : a ≠ b) : xs ≠ ys := by
  rintro rfl
  rw [ha] at hb
  cases hb
  exact h rfl
def hEqNum : CH := fun args hl K => match args, hl with
  | [.imm _ _ 1 l, .imm _ _ 1 r], [] => ∃ xs ys : List Int, l = xs.map intC ∧ r = ys.map intC ∧ xs.length ≤ 1048576 ∧ (xs = ys → K (.v (.bool true)) []) ∧ (xs ≠ ys → K (.v (.bool false)) [])
  | _, _ => False
def cx_s_l5SameNums : Ctx := mkC []
theorem cx_s_l5SameNums_ok : CtxOk Tryz.prog cx_s_l5SameNums := cx0_ok
set_option maxRecDepth 100000 in
set_option pp.maxSteps 1500 in
theorem s_l5SameNums : HSound Tryz.prog 142 (callM [] true hEqNum) := by
  refine callM_sound cx_s_l5SameNums_ok mixed Tryz.func142 rfl fun args hl K hp => ?_
  unfold hEqNum at hp
  split at hp
  · rename_i t z l t' z' r
    obtain ⟨xs, ys, rfl, rfl, ha, hp1, hp2⟩ := hp
    refine And.intro (fun h1 => ?_) (fun h1 => ?_)
    · exact hp2 (by rintro rfl; simp at h1)
    have hlen : xs.length = ys.length := by simp at h1; omega
    clear h1
    refine Exists.intro false (Exists.intro [0, 1, 5] (Exists.intro (fun m vs h => ∃ i : Nat, i ≤ xs.length ∧ m = xs.length - i ∧ xs.take i = ys.take i ∧ vs = [.imm t z 1 (xs.map intC), .imm t' z' 1 (ys.map intC), .v (.int .i64 i)] ∧ h = []) (And.intro ?_ ?_)))
    · refine Exists.intro xs.length ?_
      exact ⟨0, by omega, rfl, rfl, rfl, rfl⟩
    · intro m vs h hI
      obtain ⟨i, hi, rfl, htk, rfl, rfl⟩ := hI
      refine And.intro (fun h1 => ?_) (fun h1 => ?_)
      · have h1 := of_decide_eq_true h1
        rw [List.length_map] at h1
        have hlt : i < xs.length := by omega
        obtain ⟨a, hai⟩ : ∃ a, xs[i]? = some a := ⟨_, List.getElem?_eq_getElem hlt⟩
        obtain ⟨b, hbi⟩ : ∃ b, ys[i]? = some b := ⟨_, List.getElem?_eq_getElem (by omega)⟩
        refine And.intro (show Region.lexB _ _ = true from by kernel_rfl) ?_
        refine Exists.intro i (And.intro rfl (Exists.intro (intC a) (And.intro (get_map hai) ?_)))
        refine Exists.intro i (And.intro rfl (Exists.intro (intC b) (And.intro (get_map hbi) ?_)))
        refine And.intro (fun h2 => ?_) (fun h2 => ?_)
        · exact hp2 (ne_at hai hbi (by simpa using h2))
        · have hab : a = b := by simpa using h2
          subst hab
          refine Exists.intro (xs.length - (i + 1)) (And.intro (by omega) ⟨i + 1, by omega, rfl, take_stepG htk hai hbi, ?_, rfl⟩)
          rw [wrap_succ hlt (by omega)]
      · have h1 := of_decide_eq_false h1
        rw [List.length_map] at h1
        exact hp1 (take_end htk hlen (by omega))
  · exact hp.elim
def hSameLa : CH := fun args hl K => match args, hl with
  | [a, b], [] => ∃ l k : La, LaV a l ∧ LaV b k ∧ smLa l ∧ (l = k → K (.v (.bool true)) []) ∧ (l ≠ k → K (.v (.bool false)) [])
  | _, _ => False
end Go.Proofs.YtbfjkjdbdejnmaaGreat.Ab

/- Layouts compared by the reference, in both answers. No condition. -/
namespace Go.Proofs.YtbfjkjdbdejnmaaGreat.Ab
set_option linter.unusedVariables false
set_option linter.unusedSimpArgs false
set_option maxRecDepth 100000

def hSameP : CH := fun args hl K => match args, hl with
  | [a, b], [] => ∃ l k : La, LaV a l ∧ LaV b k ∧ smLa l ∧ ((l.pls = k.pls ∧ l.tgts = k.tgts) → K (.v (.bool true)) []) ∧ (¬ (l.pls = k.pls ∧ l.tgts = k.tgts) → K (.v (.bool false)) [])
  | _, _ => False
def cx_s_l5SamePlaces : Ctx := mkC [(142, callM [] true hEqNum)]
theorem cx_s_l5SamePlaces_ok : CtxOk Tryz.prog cx_s_l5SamePlaces := mkC_ok (mem1 ⟨s_l5SameNums, fnOk Tryz.func142 rfl rfl⟩ mem0)
set_option maxRecDepth 100000 in
set_option pp.maxSteps 1500 in
set_option maxHeartbeats 8000000 in
theorem s_l5SamePlaces : HSound Tryz.prog 141 (callM [] true hSameP) := by
  refine callM_sound cx_s_l5SamePlaces_ok mixed Tryz.func141 rfl fun args hl K hp => ?_
  unfold hSameP at hp
  split at hp
  · rename_i a b
    obtain ⟨l, k, ⟨b1, z1, b2, z2, b3, z3, rfl⟩, ⟨b1', z1', b2', z2', b3', z3', rfl⟩, hb, hp1, hp2⟩ := hp
    obtain ⟨g1, g2, _, g3, g4, g5, _⟩ := hb
    obtain ⟨l1, l2, l3, l4, l5, l6⟩ := l
    obtain ⟨k1, k2, k3, k4, k5, k6⟩ := k
    simp only at *
    repeat' ((first
      | refine And.intro (fun h1 => ?_) (fun h1 => ?_)
      | fail) <;> try cases h1)
    · exact hp2 (by rintro ⟨rfl, rfl⟩; simp at h1)
    · exact hp2 (by rintro ⟨rfl, rfl⟩; simp at h1)
    rename_i h0
    have e1 : l1.length = k1.length := by simp at h0; omega
    have e6 : l6.length = k6.length := by simp at h1; omega
    clear h0 h1
    refine Exists.intro true (Exists.intro [2, 3, 5] (Exists.intro (fun m vs h => ∃ i : Nat, i ≤ l1.length ∧ m = l1.length - i ∧ l1.take i = k1.take i ∧ vs = [.ptr 0 0 0 6, .ptr 1 0 0 6, .v (.int .i64 i)] ∧
      h = [.box [.imm b1 z1 4 (l1.map plC), .v (.int .i64 l2), .imm b2 z2 1 (l3.map intC), .v (.int .i64 l4), .v (.int .i64 l5), .imm b3 z3 1 (l6.map tgsC)], .box [.imm b1' z1' 4 (k1.map plC), .v (.int .i64 k2), .imm b2' z2' 1 (k3.map intC), .v (.int .i64 k4), .v (.int .i64 k5), .imm b3' z3' 1 (k6.map tgsC)]]) (And.intro ?_ ?_)))
    · refine Exists.intro [] (Exists.intro l1.length ?_)
      exact ⟨0, by omega, rfl, rfl, rfl, rfl⟩
    intro m vs h hI
    obtain ⟨i, hi, rfl, htk, rfl, rfl⟩ := hI
    refine And.intro (fun h1 => ?_) (fun h1 => ?_)
    · have h1 := of_decide_eq_true h1
      rw [List.length_map] at h1
      have hlt : i < l1.length := by omega
      obtain ⟨p, hpi⟩ : ∃ p, l1[i]? = some p := ⟨_, List.getElem?_eq_getElem hlt⟩
      obtain ⟨q, hqi⟩ : ∃ q, k1[i]? = some q := ⟨_, List.getElem?_eq_getElem (by omega)⟩
      have hps := g2 p (List.mem_of_getElem? hpi)
      have hwi : IntKind.wrap .i64 ((i : Int) + 1) = ((i + 1 : Nat) : Int) := wrap_succ hlt (by omega)
      have hne : p ≠ q → K (.v (.bool false)) [] := fun h => hp2 fun e => ne_at hpi hqi h e.1
      refine Exists.intro i (And.intro rfl (Exists.intro (plC p) (And.intro (get_map hpi) ?_)))
      refine Exists.intro i (And.intro rfl (Exists.intro (plC q) (And.intro (get_map hqi) ?_)))
      have hfin : p = q → l1.take (i + 1) = k1.take (i + 1) := fun h => take_stepG htk hpi (h ▸ hqi)
      obtain ⟨pt, pb, pd, ps⟩ := p
      obtain ⟨qt, qb, qd, qs⟩ := q
      simp only at *
      repeat' ((first
        | refine Exists.intro pb (Exists.intro qb (And.intro rfl (And.intro rfl (And.intro hps (And.intro (fun h1 => ?_) (fun h1 => ?_))))))
        | refine And.intro (fun h1 => ?_) (fun h1 => ?_)
        | fail) <;> try first | (cases h1; done) | (exfalso; simp at h1; done))
      all_goals first
        | (refine hne ?_; simp_all; done)
        | (refine Exists.intro [] (Exists.intro (l1.length - (i + 1)) (And.intro (by omega) ⟨i + 1, by omega, rfl, hfin (by simp_all; done), by rw [hwi], rfl⟩)))
    have h1 := of_decide_eq_false h1
    rw [List.length_map] at h1
    have e1' : l1 = k1 := take_end htk e1 (by omega)
    subst e1'
    clear htk
    have hne : l6 ≠ k6 → K (.v (.bool false)) [] := fun h => hp2 fun e => h e.2
    have heq : l6 = k6 → K (.v (.bool true)) [] := fun h => hp1 ⟨rfl, h⟩
    refine Exists.intro true (Exists.intro [2, 3, 8] (Exists.intro (fun m vs h => ∃ i : Nat, i ≤ l6.length ∧ m = l6.length - i ∧ l6.take i = k6.take i ∧ vs = [.ptr 0 0 0 6, .ptr 1 0 0 6, .v (.int .i64 i)] ∧
      h = [.box [.imm b1 z1 4 (l1.map plC), .v (.int .i64 l2), .imm b2 z2 1 (l3.map intC), .v (.int .i64 l4), .v (.int .i64 l5), .imm b3 z3 1 (l6.map tgsC)], .box [.imm b1' z1' 4 (l1.map plC), .v (.int .i64 k2), .imm b2' z2' 1 (k3.map intC), .v (.int .i64 k4), .v (.int .i64 k5), .imm b3' z3' 1 (k6.map tgsC)]]) (And.intro ?_ ?_)))
    · refine Exists.intro [] (Exists.intro l6.length ?_)
      exact ⟨0, by omega, rfl, rfl, rfl, rfl⟩
    intro m vs h hI
    obtain ⟨i, hi, rfl, htk, rfl, rfl⟩ := hI
    refine And.intro (fun h1 => ?_) (fun h1 => ?_)
    · have h1 := of_decide_eq_true h1
      rw [List.length_map] at h1
      have hlt : i < l6.length := by omega
      obtain ⟨p, hpi⟩ : ∃ p, l6[i]? = some p := ⟨_, List.getElem?_eq_getElem hlt⟩
      obtain ⟨q, hqi⟩ : ∃ q, k6[i]? = some q := ⟨_, List.getElem?_eq_getElem (by omega)⟩
      have hps := g5 p (List.mem_of_getElem? hpi)
      simp only [smTgs] at hps
      have hwi : IntKind.wrap .i64 ((i : Int) + 1) = ((i + 1 : Nat) : Int) := wrap_succ hlt (by omega)
      have hne2 : p ≠ q → K (.v (.bool false)) [] := fun h => hne fun e => ne_at hpi hqi h e
      refine And.intro (show Region.lexB _ _ = true from by kernel_rfl) ?_
      refine Exists.intro i (And.intro rfl (Exists.intro (tgsC p) (And.intro (get_map hpi) ?_)))
      refine Exists.intro i (And.intro rfl (Exists.intro (tgsC q) (And.intro (get_map hqi) ?_)))
      refine And.intro (fun h2 => ?_) (fun h2 => ?_)
      · exact hne2 (by rintro rfl; simp at h2)
      have el : p.length = q.length := by simp at h2; omega
      clear h2
      refine Exists.intro true (Exists.intro [2, 3, 8, 9] (Exists.intro (fun m vs h => ∃ j : Nat, j ≤ p.length ∧ m = p.length - j ∧ p.take j = q.take j ∧ vs = [.ptr 0 0 0 6, .ptr 1 0 0 6, .v (.int .i64 i), .v (.int .i64 j)] ∧
        h = [.box [.imm b1 z1 4 (l1.map plC), .v (.int .i64 l2), .imm b2 z2 1 (l3.map intC), .v (.int .i64 l4), .v (.int .i64 l5), .imm b3 z3 1 (l6.map tgsC)], .box [.imm b1' z1' 4 (l1.map plC), .v (.int .i64 k2), .imm b2' z2' 1 (k3.map intC), .v (.int .i64 k4), .v (.int .i64 k5), .imm b3' z3' 1 (k6.map tgsC)]]) (And.intro ?_ ?_)))
      · refine Exists.intro [] (Exists.intro p.length ?_)
        exact ⟨0, by omega, rfl, rfl, rfl, rfl⟩
      intro m vs h hI
      obtain ⟨j, hj, rfl, htj, rfl, rfl⟩ := hI
      refine Exists.intro i (And.intro rfl (Exists.intro (tgsC p) (And.intro (get_map hpi) ?_)))
      refine And.intro (fun h2 => ?_) (fun h2 => ?_)
      · have h2 := of_decide_eq_true h2
        rw [List.length_map] at h2
        have hjl : j < p.length := by omega
        obtain ⟨x, hx⟩ : ∃ x, p[j]? = some x := ⟨_, List.getElem?_eq_getElem hjl⟩
        obtain ⟨y, hy⟩ : ∃ y, q[j]? = some y := ⟨_, List.getElem?_eq_getElem (by omega)⟩
        refine And.intro (show Region.lexB _ _ = true from by kernel_rfl) ?_
        refine Exists.intro i (And.intro rfl (Exists.intro (tgsC p) (And.intro (get_map hpi) ?_)))
        refine Exists.intro j (And.intro rfl (Exists.intro (tgC x) (And.intro (get_map hx) ?_)))
        refine Exists.intro i (And.intro rfl (Exists.intro (tgsC q) (And.intro (get_map hqi) ?_)))
        refine Exists.intro j (And.intro rfl (Exists.intro (tgC y) (And.intro (get_map hy) ?_)))
        refine And.intro (fun h3 => ?_) (fun h3 => ?_)
        · refine hne2 (ne_at hx hy ?_)
          rintro rfl
          simp at h3
        · have hxy : x = y := by
            cases x
            cases y
            simpa using h3
          subst hxy
          refine Exists.intro [] (Exists.intro (p.length - (j + 1)) (And.intro (by omega) ⟨j + 1, by omega, rfl, take_stepG htj hx hy, ?_, rfl⟩))
          rw [wrap_succ hjl (by omega)]
      · have h2 := of_decide_eq_false h2
        rw [List.length_map] at h2
        have hpq : p = q := take_end htj el (by omega)
        subst hpq
        exact Exists.intro [] (Exists.intro (l6.length - (i + 1)) (And.intro (by omega) ⟨i + 1, by omega, rfl, take_stepG htk hpi hqi, by rw [hwi], rfl⟩))
    have h1 := of_decide_eq_false h1
    rw [List.length_map] at h1
    exact heq (take_end htk e6 (by omega))
  · exact hp.elim
def cx_s_SameLayout : Ctx := mkC [(141, callM [] true hSameP), (142, callM [] true hEqNum)]
theorem cx_s_SameLayout_ok : CtxOk Tryz.prog cx_s_SameLayout := mkC_ok (mem1 ⟨s_l5SamePlaces, fnOk Tryz.func141 rfl rfl⟩ (mem1 ⟨s_l5SameNums, fnOk Tryz.func142 rfl rfl⟩ mem0))
set_option maxRecDepth 100000 in
set_option pp.maxSteps 1500 in
set_option maxHeartbeats 4000000 in
theorem s_SameLayout : HSound Tryz.prog 90 (callM [] true hSameLa) := by
  refine callM_sound cx_s_SameLayout_ok mixed Tryz.func90 rfl fun args hl K hp => ?_
  unfold hSameLa at hp
  split at hp
  · rename_i a b
    obtain ⟨l, k, ⟨b1, z1, b2, z2, b3, z3, rfl⟩, ⟨b1', z1', b2', z2', b3', z3', rfl⟩, hb, hp1, hp2⟩ := hp
    have g3 := hb.slots
    refine Exists.intro l (Exists.intro k (And.intro ⟨_, _, _, _, _, _, rfl⟩ (And.intro ⟨_, _, _, _, _, _, rfl⟩ (And.intro hb (And.intro (fun h0 => ?_) (fun h0 => ?_))))))
    all_goals obtain ⟨l1, l2, l3, l4, l5, l6⟩ := l
    all_goals obtain ⟨k1, k2, k3, k4, k5, k6⟩ := k
    all_goals simp only at *
    all_goals repeat' ((first
      | refine Exists.intro l3 (Exists.intro k3 (And.intro rfl (And.intro rfl (And.intro g3 (And.intro (fun h1 => ?_) (fun h1 => ?_))))))
      | refine And.intro (fun h1 => ?_) (fun h1 => ?_)
      | fail) <;> try first | (cases h1; done) | (exfalso; simp at h1; done))
    all_goals first
      | (refine hp1 ?_; simp_all; done)
      | (refine hp2 ?_; simp_all; done)
      | (by_cases hq : l5 = k5
         · exact fin_b (hp1 (by simp_all)) (by simp [hq])
         · exact fin_b (hp2 (by simp_all)) (by simp [hq]))
  · exact hp.elim
def hEnds : CH := fun args hl K => match args, hl with
  | [a], [] => ∃ l : La, LaV a l ∧ K (.v (.int .i64 (endsF l))) []
  | _, _ => False
def cx_s_stackEnd : Ctx := mkC []
theorem cx_s_stackEnd_ok : CtxOk Tryz.prog cx_s_stackEnd := cx0_ok
set_option maxRecDepth 100000 in
set_option pp.maxSteps 1500 in
theorem s_stackEnd : HSound Tryz.prog 101 (callM [] true hEnds) := by
  refine callM_sound cx_s_stackEnd_ok mixed Tryz.func101 rfl fun args hl K hp => ?_
  unfold hEnds at hp
  split at hp
  · rename_i a
    obtain ⟨l, ⟨b1, z1, b2, z2, b3, z3, rfl⟩, hp⟩ := hp
    obtain ⟨l1, l2, l3, l4, l5, l6⟩ := l
    cases l3 with
    | nil =>
      refine And.intro (fun h1 => by exfalso; simp at h1) (fun h1 => ?_)
      exact hp
    | cons s t =>
      refine And.intro (fun h1 => ?_) (fun h1 => by exfalso; first | (simp at h1; done) | (simp at h1; omega))
      refine Exists.intro 0 (And.intro rfl (Exists.intro (intC s) (And.intro rfl ?_)))
      exact hp
  · exact hp.elim
def cx_s_l5Ends : Ctx := mkC []
theorem cx_s_l5Ends_ok : CtxOk Tryz.prog cx_s_l5Ends := cx0_ok
set_option maxRecDepth 100000 in
set_option pp.maxSteps 1500 in
theorem s_l5Ends : HSound Tryz.prog 88 (callM [] true hEnds) := by
  refine callM_sound cx_s_l5Ends_ok mixed Tryz.func88 rfl fun args hl K hp => ?_
  unfold hEnds at hp
  split at hp
  · rename_i a
    obtain ⟨l, ⟨b1, z1, b2, z2, b3, z3, rfl⟩, hp⟩ := hp
    obtain ⟨l1, l2, l3, l4, l5, l6⟩ := l
    cases l3 with
    | nil =>
      refine And.intro (fun h1 => by exfalso; simp at h1) (fun h1 => ?_)
      exact hp
    | cons s t =>
      refine And.intro (fun h1 => ?_) (fun h1 => by exfalso; first | (simp at h1; done) | (simp at h1; omega))
      refine Exists.intro 0 (And.intro rfl (Exists.intro (intC s) (And.intro rfl ?_)))
      exact hp
  · exact hp.elim
end Go.Proofs.YtbfjkjdbdejnmaaGreat.Ab
