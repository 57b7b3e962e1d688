/- Functions walked, part 8. No condition. -/
import Derived.Test.YtbfjkjdbdejnmaaGreatWalk7
import Derived.Test.YtbfjkjdbdejnmaaGreatWalk6
set_option linter.unusedVariables false
set_option linter.unusedSimpArgs false
/- Plans: what they are, in plain words. No condition. -/
namespace Go.Proofs.YtbfjkjdbdejnmaaGreat.Ab
set_option linter.unusedVariables false
set_option linter.unusedSimpArgs false

def rgW (r w x : Bool) (g : Rg) : Rg := ⟨g.b, g.l, g.o, r, w, x⟩
def covW (a s : Int) (r w x : Bool) : List Rg := (covL a s).map (rgW r w x)
def pieceLen (m : Mo) (b : Int) : Nat := match pieceOf m b with | some ws => ws.length | none => 0
def originF (l : La) (p : Pl) (bank slot : Int) : Int := if bank = -1 then p.text else if slot < 0 then p.banks.getD bank.toNat 0 else l.slots.getD slot.toNat 0
def planL (l : La) (p : Pl) (m : Mo) (bank slot : Int) : List Rg :=
  covW p.data p.size true true false ++ covW l.stack (stackF l) true true false ++ covW 131072 32 false true false ++ covW (originF l p bank slot) (rup (4 * pieceLen m bank)) false false true
def slotB (l : La) (bank slot : Int) : Bool := if bank = -1 ∨ l.slots.length = 0 then decide (slot = -1) else decide (0 ≤ slot ∧ slot < l.slots.length)
def planF (ms : List Mo) (l : La) (mod bank slot : Int) : Option (List Rg) :=
  if 0 ≤ mod then match ms[mod.toNat]?, l.pls[mod.toNat]? with
    | some m, some p => if (pieceOf m bank).isSome && slotB l bank slot && decide ((planL l p m bank slot).length ≤ 8) then some (planL l p m bank slot) else none
    | _, _ => none
  else none
def bankFit (l : La) (p : Pl) (m : Mo) (bank : Int) : Bool := if bank = -1 ∨ l.slots.length = 0 then decide ((planL l p m bank (-1)).length ≤ 8) else (List.range l.slots.length).all fun s : Nat => decide ((planL l p m bank s).length ≤ 8)
def moFit (l : La) (p : Pl) (m : Mo) : Bool := bankFit l p m (-1) && (List.range m.banks.length).all fun k : Nat => bankFit l p m k
def fitB (ms : List Mo) (l : La) : Bool := (List.range ms.length).all fun i => match ms[i]?, l.pls[i]? with | some m, some p => moFit l p m | _, _ => true
/-- What a layout that Link gives is like. -/
structure Lk (ms : List Mo) (l : La) : Prop where
  len : 1 ≤ ms.length ∧ ms.length ≤ 4
  mo : ∀ m ∈ ms, GoodM m
  pls : l.pls.length = ms.length
  bk : ∀ (i : Nat) p m, l.pls[i]? = some p → ms[i]? = some m → p.banks.length = m.banks.length ∧ I64 p.text ∧ I64 p.data ∧ I64 p.size ∧ ∀ b ∈ p.banks, I64 b
  slots : l.slots.length ≤ 4
  sl : ∀ s ∈ l.slots, I64 s
  stack : I64 l.stack
theorem bkP_i64 {bs : List (List Int)} (hb : ∀ b ∈ bs, b.length ≤ 64) {f : Nat} (hf : f ≤ 100000) : ∀ k, k ≤ 4 → ∀ x ∈ (bkP bs f k).1, I64 x
  | 0, _ => fun x hx => by simp [bkP] at hx
  | k + 1, hk => by
    unfold bkP
    split
    · intro x hx
      rcases List.mem_append.1 hx with h | h
      · exact bkP_i64 hb hf k (by omega) x h
      · simp at h
        subst h
        have := bkP_le hb f k
        simp only [I64]
        omega
    · exact bkP_i64 hb hf k (by omega)
theorem plP_get {ms : List Mo} : ∀ {n i : Nat} {m : Mo}, i < n → n ≤ ms.length → ms[i]? = some m → (plP ms n).1[i]? = some ⟨(plP ms i).2.1, (bkP m.banks ((plP ms i).2.1 + rup (4 * m.text.length)) m.banks.length).1, 65536 + ((plP ms i).2.2 : Int), moSz m⟩
  | 0, i, m, h, _, _ => by omega
  | n + 1, i, m, h, hn, hm => by
    have hl := plP_len (ms := ms) (i := n) (by omega)
    obtain ⟨m', hm'⟩ : ∃ m', ms[n]? = some m' := ⟨_, List.getElem?_eq_getElem (by omega)⟩
    rw [plP_at hm']
    rcases Nat.lt_or_ge i n with r | r
    · rw [List.getElem?_append_left (by omega)]
      exact plP_get r (by omega) hm
    · have : i = n := by omega
      subst this
      rw [hm] at hm'
      cases hm'
      rw [List.getElem?_append_right (by omega), hl, Nat.sub_self]
      rfl
theorem slP_i64 {w : Nat} (hw : w ≤ 64) {r : Nat} (hr : r ≤ 100000) : ∀ k, k ≤ 4 → ∀ x ∈ (slP w r k).1, I64 x
  | 0, _ => fun x hx => by simp [slP] at hx
  | k + 1, hk => by
    intro x hx
    rcases List.mem_append.1 hx with h | h
    · exact slP_i64 hw hr k (by omega) x h
    · simp at h
      subst h
      have := slP_le hw r k
      simp only [I64]
      omega
theorem lk_of {ms : List Mo} {l : La} {w : Int} (h : GivesP ms l w) : Lk ms l := by
  obtain ⟨hc, hl⟩ := h
  obtain ⟨⟨ca0, ca1, cb0, cb1, cc0, cc1, ccm⟩, ⟨ln0, ln1⟩, hgm, _⟩ := link_cfg hc
  simp only [cfL] at ca0 ca1 cb0 cb1 cc0 cc1 ccm
  obtain ⟨pb1, pb2⟩ := plP_le hgm ms.length
  refine ⟨⟨ln0, ln1⟩, hgm, ?_, ?_, by omega, ?_, ?_⟩
  · rw [← hl]
    exact plP_len (Nat.le_refl _)
  · intro i p m hp hm
    have hi := (List.getElem?_eq_some_iff.1 hm).1
    have e : l.pls = (plP ms ms.length).1 := by rw [← hl]; rfl
    rw [e, plP_get hi (Nat.le_refl _) hm] at hp
    cases hp
    have g := hgm m (List.mem_of_getElem? hm)
    obtain ⟨q1, q2⟩ := plP_le hgm i
    have h1 := rup_le (4 * m.text.length)
    have h2 := rup_le (m.data.length + m.bss.toNat)
    have h3 := g.tl
    have h4 := g.dl
    have h5 := g.bss
    refine ⟨bkP_len _ _ (Nat.le_refl _), ?_, ?_, ?_, ?_⟩
    · simp only [I64]; omega
    · simp only [I64]; omega
    · simp only [I64, moSz]; omega
    · exact bkP_i64 (fun b hb => (g.bk b hb).1) (by omega) _ g.bl
  · rw [← hl]
    exact slP_i64 (w := (cfL l w).words.toNat) (by simp only [cfL]; omega) (r := (plP ms ms.length).2.2 + (cfL l w).stack.toNat) (by simp only [cfL]; omega) _ (by simp only [cfL]; omega)
  · rw [← hl]
    show I64 (65536 + ((plP ms ms.length).2.2 : Int))
    simp only [I64]
    omega
end Go.Proofs.YtbfjkjdbdejnmaaGreat.Ab

/- Images: what they are, in plain words. No condition. -/
namespace Go.Proofs.YtbfjkjdbdejnmaaGreat.Ab
set_option linter.unusedVariables false
set_option linter.unusedSimpArgs false

def pourN (b : List Int) (a : Nat) (ws : List Int) : Nat → List Int
  | 0 => b
  | i + 1 => putY (pourN b a ws i) (a + 4 * i) (ws.getD i 0) 4
def banksN (f : List Int) (p : Pl) (m : Mo) : Nat → List Int
  | 0 => f
  | k + 1 => pourN (banksN f p m k) (p.banks.getD k 0).toNat (m.banks.getD k []) (m.banks.getD k []).length
def lowAt (r : List Int) (a : Nat) : Int := lowB ((r.drop a).take 4)
def relsN (r : List Int) (a : Nat) (d : Int) (rs : List Int) : Nat → List Int
  | 0 => r
  | k + 1 => putY (relsN r a d rs k) (a + (rs.getD k 0).toNat) ((lowAt (relsN r a d rs k) (a + (rs.getD k 0).toNat) + d) % 4294967296) 4
def layB (r : List Int) (a : Nat) (xs : List Int) : List Int := r.take a ++ xs ++ r.drop (a + xs.length)
def flashN (ms : List Mo) (l : La) : Nat → List Int
  | 0 => List.replicate l.flash.toNat 0
  | i + 1 => match ms[i]?, l.pls[i]? with
    | some m, some p => banksN (pourN (flashN ms l i) p.text.toNat m.text m.text.length) p m m.banks.length
    | _, _ => flashN ms l i
def ramN (ms : List Mo) (l : La) : Nat → List Int
  | 0 => List.replicate l.ram.toNat 0
  | i + 1 => match ms[i]?, l.pls[i]? with
    | some m, some p => relsN (layB (ramN ms l i) (p.data - 65536).toNat m.data) (p.data - 65536).toNat p.data m.rels m.rels.length
    | _, _ => ramN ms l i
theorem pourN_len (b : List Int) (a : Nat) (ws : List Int) (n : Nat) : (pourN b a ws n).length = b.length := by
  induction n with
  | zero => rfl
  | succ n ih => rw [pourN, putY_len, ih]
theorem banksN_len (f : List Int) (p : Pl) (m : Mo) (n : Nat) : (banksN f p m n).length = f.length := by
  induction n with
  | zero => rfl
  | succ n ih => rw [banksN, pourN_len, ih]
theorem relsN_len (r : List Int) (a : Nat) (d : Int) (rs : List Int) (n : Nat) : (relsN r a d rs n).length = r.length := by
  induction n with
  | zero => rfl
  | succ n ih => rw [relsN, putY_len, ih]
theorem layB_len {r : List Int} {a : Nat} {xs : List Int} (h : a + xs.length ≤ r.length) : (layB r a xs).length = r.length := by
  simp only [layB, List.length_append, List.length_take, List.length_drop]
  omega
theorem flashN_len (ms : List Mo) (l : La) (i : Nat) : (flashN ms l i).length = l.flash.toNat := by
  induction i with
  | zero => simp [flashN]
  | succ i ih =>
    unfold flashN
    split
    · rw [banksN_len, pourN_len, ih]
    · exact ih
theorem bytes_set {l : List Int} (h : BytesOk l) {i : Nat} {x : Int} (hx : 0 ≤ x ∧ x ≤ 255) : BytesOk (l.set i x) := by
  intro b hb
  rcases List.mem_or_eq_of_mem_set hb with h1 | h1
  · exact h b h1
  · exact h1 ▸ hx
theorem putY_ok {l : List Int} (h : BytesOk l) (p : Nat) (v : Int) (n : Nat) : BytesOk (putY l p v n) := by
  induction n with
  | zero => exact h
  | succ n ih =>
    refine bytes_set ih ?_
    unfold byteV
    omega
theorem relsN_ok {r : List Int} (h : BytesOk r) (a : Nat) (d : Int) (rs : List Int) (n : Nat) : BytesOk (relsN r a d rs n) := by
  induction n with
  | zero => exact h
  | succ n ih => exact putY_ok ih _ _ _
theorem layB_ok {r xs : List Int} (h : BytesOk r) (h2 : BytesOk xs) (a : Nat) : BytesOk (layB r a xs) := by
  intro b hb
  unfold layB at hb
  rcases List.mem_append.1 hb with hb | hb
  · rcases List.mem_append.1 hb with hb | hb
    · exact h b (List.mem_of_mem_take hb)
    · exact h2 b hb
  · exact h b (List.mem_of_mem_drop hb)
theorem ramN_ok {ms : List Mo} (hd : ∀ m ∈ ms, BytesOk m.data) (l : La) (i : Nat) : BytesOk (ramN ms l i) := by
  induction i with
  | zero =>
    intro b hb
    have := List.eq_of_mem_replicate hb
    omega
  | succ i ih =>
    unfold ramN
    split
    · rename_i m p hm hp
      exact relsN_ok (layB_ok ih (hd m (List.mem_of_getElem? hm)) _) _ _ _ _
    · exact ih
theorem rup_ge (n : Nat) : n ≤ rup n := by unfold rup; omega
theorem bkP_mono (bs : List (List Int)) (f : Nat) {k n : Nat} (h : k ≤ n) : (bkP bs f k).2 ≤ (bkP bs f n).2 := by
  induction n with
  | zero => have : k = 0 := by omega
            subst this
            exact Nat.le_refl _
  | succ n ih =>
    rcases Nat.lt_or_ge k (n + 1) with r | r
    · refine Nat.le_trans (ih (by omega)) ?_
      conv => rhs; unfold bkP
      split
      · exact Nat.le_add_right _ _
      · exact Nat.le_refl _
    · have : k = n + 1 := by omega
      subst this
      exact Nat.le_refl _
theorem bkP_get {bs : List (List Int)} {f : Nat} : ∀ {n k : Nat} {b : List Int}, k < n → n ≤ bs.length → bs[k]? = some b → (bkP bs f n).1[k]? = some ((bkP bs f k).2 : Int) ∧ (bkP bs f k).2 + rup (4 * b.length) ≤ (bkP bs f n).2
  | 0, k, b, h, _, _ => by omega
  | n + 1, k, b, h, hn, hb => by
    have hl := bkP_len bs f (k := n) (by omega)
    obtain ⟨b', hb'⟩ : ∃ b', bs[n]? = some b' := ⟨_, List.getElem?_eq_getElem (by omega)⟩
    rcases Nat.lt_or_ge k n with r | r
    · obtain ⟨h1, h2⟩ := bkP_get (f := f) r (by omega) hb
      refine ⟨?_, Nat.le_trans h2 (bkP_mono _ _ (Nat.le_succ _))⟩
      rw [bkP_at bs f hb', List.getElem?_append_left (by omega)]
      exact h1
    · have : k = n := by omega
      subst this
      rw [hb] at hb'
      cases hb'
      rw [bkP_at bs f hb]
      refine ⟨?_, Nat.le_refl _⟩
      rw [List.getElem?_append_right (by omega), hl, Nat.sub_self]
      rfl
theorem bkP_ge (bs : List (List Int)) (f k : Nat) : f ≤ (bkP bs f k).2 := bkP_mono bs f (Nat.zero_le k)
theorem plP_mono (ms : List Mo) {k n : Nat} (h : k ≤ n) : (plP ms k).2.1 ≤ (plP ms n).2.1 ∧ (plP ms k).2.2 ≤ (plP ms n).2.2 := by
  induction n with
  | zero => have : k = 0 := by omega
            subst this
            exact ⟨Nat.le_refl _, Nat.le_refl _⟩
  | succ n ih =>
    rcases Nat.lt_or_ge k (n + 1) with r | r
    · obtain ⟨i1, i2⟩ := ih (by omega)
      cases hm : ms[n]? with
      | none =>
        have : plP ms (n + 1) = plP ms n := by rw [plP, hm]
        rw [this]
        exact ⟨i1, i2⟩
      | some m =>
        rw [plP_at hm]
        refine ⟨Nat.le_trans i1 (Nat.le_trans (Nat.le_add_right _ _) (bkP_ge _ _ _)), Nat.le_trans i2 (Nat.le_add_right _ _)⟩
    · have : k = n + 1 := by omega
      subst this
      exact ⟨Nat.le_refl _, Nat.le_refl _⟩
/-- Where the pieces of a layout that Link gives lie. -/
structure At (l : La) (m : Mo) (p : Pl) : Prop where
  text : 0 ≤ p.text ∧ p.text + 4 * m.text.length ≤ l.flash
  bn : p.banks.length = m.banks.length
  banks : ∀ (k : Nat) a b, p.banks[k]? = some a → m.banks[k]? = some b → 0 ≤ a ∧ a + 4 * b.length ≤ l.flash
  data : 65536 ≤ p.data ∧ p.data - 65536 + m.data.length ≤ l.ram
  rels : ∀ r ∈ m.rels, 0 ≤ r ∧ r + 4 ≤ m.data.length
  mo : GoodM m
structure Lim (ms : List Mo) (l : La) : Prop where
  len : 1 ≤ ms.length ∧ ms.length ≤ 4
  pls : l.pls.length = ms.length
  fl : 0 ≤ l.flash ∧ l.flash ≤ 16384
  ram : 0 ≤ l.ram ∧ l.ram ≤ 16384
  at' : ∀ (i : Nat) p m, l.pls[i]? = some p → ms[i]? = some m → At l m p
theorem rels_bd {m : Mo} (h : modOk m = 0) : ∀ r ∈ m.rels, 0 ≤ r ∧ r + 4 ≤ m.data.length := by
  intro r hr
  obtain ⟨_, _, _, h4, _⟩ := modOk_parts h
  simp only [relsB, Bool.and_eq_true, decide_eq_true_eq, List.all_eq_true, List.mem_range] at h4
  obtain ⟨i, hi, rfl⟩ := List.mem_iff_getElem.1 hr
  have := h4.2 i hi
  rw [relB_val (List.getElem?_eq_getElem hi), decide_eq_true_eq] at this
  omega
theorem mods_ok {ms : List Mo} {c : Cf} (h : soundF ms c = 0) : ∀ m ∈ ms, modOk m = 0 := by
  unfold soundF at h
  repeat' split at h
  all_goals first | (exfalso; omega) | skip
  rename_i h1 h2 h3 h4
  simp only [Bool.not_eq_false, List.all_eq_true, decide_eq_true_eq] at h3
  exact h3
theorem link_room {ms : List Mo} {c : Cf} (h : linkC ms c = 0) : (laF ms c).flash ≤ 16384 ∧ (laF ms c).ram ≤ 16384 := by
  unfold linkC at h
  repeat' split at h
  all_goals first | (exfalso; omega) | skip
  constructor <;> omega
theorem slP_ge (w r k : Nat) : r ≤ (slP w r k).2 := by
  induction k with
  | zero => exact Nat.le_refl _
  | succ k ih => exact Nat.le_trans ih (Nat.le_add_right _ _)
theorem lim_of {ms : List Mo} {l : La} {w : Int} (h : GivesP ms l w) : Lim ms l := by
  have hk := lk_of h
  obtain ⟨hc, hl⟩ := h
  have hso : soundF ms (cfL l w) = 0 := by
    unfold linkC at hc
    split at hc
    · omega
    · omega
  obtain ⟨rm1, rm2⟩ := link_room hc
  have hmo := mods_ok hso
  generalize hcf : cfL l w = c at *
  have ef : l.flash = ((plP ms ms.length).2.1 : Int) := by rw [← hl]; rfl
  have er : l.ram = ((slP c.words.toNat ((plP ms ms.length).2.2 + c.stack.toNat) c.slots.toNat).2 : Int) := by rw [← hl]; rfl
  have hge := slP_ge c.words.toNat ((plP ms ms.length).2.2 + c.stack.toNat) c.slots.toNat
  rw [hl] at rm1 rm2
  refine ⟨hk.len, hk.pls, ⟨by omega, rm1⟩, ⟨by omega, rm2⟩, fun i p m hp hm => ?_⟩
  have hi := (List.getElem?_eq_some_iff.1 hm).1
  have e : l.pls = (plP ms ms.length).1 := by rw [← hl]; rfl
  have hbn := (hk.bk i p m hp hm).1
  rw [e, plP_get hi (Nat.le_refl _) hm] at hp
  cases hp
  have g := hk.mo m (List.mem_of_getElem? hm)
  obtain ⟨q1, q2⟩ := plP_mono ms (k := i + 1) (n := ms.length) (by omega)
  rw [plP_at hm] at q1 q2
  have b0 := bkP_ge m.banks ((plP ms i).2.1 + rup (4 * m.text.length)) m.banks.length
  have r1 := rup_ge (4 * m.text.length)
  have r2 := rup_ge (m.data.length + m.bss.toNat)
  have h5 := g.bss
  dsimp only [moSz] at q1 q2
  refine ⟨⟨by dsimp only; omega, by dsimp only; omega⟩, hbn, fun k a b ha hb => ?_, ⟨by dsimp only; omega, by dsimp only; omega⟩, rels_bd (hmo m (List.mem_of_getElem? hm)), g⟩
  have hkb := (List.getElem?_eq_some_iff.1 hb).1
  obtain ⟨s1, s2⟩ := bkP_get (f := (plP ms i).2.1 + rup (4 * m.text.length)) hkb (Nat.le_refl _) hb
  simp only at ha
  rw [s1] at ha
  cases ha
  have r3 := rup_ge (4 * b.length)
  constructor <;> omega
theorem ramN_len {ms : List Mo} {l : La} (h : Lim ms l) (i : Nat) : (ramN ms l i).length = l.ram.toNat := by
  induction i with
  | zero => simp [ramN]
  | succ i ih =>
    unfold ramN
    split
    · rename_i m p hm hp
      have := (h.at' i p m hp hm).data
      rw [relsN_len, layB_len (by omega), ih]
    · exact ih
end Go.Proofs.YtbfjkjdbdejnmaaGreat.Ab

/- Images: words put into bytes. No condition. -/
namespace Go.Proofs.YtbfjkjdbdejnmaaGreat.Ab
set_option linter.unusedVariables false
set_option linter.unusedSimpArgs false
set_option maxRecDepth 100000

def hPut4 : CH := fun args hl K => match args, hl with
  | [.slc 0 o n _, .v (.int .i64 v)], [.lst 1 L] => ∃ bs : List Int, L = bs.map byteC ∧ n = 4 ∧ o + 4 ≤ bs.length ∧ K (.tup []) [.lst 1 ((putY bs o v 4).map byteC)]
  | _, _ => False
def cx_s_put : Ctx := mkC []
theorem cx_s_put_ok : CtxOk Tryz.prog cx_s_put := cx0_ok
set_option maxRecDepth 100000 in
set_option pp.maxSteps 1500 in
set_option maxHeartbeats 4000000 in
theorem s_put : HSound Tryz.prog 111 (callM [.rw] false hPut4) := by
  refine callM_sound cx_s_put_ok mixed Tryz.func111 rfl fun args hl K hp => ?_
  unfold hPut4 at hp
  split at hp
  · rename_i p n z0 v L
    obtain ⟨r, rfl, rfl, hlen, key⟩ := hp
    obtain ⟨e0, e1, e2, e3⟩ := shB_eq v
    repeat' ((first | refine And.intro (by decide) ?_ | refine And.intro (fun h9 => ?_) (fun h9 => ?_)) <;> try (exfalso; simp at h9; done))
    repeat' (refine And.intro (by decide) ?_)
    refine Exists.intro 3 (And.intro rfl (And.intro (by omega) ?_))
    obtain ⟨b3, g3⟩ := allB_get (allB_map r) (p + 3) (by simp; omega)
    refine Exists.intro _ (And.intro g3 (And.intro (by decide) ?_))
    repeat' (refine And.intro (by decide) ?_)
    refine Exists.intro 2 (And.intro rfl (And.intro (by omega) ?_))
    obtain ⟨b2, g2⟩ := allB_get (allB_set (allB_map r) (p + 3) (shB v 24)) (p + 2) (by simp; omega)
    refine Exists.intro _ (And.intro g2 (And.intro (by decide) ?_))
    repeat' (refine And.intro (by decide) ?_)
    refine Exists.intro 1 (And.intro rfl (And.intro (by omega) ?_))
    obtain ⟨b1, g1⟩ := allB_get (allB_set (allB_set (allB_map r) (p + 3) (shB v 24)) (p + 2) (shB v 16)) (p + 1) (by simp; omega)
    refine Exists.intro _ (And.intro g1 (And.intro (by decide) ?_))
    repeat' (refine And.intro (by decide) ?_)
    refine Exists.intro 0 (And.intro rfl (And.intro (by omega) ?_))
    obtain ⟨b0, g0⟩ := allB_get (allB_set (allB_set (allB_set (allB_map r) (p + 3) (shB v 24)) (p + 2) (shB v 16)) (p + 1) (shB v 8)) (p + 0) (by simp; omega)
    refine Exists.intro _ (And.intro g0 (And.intro (by decide) ?_))
    have eq : (putY r p v 4).map byteC = (((((r.map byteC).set (p + 3) (byteC (shB v 24))).set (p + 2) (byteC (shB v 16))).set (p + 1) (byteC (shB v 8))).set (p + 0) (byteC (IntKind.u8.wrap v))) := by rw [← put_ord]; simp [putY, List.map_set, e0, e1, e2, e3]
    have hc := closed_bytes (putY r p v 4)
    rw [eq] at hc key
    refine And.intro hc ?_
    exact key
  · exact hp.elim
theorem word_at {ws : List Int} (h : wordsB ws = true) {i : Nat} {w : Int} (hw : ws[i]? = some w) : 0 ≤ w ∧ w < 4294967296 := by
  simp only [wordsB, List.all_eq_true] at h
  have := h w (List.mem_of_getElem? hw)
  simp only [isW, decide_eq_true_eq, Bool.and_eq_true] at this
  omega
theorem pourN_at {b : List Int} {a : Nat} {ws : List Int} {i : Nat} {w : Int} (hw : ws[i]? = some w) : pourN b a ws (i + 1) = putY (pourN b a ws i) (a + 4 * i) w 4 := by
  rw [pourN, List.getD_eq_getElem?_getD, hw]
  rfl
def hPour : CH := fun args hl K => match args, hl with
  | [.slc 0 0 n _, .v (.int .i64 a), .imm _ _ 1 W], [.lst 1 L] => ∃ (bs ws : List Int) (A : Nat), L = bs.map byteC ∧ n = bs.length ∧ a = A ∧ W = ws.map intC ∧ wordsB ws = true ∧ A + 4 * ws.length ≤ bs.length ∧ bs.length ≤ 1048576 ∧ K (.tup []) [.lst 1 ((pourN bs A ws ws.length).map byteC)]
  | _, _ => False
def cx_s_l5Pour : Ctx := mkC [(50, callM [.rw] false hLPut)]
theorem cx_s_l5Pour_ok : CtxOk Tryz.prog cx_s_l5Pour := mkC_ok (mem1 ⟨s_l1Put, fnOk Tryz.func50 rfl rfl⟩ mem0)
set_option maxRecDepth 100000 in
set_option pp.maxSteps 1500 in
set_option maxHeartbeats 4000000 in
theorem s_l5Pour : HSound Tryz.prog 49 (callM [.rw] false hPour) := by
  refine callM_sound cx_s_l5Pour_ok mixed Tryz.func49 rfl fun args hl K hp => ?_
  unfold hPour at hp
  split at hp
  · rename_i n z0 a t z W L
    obtain ⟨bs, ws, A, rfl, rfl, rfl, rfl, hws, hA, hlen, hp⟩ := hp
    refine Exists.intro true (Exists.intro [0, 1, 2, 6] (Exists.intro (fun m vs h => ∃ i : Nat, i ≤ ws.length ∧ m = ws.length - i ∧ vs = [.slc 0 0 bs.length false, .v (.int .i64 A), .imm t z 1 (ws.map intC), .v (.int .i64 i)] ∧ h = [.lst 1 ((pourN bs A ws i).map byteC)]) (And.intro ?_ ?_)))
    · refine Exists.intro [] ?_
      refine And.intro (closed_bytes _) ?_
      exact Exists.intro ws.length ⟨0, by omega, rfl, rfl, rfl⟩
    intro m vs h hI
    obtain ⟨i, hi, rfl, rfl, rfl⟩ := hI
    refine And.intro (fun h1 => ?_) (fun h1 => ?_)
    · have h1 := of_decide_eq_true h1
      rw [List.length_map] at h1
      have hlt : i < ws.length := by omega
      obtain ⟨w, hw⟩ : ∃ w, ws[i]? = some w := ⟨_, List.getElem?_eq_getElem hlt⟩
      obtain ⟨w0, w1⟩ := word_at hws hw
      have hst := pourN_at (b := bs) (a := A) hw
      have hpl := pourN_len bs A ws i
      refine Exists.intro i (And.intro rfl (Exists.intro (intC w) (And.intro (get_map hw) ?_)))
      refine And.intro (closed_bytes _) ?_
      refine Exists.intro (pourN bs A ws i) ?_
      refine Exists.intro (A + 4 * i) ?_
      refine Exists.intro (4 : Nat) ?_
      refine And.intro rfl (And.intro hpl.symm (And.intro ?_ (And.intro rfl (And.intro (by omega) (And.intro (by omega) (And.intro (by omega) (And.intro w0 (And.intro w1 ?_))))))))
      · rw [wrap64 (x := 4 * (i : Int)) (by omega), wrap64 (by omega)]
        omega
      rw [← hst]
      refine Exists.intro [] ?_
      refine And.intro (closed_bytes _) ?_
      refine Exists.intro (ws.length - (i + 1)) (And.intro (by omega) ⟨i + 1, by omega, rfl, ?_, rfl⟩)
      rw [wrap_succ hlt (by omega)]
    · have h1 := of_decide_eq_false h1
      rw [List.length_map] at h1
      have hie : i = ws.length := by omega
      subst hie
      refine And.intro (closed_bytes _) ?_
      exact hp
  · exact hp.elim
end Go.Proofs.YtbfjkjdbdejnmaaGreat.Ab

/- Images of impl: the closure that pours. No condition. -/
namespace Go.Proofs.YtbfjkjdbdejnmaaGreat.Ab
set_option linter.unusedVariables false
set_option linter.unusedSimpArgs false
set_option maxRecDepth 100000

theorem tkL {α : Type} {C : α → List AV} {l : List α} {n : Nat} (h : l.length = n) : List.take n (l.map C) = l.map C ∧ (l.map C).length = n := by
  subst h
  exact ⟨lendL _ _, List.length_map _⟩
def hPourC : CH := fun args hl K => match args, hl with
  | [.v (.int .i64 a), .imm _ _ 1 W, .ptr 0 0 0 _], [.box [.sl 1 F, .sl 1 R, .sl 1 O]] => ∃ (bs ws : List Int) (A : Nat), F = bs.map byteC ∧ a = A ∧ W = ws.map intC ∧ wordsB ws = true ∧ A + 4 * ws.length ≤ bs.length ∧ bs.length ≤ 1048576 ∧ K (.tup []) [.box [.sl 1 ((pourN bs A ws ws.length).map byteC), .sl 1 R, .sl 1 O]]
  | _, _ => False
def cx_s_pourC : Ctx := mkC [(111, callM [.rw] false hPut4)]
theorem cx_s_pourC_ok : CtxOk Tryz.prog cx_s_pourC := mkC_ok (mem1 ⟨s_put, fnOk Tryz.func111 rfl rfl⟩ mem0)
set_option maxRecDepth 100000 in
set_option pp.maxSteps 1500 in
set_option maxHeartbeats 4000000 in
theorem s_pourC : HSound Tryz.prog 110 (callM [.ro, .ro, .rw] false hPourC) := by
  refine callM_sound cx_s_pourC_ok mixed Tryz.func110 rfl fun args hl K hp => ?_
  unfold hPourC at hp
  split at hp
  · rename_i a t z W q F R O
    obtain ⟨bs, ws, A, rfl, rfl, rfl, hws, hA, hlen, hp⟩ := hp
    refine Exists.intro true (Exists.intro [0, 2, 7, 8, 9] (Exists.intro (fun m vs h => ∃ i : Nat, i ≤ ws.length ∧ m = ws.length - i ∧ vs = [.v (.int .i64 A), .ptr 0 0 0 q, .imm t z 1 (ws.map intC), .v (.int .i64 ws.length), .v (.int .i64 i)] ∧ h = [.box [.sl 1 ((pourN bs A ws i).map byteC), .sl 1 R, .sl 1 O]]) (And.intro ?_ ?_)))
    · refine Exists.intro [] ?_
      refine Exists.intro ws.length ⟨0, by omega, rfl, ?_, rfl⟩
      rw [List.length_map]
      rfl
    intro m vs h hI
    obtain ⟨i, hi, rfl, rfl, rfl⟩ := hI
    refine And.intro (fun h1 => ?_) (fun h1 => ?_)
    · have h1 := of_decide_eq_true h1
      have hlt : i < ws.length := by omega
      obtain ⟨w, hw⟩ : ∃ w, ws[i]? = some w := ⟨_, List.getElem?_eq_getElem hlt⟩
      obtain ⟨w0, w1⟩ := word_at hws hw
      have hst := pourN_at (b := bs) (a := A) hw
      have hpl := pourN_len bs A ws i
      refine Exists.intro i (And.intro rfl (Exists.intro (intC w) (And.intro (get_map hw) ?_)))
      have hw1 : IntKind.i64.wrap ((A : Int) + IntKind.i64.wrap (4 * (i : Int))) = ((A + 4 * i : Nat) : Int) := by rw [wrap64 (x := 4 * (i : Int)) (by omega), wrap64 (by omega)]; omega
      have hw2 : IntKind.i64.wrap (IntKind.i64.wrap ((A : Int) + IntKind.i64.wrap (4 * (i : Int))) + 4) = ((A + 4 * i + 4 : Nat) : Int) := by rw [hw1, wrap64 (by omega)]; omega
      refine Exists.intro (A + 4 * i) (And.intro hw1 (Exists.intro (A + 4 * i + 4) (And.intro hw2 (And.intro (by omega) (And.intro (by rw [List.length_map, hpl]; omega) ?_)))))
      refine And.intro (closed_bytes _) ?_
      refine Exists.intro (pourN bs A ws i) (And.intro rfl (And.intro (by omega) (And.intro (by omega) ?_)))
      rw [show 0 + (A + 4 * i) = A + 4 * i from Nat.zero_add _, ← hst]
      refine Exists.intro [] ?_
      have htk := tkL (C := byteC) (show (pourN bs A ws (i + 1)).length = (List.map byteC (pourN bs A ws i)).length by rw [List.length_map, pourN_len, pourN_len])
      refine Exists.intro _ (And.intro htk.1 (And.intro htk.2 (And.intro (closed_bytes _) ?_)))
      refine Exists.intro (ws.length - (i + 1)) (And.intro (by omega) ⟨i + 1, by omega, rfl, ?_, rfl⟩)
      rw [wrap_succ hlt (by omega)]
    · have h1 := of_decide_eq_false h1
      have hie : i = ws.length := by omega
      subst hie
      exact hp
  · exact hp.elim
end Go.Proofs.YtbfjkjdbdejnmaaGreat.Ab

/- Link: configurations and allocators. No condition. -/
namespace Go.Proofs.YtbfjkjdbdejnmaaGreat.Ab
set_option linter.unusedVariables false
set_option linter.unusedSimpArgs false

def hCfg : CH := fun args hl K => match args, hl with
  | [.agg [.v (.int .i64 a), .v (.int .i64 b), .v (.int .i64 c), .v (.int .i64 d)]], [] => K (.v (.bool (cfgB ⟨a, b, c, d⟩))) []
  | _, _ => False
def cx_s_impl_ConfigOk : Ctx := mkC []
theorem cx_s_impl_ConfigOk_ok : CtxOk Tryz.prog cx_s_impl_ConfigOk := cx0_ok
set_option maxRecDepth 100000 in
set_option pp.maxSteps 1500 in
set_option maxHeartbeats 4000000 in
theorem s_impl_ConfigOk : HSound Tryz.prog 145 (callM [] false hCfg) := by
  refine callM_sound cx_s_impl_ConfigOk_ok mixed Tryz.func145 rfl fun args hl K hp => ?_
  unfold hCfg at hp
  split at hp
  · rename_i a b c d
    repeat' ((first | refine And.intro (fun h1 => ?_) (fun h1 => ?_) | refine And.intro (by decide) ?_ | refine And.intro (show wfB _ = true from by kernel_rfl) ?_ | refine And.intro (And.intro rfl rfl) ?_ | exact And.intro rfl rfl | apply HeldC.intro | exact AV.top | (apply HeldF.intro; refine Exists.intro _ (And.intro (by assumption) ?_); refine And.intro (by decide) ?_; exact And.intro rfl rfl) | (refine And.intro (by (refine Exists.intro _ (And.intro (by assumption) ?_); refine And.intro (by decide) ?_; exact And.intro rfl rfl)) ?_) | refine Or.inl ?_) <;> try cases h1)
    all_goals refine fin_b hp ?_
    all_goals clear hp
    all_goals rw [Bool.eq_iff_iff]
    all_goals simp only [cfgB, decide_eq_true_eq]
    all_goals generalize c.tmod 32 = r at *
    all_goals simp only [ beq_iff_eq, beq_eq_false_iff_ne, ne_eq, decide_eq_true_eq, decide_eq_false_iff_not, Bool.false_eq_true, false_iff, true_iff, iff_false, iff_true, ge_iff_le] at *
    all_goals omega
  · exact hp.elim
def cx_s_spec_ConfigOk : Ctx := mkC []
theorem cx_s_spec_ConfigOk_ok : CtxOk Tryz.prog cx_s_spec_ConfigOk := cx0_ok
set_option maxRecDepth 100000 in
set_option pp.maxSteps 1500 in
set_option maxHeartbeats 4000000 in
theorem s_spec_ConfigOk : HSound Tryz.prog 193 (callM [] false hCfg) := by
  refine callM_sound cx_s_spec_ConfigOk_ok mixed Tryz.func193 rfl fun args hl K hp => ?_
  unfold hCfg at hp
  split at hp
  · rename_i a b c d
    repeat' ((first | refine And.intro (fun h1 => ?_) (fun h1 => ?_) | refine And.intro (by decide) ?_ | refine And.intro (show wfB _ = true from by kernel_rfl) ?_ | refine And.intro (And.intro rfl rfl) ?_ | exact And.intro rfl rfl | apply HeldC.intro | exact AV.top | (apply HeldF.intro; refine Exists.intro _ (And.intro (by assumption) ?_); refine And.intro (by decide) ?_; exact And.intro rfl rfl) | (refine And.intro (by (refine Exists.intro _ (And.intro (by assumption) ?_); refine And.intro (by decide) ?_; exact And.intro rfl rfl)) ?_) | refine Or.inl ?_) <;> try cases h1)
    all_goals refine fin_b hp ?_
    all_goals clear hp
    all_goals rw [Bool.eq_iff_iff]
    all_goals simp only [cfgB, decide_eq_true_eq]
    all_goals generalize c.tmod 32 = r at *
    all_goals simp only [ beq_iff_eq, beq_eq_false_iff_ne, ne_eq, decide_eq_true_eq, decide_eq_false_iff_not, Bool.false_eq_true, false_iff, true_iff, iff_false, iff_true, ge_iff_le] at *
    all_goals omega
  · exact hp.elim
def hRup : CH := fun args hl K => match args, hl with
  | [.v (.int .i64 n)], [] => ∃ N : Nat, n = N ∧ N ≤ 1099511627776 ∧ K (.v (.int .i64 (rup N : Nat))) []
  | _, _ => False
def cx_s_roundUp : Ctx := mkC []
theorem cx_s_roundUp_ok : CtxOk Tryz.prog cx_s_roundUp := cx0_ok
set_option maxRecDepth 100000 in
set_option pp.maxSteps 1500 in
theorem s_roundUp : HSound Tryz.prog 116 (callM [] false hRup) := by
  refine callM_sound cx_s_roundUp_ok mixed Tryz.func116 rfl fun args hl K hp => ?_
  unfold hRup at hp
  split at hp
  · obtain ⟨N, rfl, hN, hp⟩ := hp
    rw [← rup_wrap hN] at hp
    refine And.intro (by decide) ?_
    exact hp
  · exact hp.elim
def cx_s_l5Round : Ctx := mkC []
theorem cx_s_l5Round_ok : CtxOk Tryz.prog cx_s_l5Round := cx0_ok
set_option maxRecDepth 100000 in
set_option pp.maxSteps 1500 in
theorem s_l5Round : HSound Tryz.prog 94 (callM [] false hRup) := by
  refine callM_sound cx_s_l5Round_ok mixed Tryz.func94 rfl fun args hl K hp => ?_
  unfold hRup at hp
  split at hp
  · obtain ⟨N, rfl, hN, hp⟩ := hp
    rw [← rup_wrap hN] at hp
    refine And.intro (by decide) ?_
    exact hp
  · exact hp.elim
def hLenF : CH := fun args hl K => match args, hl with
  | [.imm _ _ 1 L], [] => L.length ≤ 1048576 ∧ K (.v (.int .i64 ((4 * L.length : Nat) : Int))) []
  | _, _ => False
def cx_s_placed1 : Ctx := mkC []
theorem cx_s_placed1_ok : CtxOk Tryz.prog cx_s_placed1 := cx0_ok
set_option maxRecDepth 100000 in
set_option pp.maxSteps 1500 in
theorem s_placed1 : HSound Tryz.prog 202 (callM [] true hLenF) := by
  refine callM_sound cx_s_placed1_ok mixed Tryz.func202 rfl fun args hl K hp => ?_
  unfold hLenF at hp
  split at hp
  · rename_i L
    obtain ⟨hL, hp⟩ := hp
    rw [show (((4 * L.length : Nat) : Int)) = IntKind.i64.wrap (4 * (L.length : Int)) from by rw [wrap64 (by omega)]; omega] at hp
    exact hp
  · exact hp.elim
def hIdF : CH := fun args hl K => match args, hl with
  | [.v (.int .i64 n)], [] => K (.v (.int .i64 n)) []
  | _, _ => False
def cx_s_placed2 : Ctx := mkC []
theorem cx_s_placed2_ok : CtxOk Tryz.prog cx_s_placed2 := cx0_ok
set_option maxRecDepth 100000 in
set_option pp.maxSteps 1500 in
theorem s_placed2 : HSound Tryz.prog 204 (callM [] false hIdF) := by
  refine callM_sound cx_s_placed2_ok mixed Tryz.func204 rfl fun args hl K hp => ?_
  unfold hIdF at hp
  split at hp
  · exact hp
  · exact hp.elim
def hNewAl : CH := fun args hl K => match args, hl with
  | [.v (.int .i64 n), .fn f []], [] => K (.ptr 0 0 0 3) [.box [.v (.int .i64 n), .v (.int .i64 n), .fn f []]]
  | _, _ => False
def cx_s_newAl1 : Ctx := mkC []
theorem cx_s_newAl1_ok : CtxOk Tryz.prog cx_s_newAl1 := cx0_ok
set_option maxRecDepth 100000 in
set_option pp.maxSteps 1500 in
theorem s_newAl1 : HSound Tryz.prog 201 (callM [] false hNewAl) := by
  refine callM_sound cx_s_newAl1_ok mixed Tryz.func201 rfl fun args hl K hp => ?_
  unfold hNewAl at hp
  split at hp
  · exact hp
  · exact hp.elim
def cx_s_newAl2 : Ctx := mkC []
theorem cx_s_newAl2_ok : CtxOk Tryz.prog cx_s_newAl2 := cx0_ok
set_option maxRecDepth 100000 in
set_option pp.maxSteps 1500 in
theorem s_newAl2 : HSound Tryz.prog 203 (callM [] false hNewAl) := by
  refine callM_sound cx_s_newAl2_ok mixed Tryz.func203 rfl fun args hl K hp => ?_
  unfold hNewAl at hp
  split at hp
  · exact hp
  · exact hp.elim
def hUsed : CH := fun args hl K => match args, hl with
  | [.ptr 0 0 0 _], [.box [.v (.int .i64 b), .v (.int .i64 n), .fn f []]] => I64 (n - b) ∧ K (.v (.int .i64 (n - b))) [.box [.v (.int .i64 b), .v (.int .i64 n), .fn f []]]
  | _, _ => False
def cx_s_used1 : Ctx := mkC []
theorem cx_s_used1_ok : CtxOk Tryz.prog cx_s_used1 := cx0_ok
set_option maxRecDepth 100000 in
set_option pp.maxSteps 1500 in
theorem s_used1 : HSound Tryz.prog 207 (callM [.rw] false hUsed) := by
  refine callM_sound cx_s_used1_ok mixed Tryz.func207 rfl fun args hl K hp => ?_
  unfold hUsed at hp
  split at hp
  · obtain ⟨hI, hp⟩ := hp
    rw [← wrap64 hI] at hp
    refine And.intro (show Region.lexB _ _ = true from by kernel_rfl) ?_
    exact hp
  · exact hp.elim
def cx_s_used2 : Ctx := mkC []
theorem cx_s_used2_ok : CtxOk Tryz.prog cx_s_used2 := cx0_ok
set_option maxRecDepth 100000 in
set_option pp.maxSteps 1500 in
theorem s_used2 : HSound Tryz.prog 208 (callM [.rw] false hUsed) := by
  refine callM_sound cx_s_used2_ok mixed Tryz.func208 rfl fun args hl K hp => ?_
  unfold hUsed at hp
  split at hp
  · obtain ⟨hI, hp⟩ := hp
    rw [← wrap64 hI] at hp
    refine And.intro (show Region.lexB _ _ = true from by kernel_rfl) ?_
    exact hp
  · exact hp.elim
def hPlaceL : CH := fun args hl K => match args, hl with
  | [.ptr 0 0 0 _, .imm _ _ 1 L], [.box [.v (.int .i64 b), .v (.int .i64 n), .fn f []]] => f = 202 ∧ ∃ N : Nat, n = N ∧ N ≤ 1048576 ∧ L.length ≤ 1048576 ∧ K (.v (.int .i64 N)) [.box [.v (.int .i64 b), .v (.int .i64 ((N + rup (4 * L.length) : Nat) : Int)), .fn f []]]
  | _, _ => False
def cx_s_place1 : Ctx := mkC [(116, callM [] false hRup), (202, callM [] true hLenF)]
theorem cx_s_place1_ok : CtxOk Tryz.prog cx_s_place1 := mkC_ok (mem1 ⟨s_roundUp, fnOk Tryz.func116 rfl rfl⟩ (mem1 ⟨s_placed1, fnOk Tryz.func202 rfl rfl⟩ mem0))
set_option maxRecDepth 100000 in
set_option pp.maxSteps 1500 in
theorem s_place1 : HSound Tryz.prog 205 (callM [.rw] true hPlaceL) := by
  refine callM_sound cx_s_place1_ok mixed Tryz.func205 rfl fun args hl K hp => ?_
  unfold hPlaceL at hp
  split at hp
  · rename_i L b n f
    obtain ⟨rfl, N, rfl, hN, hL, hp⟩ := hp
    have hr := rup_le (4 * L.length)
    have hw : IntKind.i64.wrap ((N : Int) + (rup (4 * L.length) : Nat)) = ((N + rup (4 * L.length) : Nat) : Int) := by rw [wrap64 (by omega)]; omega
    refine Or.inl ?_
    refine And.intro (show wfB _ = true from by kernel_rfl) ?_
    repeat' (first
      | (refine And.intro hL ?_; exact And.intro rfl rfl)
      | (refine Exists.intro (4 * L.length) ?_; refine And.intro rfl ?_; refine And.intro (by omega) ?_; exact And.intro rfl rfl)
      | refine And.intro (show wfB _ = true from by kernel_rfl) ?_ | refine And.intro (And.intro rfl rfl) ?_ | exact And.intro rfl rfl | apply HeldC.intro | exact AV.top | (apply HeldF.intro; refine Exists.intro _ (And.intro (by assumption) ?_); refine And.intro (by decide) ?_; exact And.intro rfl rfl) | (refine And.intro (by (refine Exists.intro _ (And.intro (by assumption) ?_); refine And.intro (by decide) ?_; exact And.intro rfl rfl)) ?_) | refine Or.inl ?_)
    rw [hw]
    exact hp
  · exact hp.elim
def hPlaceN : CH := fun args hl K => match args, hl with
  | [.ptr 0 0 0 _, .v (.int .i64 s)], [.box [.v (.int .i64 b), .v (.int .i64 n), .fn f []]] => f = 204 ∧ ∃ N S : Nat, n = N ∧ s = S ∧ N ≤ 1048576 ∧ S ≤ 1048576 ∧ K (.v (.int .i64 N)) [.box [.v (.int .i64 b), .v (.int .i64 ((N + rup S : Nat) : Int)), .fn f []]]
  | _, _ => False
def cx_s_place2 : Ctx := mkC [(116, callM [] false hRup), (204, callM [] false hIdF)]
theorem cx_s_place2_ok : CtxOk Tryz.prog cx_s_place2 := mkC_ok (mem1 ⟨s_roundUp, fnOk Tryz.func116 rfl rfl⟩ (mem1 ⟨s_placed2, fnOk Tryz.func204 rfl rfl⟩ mem0))
set_option maxRecDepth 100000 in
set_option pp.maxSteps 1500 in
theorem s_place2 : HSound Tryz.prog 206 (callM [.rw] true hPlaceN) := by
  refine callM_sound cx_s_place2_ok mixed Tryz.func206 rfl fun args hl K hp => ?_
  unfold hPlaceN at hp
  split at hp
  · rename_i s b n f
    obtain ⟨rfl, N, S, rfl, rfl, hN, hS, hp⟩ := hp
    have hr := rup_le S
    have hw : IntKind.i64.wrap ((N : Int) + (rup S : Nat)) = ((N + rup S : Nat) : Int) := by rw [wrap64 (by omega)]; omega
    refine Or.inl ?_
    refine And.intro (show wfB _ = true from by kernel_rfl) ?_
    repeat' (first
      | (refine Exists.intro S ?_; refine And.intro rfl ?_; refine And.intro (by omega) ?_; exact And.intro rfl rfl)
      | refine And.intro (show wfB _ = true from by kernel_rfl) ?_ | refine And.intro (And.intro rfl rfl) ?_ | exact And.intro rfl rfl | apply HeldC.intro | exact AV.top | (apply HeldF.intro; refine Exists.intro _ (And.intro (by assumption) ?_); refine And.intro (by decide) ?_; exact And.intro rfl rfl) | (refine And.intro (by (refine Exists.intro _ (And.intro (by assumption) ?_); refine And.intro (by decide) ?_; exact And.intro rfl rfl)) ?_) | refine Or.inl ?_)
    rw [hw]
    exact hp
  · exact hp.elim
end Go.Proofs.YtbfjkjdbdejnmaaGreat.Ab

/- Link of the reference: what it asks, targets, banks too long. No condition. -/
namespace Go.Proofs.YtbfjkjdbdejnmaaGreat.Ab
set_option linter.unusedVariables false
set_option linter.unusedSimpArgs false

theorem new_val {ms : List Mo} {i : Nat} {m : Mo} (h : ms[i]? = some m) : newB ms i = !seenB ms i m.name := by rw [newB, h]
theorem seen_ex {ms : List Mo} {i k : Nat} {q : Mo} {n : ByteArray} (hk : k < i) (hq : ms[k]? = some q) (hn : q.name = n) : seenB ms i n = true := by
  unfold seenB
  rw [List.any_eq_true]
  refine ⟨q, ?_, by simpa using hn⟩
  rw [List.mem_iff_getElem?]
  exact ⟨k, by rw [List.getElem?_take, if_pos hk]; exact hq⟩
theorem seen_no {ms : List Mo} {i : Nat} {n : ByteArray} (h : ∀ k < i, ∀ q, ms[k]? = some q → q.name ≠ n) : seenB ms i n = false := by
  unfold seenB
  rw [List.any_eq_false]
  intro q hq
  obtain ⟨k, hk⟩ := List.mem_iff_getElem?.1 hq
  rw [List.getElem?_take] at hk
  split at hk
  · simpa using h k (by assumption) q hk
  · cases hk
def hSoundC : CH := fun args hl K => match args, hl with
  | [.imm _ _ 8 L, .agg [.v (.int .i64 a), .v (.int .i64 b), .v (.int .i64 c), .v (.int .i64 d)]], [] => ∃ ms : List Mo, L = ms.map moC ∧ ms.length ≤ 1048576 ∧ (∀ m ∈ ms, smMo m) ∧ K (.v (.int .i64 (soundF ms ⟨a, b, c, d⟩))) []
  | _, _ => False
def cx_s_l5Sound : Ctx := mkC [(193, callM [] false hCfg), (194, callM [] true hModOk)]
theorem cx_s_l5Sound_ok : CtxOk Tryz.prog cx_s_l5Sound := mkC_ok (mem1 ⟨s_spec_ConfigOk, fnOk Tryz.func193 rfl rfl⟩ (mem1 ⟨s_spec_ModuleOk, fnOk Tryz.func194 rfl rfl⟩ mem0))
set_option maxRecDepth 100000 in
set_option pp.maxSteps 1500 in
set_option maxHeartbeats 8000000 in
theorem s_l5Sound : HSound Tryz.prog 137 (callM [] true hSoundC) := by
  refine callM_sound cx_s_l5Sound_ok mixed Tryz.func137 rfl fun args hl K hp => ?_
  unfold hSoundC at hp
  split at hp
  · rename_i t z L a b c d
    obtain ⟨ms, rfl, hlen, hsm, hp⟩ := hp
    refine And.intro (fun h1 => ?_) (fun h1 => ?_)
    · refine fin_i hp ?_
      have h1 : cfgB ⟨a, b, c, d⟩ = false := by simpa using h1
      simp only [soundF, h1, if_true]
    have e1 : cfgB ⟨a, b, c, d⟩ = true := by simpa using h1
    clear h1
    have f2 : decide (1 ≤ ms.length ∧ ms.length ≤ 4) = false → soundF ms ⟨a, b, c, d⟩ = 2 := fun h => by simp only [soundF, e1, h, Bool.true_eq_false, if_true, if_false]
    repeat' ((first | refine And.intro (fun h1 => ?_) (fun h1 => ?_) | refine And.intro (by decide) ?_ | refine And.intro (show wfB _ = true from by kernel_rfl) ?_ | refine And.intro (And.intro rfl rfl) ?_ | exact And.intro rfl rfl | apply HeldC.intro | exact AV.top | (apply HeldF.intro; refine Exists.intro _ (And.intro (by assumption) ?_); refine And.intro (by decide) ?_; exact And.intro rfl rfl) | (refine And.intro (by (refine Exists.intro _ (And.intro (by assumption) ?_); refine And.intro (by decide) ?_; exact And.intro rfl rfl)) ?_) | refine Or.inl ?_) <;> try cases h1)
    · have h1 := of_decide_eq_true h1
      rw [List.length_map] at h1
      exact fin_i hp (f2 (decide_eq_false (by omega)))
    · have h1 := of_decide_eq_true h1
      rw [List.length_map] at h1
      exact fin_i hp (f2 (decide_eq_false (by omega)))
    rename_i h0
    have h0 := of_decide_eq_false h0
    have h1 := of_decide_eq_false h1
    rw [List.length_map] at h0 h1
    have e2 : decide (1 ≤ ms.length ∧ ms.length ≤ 4) = true := decide_eq_true (by omega)
    clear f2
    have f3 : ms.all (fun m => decide (modOk m = 0)) = false → soundF ms ⟨a, b, c, d⟩ = 3 := fun h => by simp only [soundF, e1, e2, h, Bool.true_eq_false, if_true, if_false]
    refine Exists.intro true (Exists.intro [0, 3, 5] (Exists.intro (fun m vs h => ∃ i : Nat, i ≤ ms.length ∧ m = ms.length - i ∧ (ms.take i).all (fun m => decide (modOk m = 0)) = true ∧ vs = [.imm t z 8 (ms.map moC), .ptr 0 0 0 4, .v (.int .i64 i)] ∧ h = [.box [.v (.int .i64 a), .v (.int .i64 b), .v (.int .i64 c), .v (.int .i64 d)]]) (And.intro ?_ ?_)))
    · refine Exists.intro [] (Exists.intro ms.length ?_)
      exact ⟨0, by omega, rfl, rfl, rfl, rfl⟩
    intro m vs h hI
    obtain ⟨i, hi, rfl, hall, rfl, rfl⟩ := hI
    refine And.intro (fun h1 => ?_) (fun h1 => ?_)
    · have h1 := of_decide_eq_true h1
      rw [List.length_map] at h1
      have hlt : i < ms.length := by omega
      obtain ⟨m, hm⟩ : ∃ m, ms[i]? = some m := ⟨_, List.getElem?_eq_getElem hlt⟩
      refine Exists.intro i (And.intro rfl (Exists.intro (moC m) (And.intro (get_map hm) ?_)))
      refine Exists.intro m (And.intro ⟨_, _, _, _, _, _, _, _, _, _, _, _, rfl⟩ (And.intro (hsm m (List.mem_of_getElem? hm)) ?_))
      refine And.intro (fun h2 => ?_) (fun h2 => ?_)
      · have h2 : ¬ modOk m = 0 := by simpa using h2
        exact fin_i hp (f3 (all_bad hm (decide_eq_false h2)))
      · have h2 : modOk m = 0 := by simpa using h2
        refine Exists.intro [] (Exists.intro (ms.length - (i + 1)) (And.intro (by omega) ⟨i + 1, by omega, rfl, all_take hm hall (decide_eq_true h2), ?_, rfl⟩))
        rw [wrap_succ hlt (by omega)]
    have h1 := of_decide_eq_false h1
    rw [List.length_map] at h1
    rw [List.take_of_length_le (by omega)] at hall
    clear f3
    have f4 : (List.range ms.length).all (newB ms) = false → soundF ms ⟨a, b, c, d⟩ = 4 := fun h => by simp only [soundF, e1, e2, hall, h, Bool.true_eq_false, if_true, if_false]
    refine Exists.intro true (Exists.intro [0, 3, 6] (Exists.intro (fun m vs h => ∃ i : Nat, i ≤ ms.length ∧ m = ms.length - i ∧ (∀ k < i, newB ms k = true) ∧ vs = [.imm t z 8 (ms.map moC), .ptr 0 0 0 4, .v (.int .i64 i)] ∧ h = [.box [.v (.int .i64 a), .v (.int .i64 b), .v (.int .i64 c), .v (.int .i64 d)]]) (And.intro ?_ ?_)))
    · refine Exists.intro [] (Exists.intro ms.length ?_)
      exact ⟨0, by omega, rfl, fun k hk => by omega, rfl, rfl⟩
    intro m vs h hI
    obtain ⟨i, hi, rfl, hnew, rfl, rfl⟩ := hI
    refine And.intro (fun h1 => ?_) (fun h1 => ?_)
    · have h1 := of_decide_eq_true h1
      rw [List.length_map] at h1
      have hlt : i < ms.length := by omega
      obtain ⟨m, hm⟩ : ∃ m, ms[i]? = some m := ⟨_, List.getElem?_eq_getElem hlt⟩
      refine Exists.intro true (Exists.intro [0, 3, 6, 7] (Exists.intro (fun m' vs h => ∃ j : Nat, j ≤ i ∧ m' = i - j ∧ (∀ k < j, ∀ q, ms[k]? = some q → q.name ≠ m.name) ∧ vs = [.imm t z 8 (ms.map moC), .ptr 0 0 0 4, .v (.int .i64 i), .v (.int .i64 j)] ∧ h = [.box [.v (.int .i64 a), .v (.int .i64 b), .v (.int .i64 c), .v (.int .i64 d)]]) (And.intro ?_ ?_)))
      · refine Exists.intro [] (Exists.intro i ?_)
        exact ⟨0, by omega, rfl, fun k hk => by omega, rfl, rfl⟩
      intro m' vs h hI
      obtain ⟨j, hj, rfl, hno, rfl, rfl⟩ := hI
      refine And.intro (fun h2 => ?_) (fun h2 => ?_)
      · have h2 := of_decide_eq_true h2
        have hjl : j < i := by omega
        obtain ⟨q, hq⟩ : ∃ q, ms[j]? = some q := ⟨_, List.getElem?_eq_getElem (by omega)⟩
        refine And.intro (show Region.lexB _ _ = true from by kernel_rfl) ?_
        refine Exists.intro j (And.intro rfl (Exists.intro (moC q) (And.intro (get_map hq) ?_)))
        refine Exists.intro i (And.intro rfl (Exists.intro (moC m) (And.intro (get_map hm) ?_)))
        refine And.intro (fun h3 => ?_) (fun h3 => ?_)
        · have h3 : q.name = m.name := by
            rw [ba_beq2] at h3
            simpa using h3
          refine fin_i hp (f4 (range_bad hlt ?_))
          rw [new_val hm, seen_ex hjl hq h3]
          rfl
        · have h3 : ¬ q.name = m.name := by
            rw [ba_beq2] at h3
            simpa using h3
          refine Exists.intro [] (Exists.intro (i - (j + 1)) (And.intro (by omega) ⟨j + 1, by omega, rfl, ?_, ?_, rfl⟩))
          · intro k hk q' hq'
            rcases Nat.lt_or_ge k j with r | r
            · exact hno k r q' hq'
            · have : k = j := by omega
              subst this
              rw [hq] at hq'
              cases hq'
              exact h3
          · rw [wrap_succ hjl (by omega)]
      · have h2 := of_decide_eq_false h2
        have hji : j = i := by omega
        subst hji
        refine Exists.intro [] (Exists.intro (ms.length - (j + 1)) (And.intro (by omega) ⟨j + 1, by omega, rfl, lt_step hnew ?_, ?_, rfl⟩))
        · rw [new_val hm, seen_no hno]
          rfl
        · rw [wrap_succ hlt (by omega)]
    · have h1 := of_decide_eq_false h1
      rw [List.length_map] at h1
      have hnn := range_all (n := ms.length) fun k hk => hnew k (by omega)
      refine fin_i hp ?_
      simp only [soundF, e1, e2, hall, hnn, Bool.true_eq_false, if_false]
  · exact hp.elim

/-- Targets: all of them, or some of them and that one is missing. -/
def hTgts : CH := fun args hl K => match args, hl with
  | [.imm _ _ 8 L, a], [] => ∃ (ms : List Mo) (m : Mo), L = ms.map moC ∧ ms.length ≤ 1048576 ∧ (∀ m ∈ ms, smMo m) ∧ MoV a m ∧ smMo m ∧
      (resB ms m.imps = true → K (.tup [.slc 0 0 (tgsOf ms m.imps).length false, .v (.bool true)]) [.lst 3 ((tgsOf ms m.imps).map tgC)]) ∧ (resB ms m.imps = false → ∀ l : List Tg, K (.tup [.slc 0 0 l.length false, .v (.bool false)]) [.lst 3 (l.map tgC)])
  | _, _ => False
theorem tg_notSl (t : Tg) : ∀ e ∈ [tgC t], ∀ x ∈ e, x.isSl = false := by
  intro e he x hx
  simp at he
  subst he
  simp [tgC] at hx
  rcases hx with rfl | rfl | rfl <;> rfl
def cx_s_l5Targets : Ctx := mkC [(195, callM [] true hRes)]
theorem cx_s_l5Targets_ok : CtxOk Tryz.prog cx_s_l5Targets := mkC_ok (mem1 ⟨s_spec_Resolve, fnOk Tryz.func195 rfl rfl⟩ mem0)
set_option maxRecDepth 100000 in
set_option pp.maxSteps 1500 in
set_option maxHeartbeats 8000000 in
theorem s_l5Targets : HSound Tryz.prog 138 (callM [] true hTgts) := by
  refine callM_sound cx_s_l5Targets_ok mixed Tryz.func138 rfl fun args hl K hp => ?_
  unfold hTgts at hp
  split at hp
  · rename_i t z L a
    obtain ⟨ms, m, rfl, hlen, hsm, ⟨b1, z1, b2, z2, b3, z3, b4, z4, b5, z5, b6, z6, rfl⟩, hm, hp1, hp2⟩ := hp
    have him := hm.imps
    refine Or.inl ?_
    refine Exists.intro true (Exists.intro [0, 3, 6, 7] (Exists.intro (fun m' vs h => ∃ i : Nat, i ≤ m.imps.length ∧ m' = m.imps.length - i ∧ (m.imps.take i).all (fun s => (resolveF ms s).isSome) = true ∧ vs = [.imm t z 8 (ms.map moC), .ptr 0 0 0 8, .slc 1 0 (tgsOf ms (m.imps.take i)).length false, .v (.int .i64 i)] ∧ h = [.box (cellsM m b1 z1 b2 z2 b3 z3 b4 z4 b5 z5 b6 z6), .lst 3 ((tgsOf ms (m.imps.take i)).map tgC)]) (And.intro ?_ ?_)))
    · refine Exists.intro [] (And.intro closed_nil (Exists.intro m.imps.length ?_))
      exact ⟨0, by omega, rfl, rfl, rfl, rfl⟩
    intro m' vs h hI
    obtain ⟨i, hi, rfl, hall, rfl, rfl⟩ := hI
    have htl : (tgsOf ms (m.imps.take i)).length ≤ 1048576 := by
      have := List.length_filterMap_le (fun s => (resolveF ms s).map tgOf) (m.imps.take i)
      simp only [tgsOf]
      have := List.length_take_le i m.imps
      omega
    refine And.intro (fun h1 => ?_) (fun h1 => ?_)
    · have h1 := of_decide_eq_true h1
      rw [List.length_map] at h1
      have hlt : i < m.imps.length := by omega
      obtain ⟨s, hs⟩ : ∃ s, m.imps[i]? = some s := ⟨_, List.getElem?_eq_getElem hlt⟩
      have hss := hm.imp s (List.mem_of_getElem? hs)
      refine Exists.intro i (And.intro rfl (Exists.intro (strC s) (And.intro (get_map hs) ?_)))
      refine Exists.intro ms (And.intro rfl (And.intro hlen (And.intro hsm (And.intro hss ?_))))
      cases hr : resolveF ms s with
      | none =>
        have hbad : resB ms m.imps = false := all_bad hs (by rw [hr]; rfl)
        refine And.intro (fun h2 => ?_) (fun h2 => by cases h2)
        refine And.intro (closed_Target _) ?_
        exact hp2 hbad (tgsOf ms (m.imps.take i))
      | some p =>
        have hst := tgs_at hs hr
        refine And.intro (fun h2 => by cases h2) (fun h2 => ?_)
        generalize tgsOf ms (m.imps.take i) = T at *
        refine Exists.intro [tgC (tgOf p)] (And.intro rfl (And.intro rfl (And.intro (tg_notSl _) ?_)))
        refine And.intro (List.length_map _) ?_
        refine And.intro (by simp; omega) ?_
        refine And.intro (by simp; omega) ?_
        refine Exists.intro [] (And.intro (closed_app (closed_Target T) (closed_Target [tgOf p])) (Exists.intro (m.imps.length - (i + 1)) (And.intro (by omega) ⟨i + 1, by omega, rfl, all_take hs hall (by rw [hr]; rfl), ?_, ?_⟩)))
        · rw [wrap_succ hlt (by omega), hst]
          simp
        · rw [hst]
          simp
    · have h1 := of_decide_eq_false h1
      rw [List.length_map] at h1
      rw [List.take_of_length_le (by omega)] at hall ⊢
      refine And.intro (closed_Target _) ?_
      exact hp1 hall
  · exact hp.elim

def hLongC : CH := fun args hl K => match args, hl with
  | [.imm _ _ 8 L, .agg [.v (.int .i64 a), .v (.int .i64 b), .v (.int .i64 c), .v (.int .i64 d)]], [] => ∃ ms : List Mo, L = ms.map moC ∧ ms.length ≤ 1048576 ∧ (∀ m ∈ ms, smMo m) ∧ K (.v (.bool (longB ms ⟨a, b, c, d⟩))) []
  | _, _ => False
def cx_s_l5TooLong : Ctx := mkC []
theorem cx_s_l5TooLong_ok : CtxOk Tryz.prog cx_s_l5TooLong := cx0_ok
set_option maxRecDepth 100000 in
set_option pp.maxSteps 1500 in
set_option maxHeartbeats 8000000 in
theorem s_l5TooLong : HSound Tryz.prog 139 (callM [] true hLongC) := by
  refine callM_sound cx_s_l5TooLong_ok mixed Tryz.func139 rfl fun args hl K hp => ?_
  unfold hLongC at hp
  split at hp
  · rename_i t z L a b c d
    obtain ⟨ms, rfl, hlen, hsm, hp⟩ := hp
    refine Exists.intro true (Exists.intro [0, 3, 5] (Exists.intro (fun m vs h => ∃ i : Nat, i ≤ ms.length ∧ m = ms.length - i ∧ (0 < a → (ms.take i).all (bankB ⟨a, b, c, d⟩) = true) ∧ vs = [.imm t z 8 (ms.map moC), .ptr 0 0 0 4, .v (.int .i64 i)] ∧ h = [.box [.v (.int .i64 a), .v (.int .i64 b), .v (.int .i64 c), .v (.int .i64 d)]]) (And.intro ?_ ?_)))
    · refine Exists.intro [] (Exists.intro ms.length ?_)
      exact ⟨0, by omega, rfl, fun _ => rfl, rfl, rfl⟩
    intro m vs h hI
    obtain ⟨i, hi, rfl, hall, rfl, rfl⟩ := hI
    refine And.intro (fun h1 => ?_) (fun h1 => ?_)
    · have h1 := of_decide_eq_true h1
      rw [List.length_map] at h1
      have hlt : i < ms.length := by omega
      obtain ⟨m, hm⟩ : ∃ m, ms[i]? = some m := ⟨_, List.getElem?_eq_getElem hlt⟩
      have hmm := hsm m (List.mem_of_getElem? hm)
      have hbl := hmm.banks
      refine Exists.intro true (Exists.intro [0, 3, 5, 6] (Exists.intro (fun m' vs h => ∃ j : Nat, j ≤ m.banks.length ∧ m' = m.banks.length - j ∧ (0 < a → (m.banks.take j).all (fun x => decide ((x.length : Int) ≤ b)) = true) ∧ vs = [.imm t z 8 (ms.map moC), .ptr 0 0 0 4, .v (.int .i64 i), .v (.int .i64 j)] ∧ h = [.box [.v (.int .i64 a), .v (.int .i64 b), .v (.int .i64 c), .v (.int .i64 d)]]) (And.intro ?_ ?_)))
      · refine Exists.intro [] (Exists.intro m.banks.length ?_)
        exact ⟨0, by omega, rfl, fun _ => rfl, rfl, rfl⟩
      intro m' vs h hI
      obtain ⟨j, hj, rfl, hbk, rfl, rfl⟩ := hI
      refine Exists.intro i (And.intro rfl (Exists.intro (moC m) (And.intro (get_map hm) ?_)))
      refine And.intro (fun h2 => ?_) (fun h2 => ?_)
      · have h2 := of_decide_eq_true h2
        rw [List.length_map] at h2
        have hjl : j < m.banks.length := by omega
        obtain ⟨x, hx⟩ : ∃ x, m.banks[j]? = some x := ⟨_, List.getElem?_eq_getElem hjl⟩
        have hwj : IntKind.wrap .i64 ((j : Int) + 1) = ((j + 1 : Nat) : Int) := wrap_succ hjl (by omega)
        refine And.intro (show Region.lexB _ _ = true from by kernel_rfl) ?_
        repeat' ((first
          | refine And.intro (fun h3 => ?_) (fun h3 => ?_)
          | refine Exists.intro i (And.intro rfl (Exists.intro (moC m) (And.intro (get_map hm) ?_)))
          | refine Exists.intro j (And.intro rfl (Exists.intro (bankC x) (And.intro (get_map hx) ?_)))
          | fail) <;> try cases h3)
        all_goals simp only [List.length_map, decide_eq_true_eq, decide_eq_false_iff_not, gt_iff_lt] at *
        · refine fin_b hp ?_
          have hb2 : bankB ⟨a, b, c, d⟩ m = false := all_bad hx (decide_eq_false (show ¬ (x.length : Int) ≤ b by omega))
          simp only [longB, all_bad hm hb2, Bool.not_false, Bool.and_true]
          exact decide_eq_true (show 0 < a by omega)
        all_goals refine Exists.intro [] (Exists.intro (m.banks.length - (j + 1)) (And.intro (by omega) ⟨j + 1, by omega, rfl, fun ha => ?_, by rw [hwj], rfl⟩))
        · exact all_take hx (hbk ha) (decide_eq_true (by omega))
        · omega
      · have h2 := of_decide_eq_false h2
        rw [List.length_map] at h2
        rw [List.take_of_length_le (by omega)] at hbk
        refine Exists.intro [] (Exists.intro (ms.length - (i + 1)) (And.intro (by omega) ⟨i + 1, by omega, rfl, fun ha => all_take hm (hall ha) (hbk ha), ?_, rfl⟩))
        rw [wrap_succ hlt (by omega)]
    · have h1 := of_decide_eq_false h1
      rw [List.length_map] at h1
      rw [List.take_of_length_le (by omega)] at hall
      refine fin_b hp ?_
      by_cases ha : 0 < a
      · simp only [longB, hall ha, Bool.not_true, Bool.and_false]
      · simp only [longB, decide_eq_false ha, Bool.false_and]
  · exact hp.elim
end Go.Proofs.YtbfjkjdbdejnmaaGreat.Ab
