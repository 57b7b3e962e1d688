/- EncodeModule: the bytes of a module; spec's walk. No condition. -/
import Derived.Test.YtijjonafmmhhbaaTMok
import Derived.Test.YtijjonafmmhhbaaTWrite
namespace Go.Proofs.Ytijjonafmmhhbaa.Ab
set_option linter.unusedVariables false
set_option linter.unusedSimpArgs false

def numB (v : Int) (S : Nat) : List Int := (List.range S).map (byteV v)
def strL (s : ByteArray) : List Int := s.data.toList.map fun b => (b.toNat : Int)
def textB (s : ByteArray) : List Int := numB s.size 1 ++ strL s
def listB (ws : List Int) : List Int := numB ws.length 2 ++ ws.flatMap fun v => numB v 4
def exB (e : Ex) : List Int := textB e.n ++ numB (e.bank + 1) 1 ++ numB e.pos 2
def enc1 (m : Mo) : List Int := [88, 77] ++ textB m.name ++ listB m.text ++ numB m.banks.length 1
def enc5 (m : Mo) : List Int := numB m.imps.length 1 ++ (m.imps.flatMap textB ++ (numB m.exps.length 1 ++ m.exps.flatMap exB))
def enc4 (m : Mo) : List Int := m.rels.flatMap (fun v => numB v 2) ++ enc5 m
def enc3 (m : Mo) : List Int := (numB m.bss 2 ++ numB m.rels.length 1) ++ enc4 m
def enc2 (m : Mo) : List Int := (numB m.data.length 2 ++ m.data) ++ enc3 m
def encM (m : Mo) : List Int := enc1 m ++ (m.banks.flatMap listB ++ enc2 m)
def encodeF (m : Mo) : List Int := if modOk m = 0 then encM m else []

theorem strB_eq (s : ByteArray) : strB s = (strL s).map byteC := by simp [strB, strL]
theorem strL_len (s : ByteArray) : (strL s).length = s.size := by simp [strL]
theorem num_len (v : Int) (S : Nat) : (numB v S).length = S := by simp [numB]
theorem text_len (s : ByteArray) : (textB s).length = s.size + 1 := by simp [textB, num_len, strL_len, Nat.add_comm]
theorem flat_len {α : Type} {f : α → List Int} {c : Nat} : ∀ {l : List α}, (∀ x ∈ l, (f x).length ≤ c) → (l.flatMap f).length ≤ l.length * c
  | [], _ => by simp
  | a :: l, h => by
    have h1 := h a List.mem_cons_self
    have h2 := flat_len (l := l) fun x hx => h x (List.mem_cons_of_mem _ hx)
    rw [List.flatMap_cons, List.length_append, List.length_cons, Nat.succ_mul]
    omega
theorem flatTk {α : Type} {f : α → List Int} {c : Nat} {l : List α} (h : ∀ x ∈ l, (f x).length ≤ c) (i : Nat) : ((l.take i).flatMap f).length ≤ l.length * c := by
  have h1 := flat_len (l := l.take i) fun x hx => h x (List.mem_of_mem_take hx)
  have h2 : (l.take i).length ≤ l.length := by rw [List.length_take]; omega
  exact Nat.le_trans h1 (Nat.mul_le_mul_right _ h2)
theorem flat_step {α : Type} {f : α → List Int} {l : List α} {i : Nat} {a : α} (h : l[i]? = some a) : (l.take (i + 1)).flatMap f = (l.take i).flatMap f ++ f a := by
  rw [List.take_add_one, h]
  simp
theorem list_len (ws : List Int) : (listB ws).length = ws.length * 4 + 2 := by
  unfold listB
  rw [List.length_append, num_len]
  have : ∀ l : List Int, (l.flatMap fun v => numB v 4).length = l.length * 4 := by
    intro l
    induction l with
    | nil => rfl
    | cons a l ih => rw [List.flatMap_cons, List.length_append, num_len, ih, List.length_cons]; omega
  rw [this]
  omega
theorem ex_len (e : Ex) : (exB e).length = e.n.size + 4 := by simp [exB, text_len, num_len]
theorem fin_l {K : AV → HP → Prop} {n n' : Nat} {L L' : List (List AV)} (hp : K (.slc 0 0 n false) [.lst 1 L]) (e1 : n = n') (e2 : L = L') : K (.slc 0 0 n' false) [.lst 1 L'] := e1 ▸ e2 ▸ hp
theorem num_put {S : Nat} (v : Int) (hS : S = 1 ∨ S = 2 ∨ S = 4) : putY (List.replicate S 0) 0 v S = numB v S := by
  rcases hS with rfl | rfl | rfl <;> rfl

def hNumB : CH := fun args hl K => match args, hl with
  | [.v (.int .i64 v), .v (.int .i64 s)], [] => ∃ S : Nat, s = S ∧ (S = 1 ∨ S = 2 ∨ S = 4) ∧ 0 ≤ v ∧ v < 4294967296 ∧ K (.slc 0 0 S false) [.lst 1 ((numB v S).map byteC)]
  | _, _ => False
def cx_s_l4Num : Ctx := mkC [(145, callM [.rw] false hLPut)]
theorem cx_s_l4Num_ok : CtxOk Try.prog cx_s_l4Num := mkC_ok (mem1 ⟨s_l1Put, fnOk Try.func145 rfl rfl⟩ mem0)
set_option maxRecDepth 100000 in
set_option pp.maxSteps 1500 in
theorem s_l4Num : HSound Try.prog 138 (callM [] false hNumB) := by
  refine callM_sound cx_s_l4Num_ok mixed Try.func138 rfl fun args hl K hp => ?_
  unfold hNumB at hp
  split at hp
  · rename_i v s
    obtain ⟨S, rfl, hS, h0, h1, hp⟩ := hp
    refine Or.inl ?_
    refine Exists.intro S (And.intro rfl (And.intro rfl (And.intro (by simp only; omega) ?_)))
    refine And.intro (by intro e he x hx; rw [List.mem_replicate] at he; obtain ⟨_, rfl⟩ := he; simp at hx; subst hx; rfl) ?_
    refine Exists.intro (List.replicate S 0) (Exists.intro 0 (Exists.intro S (And.intro (by simp [byteC]) (And.intro (by simp) (And.intro rfl (And.intro rfl (And.intro (by omega) (And.intro (by simp) (And.intro (by simp; omega) (And.intro h0 (And.intro h1 ?_)))))))))))
    rw [num_put v hS]
    refine And.intro (closed_bytes _) ?_
    exact hp
  · exact hp.elim
def hText : CH := fun args hl K => match args, hl with
  | [.v (.string s)], [] => s.size ≤ 1048576 ∧ K (.slc 0 0 (textB s).length false) [.lst 1 ((textB s).map byteC)]
  | _, _ => False
def cx_s_l4Text : Ctx := mkC [(138, callM [] false hNumB)]
theorem cx_s_l4Text_ok : CtxOk Try.prog cx_s_l4Text := mkC_ok (mem1 ⟨s_l4Num, fnOk Try.func138 rfl rfl⟩ mem0)
set_option maxRecDepth 100000 in
set_option pp.maxSteps 1500 in
theorem s_l4Text : HSound Try.prog 136 (callM [] false hText) := by
  refine callM_sound cx_s_l4Text_ok mixed Try.func136 rfl fun args hl K hp => ?_
  unfold hText at hp
  split at hp
  · rename_i s
    obtain ⟨hs, hp⟩ := hp
    refine Or.inl ?_
    refine Exists.intro 1 (And.intro rfl (And.intro (Or.inl rfl) (And.intro (by omega) (And.intro (by omega) ?_))))
    refine And.intro (by rw [strB_eq]; exact bytes_notSl _) ?_
    refine And.intro (by rw [lenB, num_len]) ?_
    have e1 : ((numB s.size 1).map byteC).length = 1 := by rw [lenB, num_len]
    have e2 : (strB s).length = s.size := by rw [strB_eq, lenB, strL_len]
    refine And.intro (by rw [e1, e2]; simp only; omega) (And.intro (by rw [e1, e2]; omega) ?_)
    refine And.intro (closed_app (closed_bytes _) (by rw [strB_eq]; exact closed_bytes _)) ?_
    refine fin_l hp ?_ ?_
    · rw [e1, e2, text_len]; omega
    · rw [strB_eq, textB, List.map_append]
  · exact hp.elim
def hList : CH := fun args hl K => match args, hl with
  | [.imm _ _ 1 L], [] => ∃ ws : List Int, L = ws.map intC ∧ wordsB ws = true ∧ ws.length ≤ 1048576 ∧ K (.slc 0 0 (listB ws).length false) [.lst 1 ((listB ws).map byteC)]
  | _, _ => False
def cx_s_l4List : Ctx := mkC [(138, callM [] false hNumB)]
theorem cx_s_l4List_ok : CtxOk Try.prog cx_s_l4List := mkC_ok (mem1 ⟨s_l4Num, fnOk Try.func138 rfl rfl⟩ mem0)
set_option maxRecDepth 100000 in
set_option pp.maxSteps 1500 in
theorem s_l4List : HSound Try.prog 137 (callM [] true hList) := by
  refine callM_sound cx_s_l4List_ok mixed Try.func137 rfl fun args hl K hp => ?_
  unfold hList at hp
  split at hp
  · rename_i t z L
    obtain ⟨ws, rfl, hws, hb, hp⟩ := hp
    refine Or.inl ?_
    refine Exists.intro 2 (And.intro rfl (And.intro (Or.inr (Or.inl rfl)) (And.intro (by omega) (And.intro (by rw [List.length_map]; omega) ?_))))
    refine Exists.intro true (Exists.intro [0, 3, 4] (Exists.intro (fun m vs h => ∃ i : Nat, i ≤ ws.length ∧ m = ws.length - i ∧ vs = [.imm t z 1 (ws.map intC), .slc 0 0 (numB ws.length 2 ++ (ws.take i).flatMap fun v => numB v 4).length false, .v (.int .i64 i)] ∧ h = [.lst 1 ((numB ws.length 2 ++ (ws.take i).flatMap fun v => numB v 4).map byteC)]) (And.intro ?_ ?_)))
    · refine Exists.intro [] ?_
      refine And.intro (closed_bytes _) ?_
      refine Exists.intro ws.length ?_
      refine ⟨0, by omega, rfl, ?_, ?_⟩
      · simp [num_len]
      · simp
    · intro m vs h hI
      obtain ⟨i, hi, rfl, rfl, rfl⟩ := hI
      refine And.intro (fun h1 => ?_) (fun h1 => ?_)
      · simp only [decide_eq_true_eq, List.length_map] at h1
        have hlt : i < ws.length := by omega
        obtain ⟨v, hvi⟩ : ∃ v, ws[i]? = some v := ⟨_, List.getElem?_eq_getElem hlt⟩
        have hv := List.all_eq_true.1 hws v (List.mem_of_getElem? hvi)
        simp only [isW, decide_eq_true_eq] at hv
        have hst := flat_step (f := fun v => numB v 4) hvi
        have hln := flatTk (f := fun v => numB v 4) (c := 4) (l := ws) (fun x _ => by rw [num_len]; exact Nat.le_refl _) i
        have e1 : (numB ws.length 2 ++ (ws.take i).flatMap fun v => numB v 4).length ≤ 1048576 * 4 + 2 := by rw [List.length_append, num_len]; omega
        have e3 : (numB ws.length 2 ++ (ws.take (i + 1)).flatMap fun v => numB v 4) = (numB ws.length 2 ++ (ws.take i).flatMap fun v => numB v 4) ++ numB v 4 := by rw [hst, List.append_assoc]
        generalize (numB ws.length 2 ++ (ws.take i).flatMap fun v => numB v 4) = X at *
        refine Exists.intro i (And.intro rfl (Exists.intro (intC v) (And.intro (get_map hvi) ?_)))
        refine Exists.intro 4 (And.intro rfl (And.intro (Or.inr (Or.inr rfl)) (And.intro (by omega) (And.intro (by omega) ?_))))
        refine Exists.intro _ (And.intro (lendD byteC (numB v 4)) (And.intro (by rw [lenB, num_len]) (And.intro (bytes_notSl _) ?_)))
        refine And.intro (lenB _) ?_
        have e2 : ((numB v 4).map byteC).length = 4 := by rw [lenB, num_len]
        refine And.intro (by rw [e2, lenB]; simp only; omega) (And.intro (by rw [e2, lenB]; omega) ?_)
        refine Exists.intro [] ?_
        refine And.intro (closed_app (closed_bytes _) (closed_bytes _)) ?_
        refine Exists.intro (ws.length - (i + 1)) (And.intro (by omega) ⟨i + 1, by omega, rfl, ?_, ?_⟩)
        · rw [wrap_succ hlt (by omega), e3, List.length_append, lenB, lenB]
        · rw [e3, List.map_append]
      · simp only [decide_eq_false_iff_not, List.length_map] at h1
        have : i = ws.length := by omega
        subst this
        rw [List.take_length]
        refine And.intro (closed_bytes _) ?_
        exact hp
  · exact hp.elim

/-! ### What a sound module is -/

structure GoodM (m : Mo) : Prop where
  name : m.name.size ≤ 12
  tl : m.text.length ≤ 200
  tw : wordsB m.text = true
  bl : m.banks.length ≤ 4
  bk : ∀ b ∈ m.banks, b.length ≤ 64 ∧ wordsB b = true
  dl : m.data.length ≤ 512
  bss : 0 ≤ m.bss ∧ m.bss ≤ 512
  rl : m.rels.length ≤ 16
  rv : ∀ r ∈ m.rels, 0 ≤ r ∧ r ≤ 512
  il : m.imps.length ≤ 16
  iv : ∀ s ∈ m.imps, s.size ≤ 25
  el : m.exps.length ≤ 16
  ev : ∀ e ∈ m.exps, e.n.size ≤ 12 ∧ -1 ≤ e.bank ∧ e.bank ≤ 4 ∧ 0 ≤ e.pos ∧ e.pos ≤ 200
theorem name_sz {s : ByteArray} (h : nameOk s = true) : 1 ≤ s.size ∧ s.size ≤ 12 := by
  simp only [nameOk, Bool.and_eq_true, decide_eq_true_eq] at h
  exact h.2
theorem full_sz {s : ByteArray} (h : fullOk s = true) : s.size ≤ 25 := by
  simp only [fullOk, Bool.and_eq_true, decide_eq_true_eq] at h
  obtain ⟨⟨h1, h2⟩, h3⟩ := h
  obtain ⟨p, hp⟩ := Int.eq_ofNat_of_zero_le h1
  have hlt := (dotI_lt hp).1
  have e0 : (dotI s).toNat = p := by omega
  have a1 := name_sz h2
  have a2 := name_sz h3
  rw [e0, ByteArray.size_extract] at a1 a2
  omega
theorem modOk_parts {m : Mo} (h : modOk m = 0) : nameOk m.name = true ∧ codeB m = true ∧ restB m = true ∧ relsB m.data.length m.rels = true ∧ impsB m = true ∧ expsB m = true := by
  unfold modOk at h
  repeat' split at h
  all_goals first | (exfalso; omega) | skip
  simp_all
theorem good_of {m : Mo} (h : modOk m = 0) : GoodM m := by
  obtain ⟨h1, h2, h3, h4, h5, h6⟩ := modOk_parts h
  simp only [codeB, Bool.and_eq_true, decide_eq_true_eq, List.all_eq_true] at h2
  simp only [restB, Bool.and_eq_true, decide_eq_true_eq] at h3
  simp only [relsB, Bool.and_eq_true, decide_eq_true_eq, List.all_eq_true, List.mem_range] at h4
  simp only [impsB, Bool.and_eq_true, decide_eq_true_eq, List.all_eq_true] at h5
  simp only [expsB, Bool.and_eq_true, decide_eq_true_eq, List.all_eq_true, List.mem_range] at h6
  obtain ⟨⟨⟨c1, c2⟩, c3⟩, c4⟩ := h2
  refine ⟨(name_sz h1).2, c1, c3, c2, fun b hb => ⟨(c4 b hb).1.2, (c4 b hb).2⟩, h3.1.1, ⟨h3.1.2, h3.2⟩, h4.1, fun r hr => ?_, h5.1, fun s hs => full_sz (h5.2 s hs), h6.1, fun e he => ?_⟩
  · obtain ⟨i, hi, rfl⟩ := List.mem_iff_getElem.1 hr
    have := h4.2 i hi
    rw [relB_val (List.getElem?_eq_getElem hi), decide_eq_true_eq] at this
    omega
  · obtain ⟨i, hi, rfl⟩ := List.mem_iff_getElem.1 he
    have := h6.2 i hi
    rw [expB_val (List.getElem?_eq_getElem hi), Bool.and_eq_true] at this
    have hg := this.1
    simp only [goodE, Bool.and_eq_true] at hg
    obtain ⟨g1, g2⟩ := hg
    have g3 := name_sz g1
    generalize m.exps[i] = e at *
    unfold pieceOf at g2
    split at g2
    · rename_i ws hpc
      rw [decide_eq_true_eq] at g2
      split at hpc
      · cases hpc
        omega
      · split at hpc
        · have hb := (c4 ws (List.mem_of_getElem? hpc)).1.2
          omega
        · cases hpc
    · cases g2
end Go.Proofs.Ytijjonafmmhhbaa.Ab
