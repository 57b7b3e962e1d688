/- Functions walked, part 6. No condition. -/
import Derived.Test.YtbfjkjdbdejnmaaGreatWalk1
import Derived.Test.YtbfjkjdbdejnmaaGreatWalk5
import Derived.Test.YtbfjkjdbdejnmaaGreatWalk2
import Derived.Test.YtbfjkjdbdejnmaaGreatWalk3
set_option linter.unusedVariables false
set_option linter.unusedSimpArgs false
/- Write: both programs answer alike. No condition. -/
namespace Go.Proofs.YtbfjkjdbdejnmaaGreat.Ab

def cx_s_Clone : Ctx := mkC []
theorem cx_s_Clone_ok : CtxOk Tryz.prog cx_s_Clone := cx0_ok
set_option maxRecDepth 100000 in
set_option pp.maxSteps 1500 in
theorem s_Clone : HSound Tryz.prog 163 (callM [] true hToB) := by
  refine callM_sound cx_s_Clone_ok mixed Tryz.func163 rfl fun args hl K hp => ?_
  unfold hToB at hp
  split at hp
  · rename_i t z l
    obtain ⟨bs, rfl, hb, hp⟩ := hp
    refine Or.inl ?_
    refine And.intro (fun h0 => ?_) ?_
    · refine And.intro (fun _ => ?_) (fun h1 => by cases h1)
      refine Or.inr ?_
      have : bs = [] := by simpa using h0
      subst this
      refine And.intro closed_nil ?_
      exact hp
    · refine And.intro (fun h1 => by cases h1) (fun _ => ?_)
      repeat' (first
        | refine And.intro (closed_bytes bs) ?_
        | refine And.intro (bytes_notSl bs) ?_
        | refine And.intro rfl ?_
        | refine And.intro (by simp; omega) ?_)
      have e : ([] : List (List AV)).length + (bs.map byteC).length = bs.length := by simp
      rw [← e] at hp
      exact hp
  · exact hp.elim
def cx_s_clone : Ctx := mkC [(163, callM [] true hToB)]
theorem cx_s_clone_ok : CtxOk Tryz.prog cx_s_clone := mkC_ok (mem1 ⟨s_Clone, fnOk Tryz.func163 rfl rfl⟩ mem0)
set_option maxRecDepth 100000 in
set_option pp.maxSteps 1500 in
theorem s_clone : HSound Tryz.prog 129 (callM [] true hToM) := by
  refine callM_sound cx_s_clone_ok mixed Tryz.func129 rfl fun args hl K hp => ?_
  unfold hToM at hp
  split at hp
  · rename_i _ _ _ _ _ _ _ _ _
    obtain ⟨a, b, c, rfl, rfl, rfl, ha, hb, hc, hp⟩ := hp
    repeat' (first
      | (refine Exists.intro a ?_; refine And.intro rfl ?_; refine And.intro ha ?_; exact And.intro rfl rfl)
      | (refine Exists.intro b ?_; refine And.intro rfl ?_; refine And.intro hb ?_; exact And.intro rfl rfl)
      | (refine Exists.intro c ?_; refine And.intro rfl ?_; refine And.intro hc ?_; exact And.intro rfl rfl)
      | refine And.intro (show wfB _ = true from by kernel_rfl) ?_ | refine And.intro (And.intro rfl rfl) ?_ | exact And.intro rfl rfl | apply HeldC.intro | exact AV.top | (apply HeldF.intro; refine Exists.intro _ (And.intro (by assumption) ?_); refine And.intro (by decide) ?_; exact And.intro rfl rfl) | (refine And.intro (by (refine Exists.intro _ (And.intro (by assumption) ?_); refine And.intro (by decide) ?_; exact And.intro rfl rfl)) ?_) | refine Or.inl ?_)
    refine And.intro (closed_bytes a) (And.intro (closed_bytes b) (And.intro (closed_bytes c) ?_))
    exact hp
  · exact hp.elim

def byteV (v : Int) (i : Nat) : Int := v / 256 ^ i % 256
def putY (r : List Int) (p : Nat) (v : Int) : Nat → List Int
  | 0 => r
  | i + 1 => (putY r p v i).set (p + i) (byteV v i)
theorem putY_len (r : List Int) (p : Nat) (v : Int) (n : Nat) : (putY r p v n).length = r.length := by
  induction n with
  | zero => rfl
  | succ n ih => simp [putY, ih]
def writeF (f r o : List Int) (a s v : Int) : List Int × List Int × Int :=
  if memOk f.length r.length o.length = false ∨ widthB s = false then (r, o, 2)
  else if a.tmod s ≠ 0 then (r, o, 1)
  else if a = 131072 then (if 5000 ≤ o.length then (r, o, 4) else (r, o ++ [byteV v 0], 0))
  else if insideB a s 0 f.length then (r, o, 3)
  else if insideB a s 65536 r.length = false then (r, o, 2)
  else (putY r (a - 65536).toNat v s.toNat, o, 0)
theorem u8_wrap (x : Int) : IntKind.u8.wrap x = x % 256 := by
  simp only [IntKind.wrap, IntKind.bits, IntKind.signed, Bool.false_and]
  simp
def hModW : CH := fun args hl K => match args, hl with
  | [.v (.int .i64 v)], [] => I64 v ∧ K (.v (.int .i64 (v % 4294967296))) []
  | _, _ => False
def cx_iMod : Ctx := mkC []
theorem cx_iMod_ok : CtxOk Tryz.prog cx_iMod := cx0_ok
def iMod : Handler := inlH cx_iMod Tryz.f109.ntmps Tryz.f109.results.toList (Tryz.f109.body.getD .skip)
theorem s_iMod : HSound Tryz.prog 109 iMod := inlF cx_iMod_ok mixed Tryz.func109 rfl
def cx_s_l1Word : Ctx := mkC [(109, iMod)]
theorem cx_s_l1Word_ok : CtxOk Tryz.prog cx_s_l1Word := mkC_ok (mem1 ⟨s_iMod, fnOk Tryz.func109 rfl rfl⟩ mem0)
set_option maxRecDepth 100000 in
set_option pp.maxSteps 1500 in
theorem s_l1Word : HSound Tryz.prog 51 (callM [] false hModW) := by
  refine callM_sound cx_s_l1Word_ok mixed Tryz.func51 rfl fun args hl K hp => ?_
  unfold hModW at hp
  split at hp
  · rename_i v
    obtain ⟨iv, hp⟩ := hp
    simp only [I64] at iv
    repeat' ((first | refine And.intro (fun h1 => ?_) (fun h1 => ?_) | refine And.intro (by decide) ?_ | refine And.intro (show wfB _ = true from by kernel_rfl) ?_ | refine And.intro (And.intro rfl rfl) ?_ | exact And.intro rfl rfl | apply HeldC.intro | exact AV.top | (apply HeldF.intro; refine Exists.intro _ (And.intro (by assumption) ?_); refine And.intro (by decide) ?_; exact And.intro rfl rfl) | (refine And.intro (by (refine Exists.intro _ (And.intro (by assumption) ?_); refine And.intro (by decide) ?_; exact And.intro rfl rfl)) ?_) | refine Or.inl ?_) <;> try cases h1)
    refine fin_i hp ?_
    have h1 : v.tmod 4294967296 = if 0 ≤ v then v % 4294967296 else -((-v) % 4294967296) := by
      split
      · exact Int.tmod_eq_emod_of_nonneg (by assumption)
      · have : v = -(-v) := by omega
        conv => lhs; rw [this, Int.neg_tmod, Int.tmod_eq_emod_of_nonneg (by omega)]
    have hb : -4294967296 < v.tmod 4294967296 ∧ v.tmod 4294967296 < 4294967296 := by rw [h1]; split <;> omega
    rw [wrap64 (by omega), Int.tmod_eq_emod_of_nonneg (by omega), h1]
    split <;> omega
  · exact hp.elim
def hLPut : CH := fun args hl K => match args, hl with
  | [.slc 0 0 n z, .v (.int .i64 p), .v (.int .i64 s), .v (.int .i64 v)], [.lst 1 L] => ∃ (bs : List Int) (P S : Nat), L = bs.map byteC ∧ n = bs.length ∧ p = P ∧ s = S ∧ S ≤ 4 ∧ P + S ≤ bs.length ∧ bs.length ≤ 1048576 ∧ 0 ≤ v ∧ v < 4294967296 ∧ K (.tup []) [.lst 1 ((putY bs P v S).map byteC)]
  | _, _ => False
def cx_s_l1Put : Ctx := mkC []
theorem cx_s_l1Put_ok : CtxOk Tryz.prog cx_s_l1Put := cx0_ok
set_option maxRecDepth 100000 in
set_option pp.maxSteps 1500 in
set_option maxHeartbeats 4000000 in
theorem s_l1Put : HSound Tryz.prog 50 (callM [.rw] false hLPut) := by
  refine callM_sound cx_s_l1Put_ok mixed Tryz.func50 rfl fun args hl K hp => ?_
  unfold hLPut at hp
  split at hp
  · rename_i n z p s v L
    obtain ⟨bs, P, S, rfl, rfl, rfl, rfl, hS, hPS, hlen, hv0, hv1, hp⟩ := hp
    refine Exists.intro false (Exists.intro [0, 1, 2, 3, 8] (Exists.intro (fun m vs h => ∃ i : Nat, i ≤ S ∧ m = S - i ∧ (∃ z, vs = [.slc 0 0 bs.length z, .v (.int .i64 P), .v (.int .i64 S), .v (.int .i64 (v / 256 ^ i)), .v (.int .i64 i)]) ∧ h = [.lst 1 ((putY bs P v i).map byteC)]) (And.intro ?_ ?_)))
    · refine Exists.intro S ?_
      exact ⟨0, by omega, rfl, ⟨z, by simp⟩, rfl⟩
    · intro m vs h hI
      obtain ⟨i, hi, rfl, ⟨z, rfl⟩, rfl⟩ := hI
      refine And.intro (fun h1 => ?_) (fun h1 => ?_)
      · simp only [decide_eq_true_eq] at h1
        have hlt : i < S := by omega
        have hq0 : 0 ≤ v / 256 ^ i := Int.ediv_nonneg hv0 (Int.le_of_lt (Int.pow_pos (by omega)))
        have hq1 : v / 256 ^ i ≤ v := Int.ediv_le_self _ hv0
        have hwp : IntKind.i64.wrap ((P : Int) + i) = ((P + i : Nat) : Int) := by rw [wrap64 (by omega)]; simp
        have hb : IntKind.u8.wrap ((v / 256 ^ i).tmod 256) = byteV v i := by
          rw [u8_wrap, Int.tmod_eq_emod_of_nonneg hq0, Int.emod_emod_of_dvd _ (Int.dvd_refl _)]; rfl
        have hd : IntKind.i64.wrap ((v / 256 ^ i).tdiv 256) = v / 256 ^ (i + 1) := by
          rw [Int.tdiv_eq_ediv_of_nonneg hq0, Int.ediv_ediv_of_nonneg (Int.le_of_lt (Int.pow_pos (by omega))), ← Int.pow_succ, wrap64]
          have h3 : 0 ≤ v / 256 ^ (i + 1) := Int.ediv_nonneg hv0 (Int.le_of_lt (Int.pow_pos (by omega)))
          have h4 : v / 256 ^ (i + 1) ≤ v := Int.ediv_le_self _ hv0
          exact ⟨Int.le_trans (by decide) h3, Int.le_trans h4 (by omega)⟩
        have hg : ((putY bs P v i).map byteC)[0 + (P + i)]? = some (byteC (putY bs P v i)[P + i]!) := by
          rw [Nat.zero_add, List.getElem?_map, List.getElem?_eq_getElem (by rw [putY_len]; omega)]
          simp [putY_len, show P + i < bs.length by omega]
        refine And.intro (by decide) ?_
        refine Exists.intro (P + i) (And.intro hwp (And.intro (by omega) ?_))
        refine Exists.intro _ (And.intro hg (And.intro (by decide) ?_))
        refine And.intro (by decide) ?_
        refine Exists.intro (S - (i + 1)) (And.intro (by omega) ⟨i + 1, by omega, rfl, ⟨z, ?_⟩, ?_⟩)
        · rw [hd, wrap_succ hlt (by omega)]
        · rw [hb]
          simp only [putY, List.map_set, Nat.zero_add]
          rfl
      · simp only [decide_eq_false_iff_not] at h1
        have : i = S := by omega
        subst this
        refine And.intro (closed_bytes _) ?_
        exact hp
  · exact hp.elim

theorem closed_bytesA (a b : List Int) : ClosedL (a.map byteC ++ b.map byteC) := by rw [← List.map_append]; exact closed_bytes _
def hWrite : CH := fun args hl K => match args, hl with
  | [.agg [.imm _ _ 1 x, .imm _ _ 1 y, .imm _ _ 1 z], .v (.int .i64 a), .v (.int .i64 s), .v (.int .i64 v)], [] => ∃ f r o : List Int, x = f.map byteC ∧ y = r.map byteC ∧ z = o.map byteC ∧ f.length ≤ 1048576 ∧ r.length ≤ 1048576 ∧ o.length ≤ 1048576 ∧ I64 a ∧ I64 v ∧
      K (.tup [.agg [.slc 0 0 f.length false, .slc 1 0 (writeF f r o a s v).1.length false, .slc 2 0 (writeF f r o a s v).2.1.length false], .v (.int .i64 (writeF f r o a s v).2.2)]) [.lst 1 (f.map byteC), .lst 1 ((writeF f r o a s v).1.map byteC), .lst 1 ((writeF f r o a s v).2.1.map byteC)]
  | _, _ => False
theorem byteV_mod (v : Int) (i : Nat) (hi : i < 4) : byteV (v % 4294967296) i = byteV v i := by
  simp only [byteV]
  have : i = 0 ∨ i = 1 ∨ i = 2 ∨ i = 3 := by omega
  rcases this with rfl | rfl | rfl | rfl <;> simp only [Int.reducePow] <;> omega
theorem putY_mod (r : List Int) (p : Nat) (v : Int) : ∀ n, n ≤ 4 → putY r p (v % 4294967296) n = putY r p v n
  | 0, _ => rfl
  | n + 1, h => by simp only [putY]; rw [putY_mod r p v n (by omega), byteV_mod v n (by omega)]
def AllB (L : List (List AV)) : Prop := ∀ e ∈ L, ∃ b, e = byteC b
theorem allB_map (r : List Int) : AllB (r.map byteC) := fun e he => by
  obtain ⟨b, _, rfl⟩ := List.mem_map.1 he
  exact ⟨b, rfl⟩
theorem allB_set {L : List (List AV)} (h : AllB L) (i : Nat) (x : Int) : AllB (L.set i (byteC x)) := fun e he => by
  rcases List.mem_or_eq_of_mem_set he with h1 | rfl
  · exact h e h1
  · exact ⟨x, rfl⟩
theorem allB_get {L : List (List AV)} (h : AllB L) (i : Nat) (hi : i < L.length) : ∃ b, L[i]? = some (byteC b) := by
  obtain ⟨b, hb⟩ := h L[i] (List.getElem_mem hi)
  exact ⟨b, by rw [List.getElem?_eq_getElem hi, hb]⟩
def shB (v j : Int) : Int := IntKind.u8.wrap (v.fdiv (2 ^ min j.toNat IntKind.i64.bits))
theorem shB_eq (v : Int) : IntKind.u8.wrap v = byteV v 0 ∧ shB v 8 = byteV v 1 ∧ shB v 16 = byteV v 2 ∧ shB v 24 = byteV v 3 := by
  refine ⟨?_, ?_, ?_, ?_⟩
  · rw [u8_wrap]; simp only [byteV, Int.reducePow]; omega
  all_goals
    unfold shB
    rw [u8_wrap, Int.fdiv_eq_ediv_of_nonneg _ (Int.le_of_lt (Int.pow_pos (by omega)))]
    rfl
theorem put_ord (r : List Int) (p : Nat) (v : Int) : (((r.set (p + 3) (byteV v 3)).set (p + 2) (byteV v 2)).set (p + 1) (byteV v 1)).set p (byteV v 0) = putY r p v 4 := by
  apply List.ext_getElem?
  intro j
  simp only [putY, List.getElem?_set, List.length_set, Nat.add_zero]
  by_cases h0 : p = j
  · subst h0
    simp
  · by_cases h1 : p + 1 = j
    · subst h1
      simp
    · by_cases h2 : p + 2 = j
      · subst h2
        simp
      · by_cases h3 : p + 3 = j
        · subst h3
          simp
        · simp [h0, h1, h2, h3]
theorem put_ord2 (r : List Int) (p : Nat) (v : Int) : (r.set (p + 1) (byteV v 1)).set p (byteV v 0) = putY r p v 2 := by
  apply List.ext_getElem?
  intro j
  simp only [putY, List.getElem?_set, List.length_set, Nat.add_zero]
  by_cases h0 : p = j
  · subst h0
    simp
  · by_cases h1 : p + 1 = j
    · subst h1
      simp
    · simp [h0, h1]
def cx_iPut : Ctx := mkC []
theorem cx_iPut_ok : CtxOk Tryz.prog cx_iPut := cx0_ok
def iPut : Handler := inlH cx_iPut Tryz.f111.ntmps Tryz.f111.results.toList (Tryz.f111.body.getD .skip)
theorem s_iPut : HSound Tryz.prog 111 iPut := inlF cx_iPut_ok mixed Tryz.func111 rfl
def cx_iWr : Ctx := mkC [(243, callM [] true hInside), (242, iAt), (111, iPut)]
theorem cx_iWr_ok : CtxOk Tryz.prog cx_iWr := mkC_ok (mem1 ⟨s_within, fnOk Tryz.func243 rfl rfl⟩ (mem1 ⟨s_bytesAt, fnOk Tryz.func242 rfl rfl⟩ (mem1 ⟨s_iPut, fnOk Tryz.func111 rfl rfl⟩ mem0)))
def iWr : Handler := inlH cx_iWr Tryz.f234.ntmps Tryz.f234.results.toList (Tryz.f234.body.getD .skip)
theorem s_iWr : HSound Tryz.prog 234 iWr := inlF cx_iWr_ok mixed Tryz.func234 rfl
theorem writeF_len (f r o : List Int) (a s v : Int) : (writeF f r o a s v).1.length = r.length ∧ (writeF f r o a s v).2.1.length ≤ max o.length 5000 := by
  unfold writeF
  repeat' split
  all_goals simp [putY_len]
  all_goals omega
theorem writeF_fault {f r o : List Int} {a s v : Int} (h : (writeF f r o a s v).2.2 ≠ 0) : (writeF f r o a s v).1 = r ∧ (writeF f r o a s v).2.1 = o := by
  revert h
  unfold writeF
  repeat' split
  all_goals simp
theorem writeF_done {f r o : List Int} {a s v : Int} (h : (writeF f r o a s v).2.2 = 0) (ha : a ≠ 131072) : memOk f.length r.length o.length = true ∧ (s = 1 ∨ s = 2 ∨ s = 4) ∧ a.tmod s = 0 ∧ insideB a s 0 f.length = false ∧ insideB a s 65536 r.length = true ∧
    (writeF f r o a s v) = (putY r (a - 65536).toNat v s.toNat, o, 0) := by
  revert h
  unfold writeF
  by_cases h0 : memOk f.length r.length o.length = false ∨ widthB s = false
  · simp [h0]
  · have h1 : memOk f.length r.length o.length = true := by
      cases h : memOk f.length r.length o.length
      · exact absurd (.inl h) h0
      · rfl
    have h2 : widthB s = true := by
      cases h : widthB s
      · exact absurd (.inr h) h0
      · rfl
    simp only [h1, h2, if_neg h0, if_neg ha]
    by_cases h3 : a.tmod s ≠ 0
    · simp [h3]
    · by_cases h4 : insideB a s 0 f.length = true
      · simp [h3, h4]
      · by_cases h5 : insideB a s 65536 r.length = false
        · simp [h3, h4, h5]
        · intro _
          have h3 : a.tmod s = 0 := by simpa using h3
          have h4 : insideB a s 0 f.length = false := by simpa using h4
          have h5 : insideB a s 65536 r.length = true := by simpa using h5
          simp only [widthB, decide_eq_true_eq] at h2
          simp [h2, h3, h4, h5]
end Go.Proofs.YtbfjkjdbdejnmaaGreat.Ab

/- EncodeModule: the bytes of a module; spec's walk. No condition. -/
namespace Go.Proofs.YtbfjkjdbdejnmaaGreat.Ab
set_option linter.unusedVariables false
set_option linter.unusedSimpArgs false

def numB (v : Int) (S : Nat) : List Int := (List.range S).map (byteV v)
def strL (s : ByteArray) : List Int := s.data.toList.map fun b => (b.toNat : Int)
def textB (s : ByteArray) : List Int := numB s.size 1 ++ strL s
def listB (ws : List Int) : List Int := numB ws.length 2 ++ ws.flatMap fun v => numB v 4
def exB (e : Ex) : List Int := textB e.n ++ numB (e.bank + 1) 1 ++ numB e.pos 2
def enc1 (m : Mo) : List Int := [88, 77] ++ textB m.name ++ listB m.text ++ numB m.banks.length 1
def enc5 (m : Mo) : List Int := numB m.imps.length 1 ++ (m.imps.flatMap textB ++ (numB m.exps.length 1 ++ m.exps.flatMap exB))
def enc4 (m : Mo) : List Int := m.rels.flatMap (fun v => numB v 2) ++ enc5 m
def enc3 (m : Mo) : List Int := (numB m.bss 2 ++ numB m.rels.length 1) ++ enc4 m
def enc2 (m : Mo) : List Int := (numB m.data.length 2 ++ m.data) ++ enc3 m
def encM (m : Mo) : List Int := enc1 m ++ (m.banks.flatMap listB ++ enc2 m)
def encodeF (m : Mo) : List Int := if modOk m = 0 then encM m else []

theorem strB_eq (s : ByteArray) : strB s = (strL s).map byteC := by simp [strB, strL]
theorem strL_len (s : ByteArray) : (strL s).length = s.size := by simp [strL]
theorem num_len (v : Int) (S : Nat) : (numB v S).length = S := by simp [numB]
theorem text_len (s : ByteArray) : (textB s).length = s.size + 1 := by simp [textB, num_len, strL_len, Nat.add_comm]
theorem flat_len {α : Type} {f : α → List Int} {c : Nat} : ∀ {l : List α}, (∀ x ∈ l, (f x).length ≤ c) → (l.flatMap f).length ≤ l.length * c
  | [], _ => by simp
  | a :: l, h => by
    have h1 := h a List.mem_cons_self
    have h2 := flat_len (l := l) fun x hx => h x (List.mem_cons_of_mem _ hx)
    rw [List.flatMap_cons, List.length_append, List.length_cons, Nat.succ_mul]
    omega
theorem flatTk {α : Type} {f : α → List Int} {c : Nat} {l : List α} (h : ∀ x ∈ l, (f x).length ≤ c) (i : Nat) : ((l.take i).flatMap f).length ≤ l.length * c := by
  have h1 := flat_len (l := l.take i) fun x hx => h x (List.mem_of_mem_take hx)
  have h2 : (l.take i).length ≤ l.length := by rw [List.length_take]; omega
  exact Nat.le_trans h1 (Nat.mul_le_mul_right _ h2)
theorem flat_step {α : Type} {f : α → List Int} {l : List α} {i : Nat} {a : α} (h : l[i]? = some a) : (l.take (i + 1)).flatMap f = (l.take i).flatMap f ++ f a := by
  rw [List.take_add_one, h]
  simp
theorem list_len (ws : List Int) : (listB ws).length = ws.length * 4 + 2 := by
  unfold listB
  rw [List.length_append, num_len]
  have : ∀ l : List Int, (l.flatMap fun v => numB v 4).length = l.length * 4 := by
    intro l
    induction l with
    | nil => rfl
    | cons a l ih => rw [List.flatMap_cons, List.length_append, num_len, ih, List.length_cons]; omega
  rw [this]
  omega
theorem ex_len (e : Ex) : (exB e).length = e.n.size + 4 := by simp [exB, text_len, num_len]
theorem fin_l {K : AV → HP → Prop} {n n' : Nat} {L L' : List (List AV)} (hp : K (.slc 0 0 n false) [.lst 1 L]) (e1 : n = n') (e2 : L = L') : K (.slc 0 0 n' false) [.lst 1 L'] := e1 ▸ e2 ▸ hp
theorem num_put {S : Nat} (v : Int) (hS : S = 1 ∨ S = 2 ∨ S = 4) : putY (List.replicate S 0) 0 v S = numB v S := by
  rcases hS with rfl | rfl | rfl <;> rfl

def hNumB : CH := fun args hl K => match args, hl with
  | [.v (.int .i64 v), .v (.int .i64 s)], [] => ∃ S : Nat, s = S ∧ (S = 1 ∨ S = 2 ∨ S = 4) ∧ 0 ≤ v ∧ v < 4294967296 ∧ K (.slc 0 0 S false) [.lst 1 ((numB v S).map byteC)]
  | _, _ => False
def hText : CH := fun args hl K => match args, hl with
  | [.v (.string s)], [] => s.size ≤ 1048576 ∧ K (.slc 0 0 (textB s).length false) [.lst 1 ((textB s).map byteC)]
  | _, _ => False
def hList : CH := fun args hl K => match args, hl with
  | [.imm _ _ 1 L], [] => ∃ ws : List Int, L = ws.map intC ∧ wordsB ws = true ∧ ws.length ≤ 1048576 ∧ K (.slc 0 0 (listB ws).length false) [.lst 1 ((listB ws).map byteC)]
  | _, _ => False
/-! ### What a sound module is -/

structure GoodM (m : Mo) : Prop where
  name : m.name.size ≤ 12
  tl : m.text.length ≤ 200
  tw : wordsB m.text = true
  bl : m.banks.length ≤ 4
  bk : ∀ b ∈ m.banks, b.length ≤ 64 ∧ wordsB b = true
  dl : m.data.length ≤ 512
  bss : 0 ≤ m.bss ∧ m.bss ≤ 512
  rl : m.rels.length ≤ 16
  rv : ∀ r ∈ m.rels, 0 ≤ r ∧ r ≤ 512
  il : m.imps.length ≤ 16
  iv : ∀ s ∈ m.imps, s.size ≤ 25
  el : m.exps.length ≤ 16
  ev : ∀ e ∈ m.exps, e.n.size ≤ 12 ∧ -1 ≤ e.bank ∧ e.bank ≤ 4 ∧ 0 ≤ e.pos ∧ e.pos ≤ 200
theorem name_sz {s : ByteArray} (h : nameOk s = true) : 1 ≤ s.size ∧ s.size ≤ 12 := by
  simp only [nameOk, Bool.and_eq_true, decide_eq_true_eq] at h
  exact h.2
theorem full_sz {s : ByteArray} (h : fullOk s = true) : s.size ≤ 25 := by
  simp only [fullOk, Bool.and_eq_true, decide_eq_true_eq] at h
  obtain ⟨⟨h1, h2⟩, h3⟩ := h
  obtain ⟨p, hp⟩ := Int.eq_ofNat_of_zero_le h1
  have hlt := (dotI_lt hp).1
  have e0 : (dotI s).toNat = p := by omega
  have a1 := name_sz h2
  have a2 := name_sz h3
  rw [e0, ByteArray.size_extract] at a1 a2
  omega
theorem modOk_parts {m : Mo} (h : modOk m = 0) : nameOk m.name = true ∧ codeB m = true ∧ restB m = true ∧ relsB m.data.length m.rels = true ∧ impsB m = true ∧ expsB m = true := by
  unfold modOk at h
  repeat' split at h
  all_goals first | (exfalso; omega) | skip
  simp_all
theorem good_of {m : Mo} (h : modOk m = 0) : GoodM m := by
  obtain ⟨h1, h2, h3, h4, h5, h6⟩ := modOk_parts h
  simp only [codeB, Bool.and_eq_true, decide_eq_true_eq, List.all_eq_true] at h2
  simp only [restB, Bool.and_eq_true, decide_eq_true_eq] at h3
  simp only [relsB, Bool.and_eq_true, decide_eq_true_eq, List.all_eq_true, List.mem_range] at h4
  simp only [impsB, Bool.and_eq_true, decide_eq_true_eq, List.all_eq_true] at h5
  simp only [expsB, Bool.and_eq_true, decide_eq_true_eq, List.all_eq_true, List.mem_range] at h6
  obtain ⟨⟨⟨c1, c2⟩, c3⟩, c4⟩ := h2
  refine ⟨(name_sz h1).2, c1, c3, c2, fun b hb => ⟨(c4 b hb).1.2, (c4 b hb).2⟩, h3.1.1, ⟨h3.1.2, h3.2⟩, h4.1, fun r hr => ?_, h5.1, fun s hs => full_sz (h5.2 s hs), h6.1, fun e he => ?_⟩
  · obtain ⟨i, hi, rfl⟩ := List.mem_iff_getElem.1 hr
    have := h4.2 i hi
    rw [relB_val (List.getElem?_eq_getElem hi), decide_eq_true_eq] at this
    omega
  · obtain ⟨i, hi, rfl⟩ := List.mem_iff_getElem.1 he
    have := h6.2 i hi
    rw [expB_val (List.getElem?_eq_getElem hi), Bool.and_eq_true] at this
    have hg := this.1
    simp only [goodE, Bool.and_eq_true] at hg
    obtain ⟨g1, g2⟩ := hg
    have g3 := name_sz g1
    generalize m.exps[i] = e at *
    unfold pieceOf at g2
    split at g2
    · rename_i ws hpc
      rw [decide_eq_true_eq] at g2
      split at hpc
      · cases hpc
        omega
      · split at hpc
        · have hb := (c4 ws (List.mem_of_getElem? hpc)).1.2
          omega
        · cases hpc
    · cases g2
end Go.Proofs.YtbfjkjdbdejnmaaGreat.Ab

/- Slices of whole numbers: marked and found again. No condition. -/
namespace Go.Proofs.YtbfjkjdbdejnmaaGreat.Ab
set_option linter.unusedVariables false
set_option linter.unusedSimpArgs false


/-! ### Int: marked and found again (printed by gen/mark1.py) -/

def marksInt (k : Int) (n : Nat) : List Int := (List.range n).map fun i : Nat =>  (k + (i : Int))
def hMarkInt : CH := fun args hl K => match args, hl with
  | [.slc 0 0 n _, .v (.int .i64 k)], [.lst 1 L] => ∃ bs : List Int, L = bs.map intC ∧ n = bs.length ∧ bs.length ≤ 1048576 ∧ 0 ≤ k ∧ k ≤ 1099511627776 ∧ K (.v (.int .i64 (k + n))) [.lst 1 ((marksInt k n).map intC)]
  | _, _ => False
theorem mark_stepInt (bs : List Int) (k : Int) (i : Nat) (h : i < bs.length) : ((marksInt k i ++ bs.drop i).map intC).set i (intC ( (k + (i : Int)))) = (marksInt k (i + 1) ++ bs.drop (i + 1)).map intC := by
  have hl : ((marksInt k i).map intC).length = i := by simp [marksInt]
  rw [List.map_append, List.set_append_right _ _ (by omega), hl, Nat.sub_self, List.drop_eq_getElem_cons h, List.map_cons, List.set_cons_zero]
  simp [marksInt, List.range_succ]
theorem closed_mInt (bs : List Int) : ClosedL (bs.map intC) := by
  intro e he x hx
  obtain ⟨b, _, rfl⟩ := List.mem_map.1 he
  simp [intC] at hx
  subst hx
  rfl
def cx_s_markIntS : Ctx := mkC []
theorem cx_s_markIntS_ok : CtxOk Tryz.prog cx_s_markIntS := cx0_ok
set_option maxRecDepth 100000 in
set_option pp.maxSteps 1500 in
set_option maxHeartbeats 4000000 in
theorem s_markIntS : HSound Tryz.prog 56 (callM [.rw] false hMarkInt) := by
  refine callM_sound cx_s_markIntS_ok mixed Tryz.func56 rfl fun args hl K hp => ?_
  unfold hMarkInt at hp
  split at hp
  · rename_i n z0 k _
    obtain ⟨bs, rfl, rfl, hb, hk0, hk1, hp⟩ := hp
    refine Exists.intro false (Exists.intro [0, 1, 5] (Exists.intro (fun m vs h => ∃ i : Nat, i ≤ bs.length ∧ m = bs.length - i ∧ (∃ z, vs = [.slc 0 0 bs.length z, .v (.int .i64 (k + i)), .v (.int .i64 i)]) ∧ h = [.lst 1 ((marksInt k i ++ bs.drop i).map intC)]) (And.intro ?_ ?_)))
    · refine Exists.intro bs.length ?_
      exact ⟨0, by omega, rfl, ⟨z0, by simp⟩, rfl⟩
    · intro m vs h hI
      obtain ⟨i, hi, rfl, ⟨z, rfl⟩, rfl⟩ := hI
      refine And.intro (fun h1 => ?_) (fun h1 => ?_)
      · simp only [decide_eq_true_eq] at h1
        have hlt : i < bs.length := by omega
        have hst := mark_stepInt bs k i hlt
        have hg : ((marksInt k i ++ bs.drop i).map intC)[0 + i]? = some (intC bs[i]) := by
          rw [Nat.zero_add, List.getElem?_map, List.getElem?_append_right (by simp [marksInt]), show i - (marksInt k i).length = 0 by simp [marksInt], List.getElem?_drop, Nat.add_zero, List.getElem?_eq_getElem hlt]
          rfl
        generalize (marksInt k i ++ bs.drop i).map intC = L at *
        generalize bs[i] = b0 at hg
        refine Exists.intro i (And.intro rfl (And.intro hlt ?_))
        refine Exists.intro _ (And.intro hg (And.intro (by decide) ?_))
        refine Exists.intro (bs.length - (i + 1)) (And.intro (by omega) ⟨i + 1, by omega, rfl, ⟨z, ?_⟩, ?_⟩)
        · rw [wrap_succ hlt (by omega), wrap64 (x := k + i + 1) (by omega), show k + (i : Int) + 1 = k + ((i + 1 : Nat) : Int) by omega]
        · rw [← hst, Nat.zero_add]
          rfl
      · simp only [decide_eq_false_iff_not] at h1
        have hil : i = bs.length := by omega
        subst hil
        rw [List.drop_length, List.append_nil]
        refine And.intro (closed_mInt _) ?_
        exact hp
  · exact hp.elim
theorem marks_lenInt (k : Int) (n : Nat) : ((marksInt k n).map intC).length = n := by simp [marksInt]
theorem marks_lendInt (k : Int) (n : Nat) : List.take n (List.drop 0 ((marksInt k n).map intC)) = (marksInt k n).map intC := by rw [List.drop_zero, List.take_of_length_le (by rw [marks_lenInt]; exact Nat.le_refl _)]

theorem marksInt_len (k : Int) (n : Nat) : (marksInt k n).length = n := by simp [marksInt]
end Go.Proofs.YtbfjkjdbdejnmaaGreat.Ab

/- Slices of whole numbers: found again. No condition. -/
namespace Go.Proofs.YtbfjkjdbdejnmaaGreat.Ab
set_option linter.unusedVariables false
set_option linter.unusedSimpArgs false

def hHeldInt : CH := fun args hl K => match args, hl with
  | [.imm _ _ 1 L, .v (.int .i64 k)], [] => ∃ n : Nat, L = (marksInt k n).map intC ∧ n ≤ 1048576 ∧ 0 ≤ k ∧ k ≤ 1099511627776 ∧ K (.v (.int .i64 (k + n))) []
  | _, _ => False
theorem marks_getInt {k : Int} {n i : Nat} (h : i < n) : ((marksInt k n).map intC)[i]? = some (intC ( (k + (i : Int)))) := by
  simp [marksInt, h]
end Go.Proofs.YtbfjkjdbdejnmaaGreat.Ab

/- Targets, lists of targets, places: laid, compared. No condition. -/
namespace Go.Proofs.YtbfjkjdbdejnmaaGreat.Ab
set_option linter.unusedVariables false
set_option linter.unusedSimpArgs false

structure Tg where
  mod : Int
  bank : Int
  pos : Int
def tgC (t : Tg) : List AV := [.v (.int .i64 t.mod), .v (.int .i64 t.bank), .v (.int .i64 t.pos)]
/-! ### Target: slices of plain structs (printed by gen/slice.py) -/

def zeroTarget : Tg := ⟨0, 0, 0⟩
theorem closed_Target (bs : List Tg) : ClosedL (bs.map tgC) := by
  intro e he x hx
  obtain ⟨b, _, rfl⟩ := List.mem_map.1 he
  simp [tgC] at hx
  rcases hx with rfl | rfl | rfl <;> rfl
def hConvTarget : CH := fun args hl K => match args, hl with
  | [.agg [.v a0, .v a1, .v a2]], [] => K (.agg [.v a0, .v a1, .v a2]) []
  | _, _ => False
def cx_s_toTarget : Ctx := mkC []
theorem cx_s_toTarget_ok : CtxOk Tryz.prog cx_s_toTarget := cx0_ok
set_option maxRecDepth 100000 in
set_option pp.maxSteps 1500 in
theorem s_toTarget : HSound Tryz.prog 23 (callM [] false hConvTarget) := by
  refine callM_sound cx_s_toTarget_ok mixed Tryz.func23 rfl fun args hl K hp => ?_
  unfold hConvTarget at hp
  split at hp
  · exact hp
  · exact hp.elim

def hToTarget : CH := fun args hl K => match args, hl with
  | [.imm _ _ 3 l], [] => ∃ bs : List Tg, l = bs.map tgC ∧ bs.length ≤ 1048576 ∧ K (.slc 0 0 bs.length false) [.lst 3 (bs.map tgC)]
  | _, _ => False
def cx_s_toTargetS : Ctx := mkC [(23, callM [] false hConvTarget)]
theorem cx_s_toTargetS_ok : CtxOk Tryz.prog cx_s_toTargetS := mkC_ok (mem1 ⟨s_toTarget, fnOk Tryz.func23 rfl rfl⟩ mem0)
set_option maxRecDepth 100000 in
set_option pp.maxSteps 1500 in
theorem s_toTargetS : HSound Tryz.prog 100 (callM [] true hToTarget) := by
  refine callM_sound cx_s_toTargetS_ok mixed Tryz.func100 rfl fun args hl K hp => ?_
  unfold hToTarget at hp
  split at hp
  · rename_i t z l
    obtain ⟨bs, rfl, hb, hp⟩ := hp
    refine Or.inl ?_
    refine Exists.intro bs.length (And.intro (by simp) (And.intro (by simp) (And.intro (by simp only; omega) ?_)))
    refine Exists.intro false (Exists.intro [0, 3, 4] (Exists.intro (fun m vs h => ∃ i : Nat, i ≤ bs.length ∧ m = bs.length - i ∧ vs = [.imm t z 3 (bs.map tgC), .slc 0 0 bs.length true, .v (.int .i64 i)] ∧ h = [.lst 3 ((bs.take i).map tgC ++ List.replicate (bs.length - i) (tgC zeroTarget))]) (And.intro ?_ ?_)))
    · refine Exists.intro bs.length ?_
      exact ⟨0, by omega, rfl, rfl, rfl⟩
    · intro m vs h hI
      obtain ⟨i, hi, rfl, rfl, rfl⟩ := hI
      refine And.intro (fun h1 => ?_) (fun h1 => ?_)
      · simp only [decide_eq_true_eq, List.length_map] at h1
        have hlt : i < bs.length := by omega
        obtain ⟨b, hbi⟩ : ∃ b, bs[i]? = some b := ⟨_, List.getElem?_eq_getElem hlt⟩
        refine Exists.intro i (And.intro rfl (Exists.intro (tgC b) (And.intro (by simp [hbi]) ?_)))
        refine Exists.intro i (And.intro rfl (And.intro hlt ?_))
        refine Exists.intro (tgC zeroTarget) (And.intro (by rw [Nat.zero_add, List.getElem?_append_right (by simp; omega), List.getElem?_replicate, if_pos (by simp; omega)]) (And.intro (by decide) ?_))
        refine Exists.intro (bs.length - (i + 1)) (And.intro (by omega) ?_)
        refine ⟨i + 1, by omega, rfl, ?_, ?_⟩
        · rw [← wrap_succ hlt (by omega)]
        · rw [← fill_step tgC (tgC zeroTarget) bs i b hbi, Nat.zero_add]
          rfl
      · simp only [decide_eq_false_iff_not, List.length_map] at h1
        have : i = bs.length := by omega
        subst this
        have e : (bs.take bs.length).map tgC ++ List.replicate (bs.length - bs.length) (tgC zeroTarget) = bs.map tgC := by simp
        rw [← e] at hp
        refine And.intro (e ▸ closed_Target bs) ?_
        exact hp
  · exact hp.elim

def cx_iEqTarget : Ctx := mkC []
theorem cx_iEqTarget_ok : CtxOk Tryz.prog cx_iEqTarget := cx0_ok
def iEqTarget : Handler := inlH cx_iEqTarget Tryz.f155.ntmps Tryz.f155.results.toList (Tryz.f155.body.getD .skip)
theorem s_iEqTarget : HSound Tryz.prog 155 iEqTarget := inlF cx_iEqTarget_ok mixed Tryz.func155 rfl
def hEqTarget : CH := fun args hl K => match args, hl with
  | [.imm _ _ 3 l, .imm _ _ 3 r], [] => ∃ bs : List Tg, l = bs.map tgC ∧ r = bs.map tgC ∧ bs.length ≤ 1048576 ∧ K (.v (.bool true)) []
  | _, _ => False
def cx_s_eqTargetS : Ctx := mkC [(155, iEqTarget)]
theorem cx_s_eqTargetS_ok : CtxOk Tryz.prog cx_s_eqTargetS := mkC_ok (mem1 ⟨s_iEqTarget, fnOk Tryz.func155 rfl rfl⟩ mem0)
set_option maxRecDepth 100000 in
set_option pp.maxSteps 1500 in
theorem s_eqTargetS : HSound Tryz.prog 108 (callM [] true hEqTarget) := by
  refine callM_sound cx_s_eqTargetS_ok mixed Tryz.func108 rfl fun args hl K hp => ?_
  unfold hEqTarget at hp
  split at hp
  · rename_i t z l t' z' r
    obtain ⟨bs, rfl, rfl, hb, hp⟩ := hp
    refine And.intro (fun h1 => ?_) (fun h1 => ?_)
    · simp at h1
    · clear h1
      refine Exists.intro true (Exists.intro [0, 1, 5] (Exists.intro (fun m vs h => ∃ i : Nat, i ≤ bs.length ∧ m = bs.length - i ∧ vs = [.imm t z 3 (bs.map tgC), .imm t' z' 3 (bs.map tgC), .v (.int .i64 i)] ∧ h = []) (And.intro ?_ ?_)))
      · refine Exists.intro [] (Exists.intro bs.length ?_)
        exact ⟨0, by omega, rfl, rfl, rfl⟩
      · intro m vs h hI
        obtain ⟨i, hi, rfl, rfl, rfl⟩ := hI
        refine And.intro (fun h1 => ?_) (fun h1 => ?_)
        · simp only [decide_eq_true_eq, List.length_map] at h1
          have hlt : i < bs.length := by omega
          obtain ⟨b, hbi⟩ : ∃ b, bs[i]? = some b := ⟨_, List.getElem?_eq_getElem hlt⟩
          refine Or.inl ?_
          refine And.intro (show wfB _ = true from by kernel_rfl) ?_
          refine Exists.intro i (And.intro rfl (Exists.intro (tgC b) (And.intro (get_map hbi) ?_)))
          refine Exists.intro i (And.intro rfl (Exists.intro (tgC b) (And.intro (get_map hbi) ?_)))
          apply HeldC.intro
          · repeat' (first | refine And.intro (fun h1 => absurd h1 (by simp; done)) (fun h1 => ?_) | exact And.intro rfl rfl)
          repeat' (first
            | refine And.intro (fun h1 => ?_) (fun h1 => ?_)
            | refine And.intro (Exists.intro i (And.intro rfl (Exists.intro (tgC b) (And.intro (get_map hbi) (And.intro rfl rfl))))) ?_
            | refine And.intro (And.intro rfl rfl) ?_)
          · cases h1
          · refine Exists.intro [] (Exists.intro (bs.length - (i + 1)) (And.intro (by omega) ?_))
            exact ⟨i + 1, by omega, rfl, by rw [wrap_succ hlt (by omega)], rfl⟩
        · exact hp
  · exact hp.elim
def cx_iSzTargetS : Ctx := mkC []
theorem cx_iSzTargetS_ok : CtxOk Tryz.prog cx_iSzTargetS := cx0_ok
def iSzTargetS : Handler := inlH cx_iSzTargetS Tryz.f87.ntmps Tryz.f87.results.toList (Tryz.f87.body.getD .skip)
theorem s_iSzTargetS : HSound Tryz.prog 87 iSzTargetS := inlF cx_iSzTargetS_ok mixed Tryz.func87 rfl

/-! ### Target: marked and found again -/

def mkTarget (k : Int) : Tg := ⟨k, k + 1, k + 1 + 1⟩
def marksTarget (k : Int) (n : Nat) : List Tg := (List.range n).map fun i : Nat => mkTarget (k + 3 * (i : Int))
def hMarkTarget : CH := fun args hl K => match args, hl with
  | [.slc 0 0 n _, .v (.int .i64 k)], [.lst 3 L] => ∃ bs : List Tg, L = bs.map tgC ∧ n = bs.length ∧ bs.length ≤ 1048576 ∧ 0 ≤ k ∧ k ≤ 1099511627776 ∧ K (.v (.int .i64 (k + 3 * n))) [.lst 3 ((marksTarget k n).map tgC)]
  | _, _ => False
theorem mark_stepTarget (bs : List Tg) (k : Int) (i : Nat) (h : i < bs.length) : ((marksTarget k i ++ bs.drop i).map tgC).set i (tgC (mkTarget (k + 3 * i))) = (marksTarget k (i + 1) ++ bs.drop (i + 1)).map tgC := by
  have hl : ((marksTarget k i).map tgC).length = i := by simp [marksTarget]
  rw [List.map_append, List.set_append_right _ _ (by omega), hl, Nat.sub_self, List.drop_eq_getElem_cons h, List.map_cons, List.set_cons_zero]
  simp [marksTarget, List.range_succ]
def cx_s_markTargetS : Ctx := mkC []
theorem cx_s_markTargetS_ok : CtxOk Tryz.prog cx_s_markTargetS := cx0_ok
set_option maxRecDepth 100000 in
set_option pp.maxSteps 1500 in
set_option maxHeartbeats 4000000 in
theorem s_markTargetS : HSound Tryz.prog 113 (callM [.rw] false hMarkTarget) := by
  refine callM_sound cx_s_markTargetS_ok mixed Tryz.func113 rfl fun args hl K hp => ?_
  unfold hMarkTarget at hp
  split at hp
  · rename_i n z0 k _
    obtain ⟨bs, rfl, rfl, hb, hk0, hk1, hp⟩ := hp
    refine Exists.intro false (Exists.intro [0, 1, 5] (Exists.intro (fun m vs h => ∃ i : Nat, i ≤ bs.length ∧ m = bs.length - i ∧ (∃ z, vs = [.slc 0 0 bs.length z, .v (.int .i64 (k + 3 * i)), .v (.int .i64 i)]) ∧ h = [.lst 3 ((marksTarget k i ++ bs.drop i).map tgC)]) (And.intro ?_ ?_)))
    · refine Exists.intro bs.length ?_
      exact ⟨0, by omega, rfl, ⟨z0, by simp⟩, rfl⟩
    · intro m vs h hI
      obtain ⟨i, hi, rfl, ⟨z, rfl⟩, rfl⟩ := hI
      refine And.intro (fun h1 => ?_) (fun h1 => ?_)
      · simp only [decide_eq_true_eq] at h1
        have hlt : i < bs.length := by omega
        have hst := mark_stepTarget bs k i hlt
        have hL : ((marksTarget k i ++ bs.drop i).map tgC).length = bs.length := by simp [marksTarget]; omega
        have hg : ((marksTarget k i ++ bs.drop i).map tgC)[0 + i]? = some (tgC bs[i]) := by
          rw [Nat.zero_add, List.getElem?_map, List.getElem?_append_right (by simp [marksTarget]), show i - (marksTarget k i).length = 0 by simp [marksTarget], List.getElem?_drop, Nat.add_zero, List.getElem?_eq_getElem hlt]
          rfl
        generalize (marksTarget k i ++ bs.drop i).map tgC = L at *
        generalize bs[i] = b0 at hg
        have hLi : 0 + i < L.length := by omega
        generalize hκ : k + 3 * (i : Int) = κ at *
        have hκ0 : 0 ≤ κ ∧ κ ≤ 1199511627776 := by omega
        have hw : ∀ x : Int, 0 ≤ x → x ≤ 1200000000000 → IntKind.i64.wrap (x + 1) = x + 1 := fun x _ _ => wrap64 (by omega)
        repeat' (first
          | refine Exists.intro i (And.intro rfl (And.intro hlt ?_))
          | refine Exists.intro _ (And.intro hg (And.intro (by decide) ?_))
          | refine Exists.intro _ (And.intro (get_set (by first | exact hLi | (simp only [List.length_set]; exact hLi))) (And.intro (by decide) ?_))
          | refine And.intro (by decide) ?_)
        refine Exists.intro (bs.length - (i + 1)) (And.intro (by omega) ⟨i + 1, by omega, rfl, ⟨z, ?_⟩, ?_⟩)
        · rw [wrap_succ hlt (by omega), show k + 3 * ((i + 1 : Nat) : Int) = κ + 3 by omega]
          have hw0 := hw (κ) (by omega) (by omega)
          have hw1 := hw (κ + 1) (by omega) (by omega)
          have hw2 := hw (κ + 1 + 1) (by omega) (by omega)
          try simp only [hw0, hw1, hw2]
          simp [Int.add_assoc]
        · rw [← hst]
          simp only [List.set_set, Nat.zero_add]
          have hw0 := hw (κ) (by omega) (by omega)
          have hw1 := hw (κ + 1) (by omega) (by omega)
          have hw2 := hw (κ + 1 + 1) (by omega) (by omega)
          try simp only [hw0, hw1, hw2]
          rfl
      · simp only [decide_eq_false_iff_not] at h1
        have hil : i = bs.length := by omega
        subst hil
        rw [List.drop_length, List.append_nil]
        refine And.intro (closed_Target _) ?_
        exact hp
  · exact hp.elim
def hHeldTarget : CH := fun args hl K => match args, hl with
  | [.imm _ _ 3 L, .v (.int .i64 k)], [] => ∃ n : Nat, L = (marksTarget k n).map tgC ∧ n ≤ 1048576 ∧ 0 ≤ k ∧ k ≤ 1099511627776 ∧ K (.v (.int .i64 (k + 3 * n))) []
  | _, _ => False
theorem marks_getTarget {k : Int} {n i : Nat} (h : i < n) : ((marksTarget k n).map tgC)[i]? = some (tgC (mkTarget (k + 3 * i))) := by
  simp [marksTarget, h]
theorem marks_lenTarget (k : Int) (n : Nat) : ((marksTarget k n).map tgC).length = n := by simp [marksTarget]
theorem marks_lendTarget (k : Int) (n : Nat) : List.take n (List.drop 0 ((marksTarget k n).map tgC)) = (marksTarget k n).map tgC := by rw [List.drop_zero, List.take_of_length_le (by rw [marks_lenTarget]; exact Nat.le_refl _)]

def tgsC (b : List Tg) : List AV := [.sl 3 (b.map tgC)]
def smTgs (b : List Tg) : Prop := b.length ≤ 1048576
/-! ### TargetS: slices whose elements own slices: laid, compared (printed by gen/lists.py) -/

theorem closed_TargetS (bs : List (List Tg)) : ClosedL (bs.map tgsC) := by
  intro e he x hx
  obtain ⟨b, _, rfl⟩ := List.mem_map.1 he
  simp [tgsC] at hx
  rcases hx with rfl <;> rfl
theorem closed_fillTargetS (bs : List (List Tg)) (i k : Nat) : ClosedL ((bs.take i).map tgsC ++ List.replicate k (tgsC [])) := by
  refine closed_app (closed_TargetS _) ?_
  have := closed_TargetS (List.replicate k [])
  simpa using this
def hToTargetS : CH := fun args hl K => match args, hl with
  | [.imm _ _ 1 l], [] => ∃ bs : List (List Tg), l = bs.map tgsC ∧ (∀ b ∈ bs, smTgs b) ∧ bs.length ≤ 1048576 ∧ K (.slc 0 0 bs.length false) [.lst 1 (bs.map tgsC)]
  | _, _ => False
def cx_s_toTargetSS : Ctx := mkC [(100, callM [] true hToTarget)]
theorem cx_s_toTargetSS_ok : CtxOk Tryz.prog cx_s_toTargetSS := mkC_ok (mem1 ⟨s_toTargetS, fnOk Tryz.func100 rfl rfl⟩ mem0)
set_option maxRecDepth 100000 in
set_option pp.maxSteps 1500 in
set_option maxHeartbeats 4000000 in
theorem s_toTargetSS : HSound Tryz.prog 42 (callM [] true hToTargetS) := by
  refine callM_sound cx_s_toTargetSS_ok mixed Tryz.func42 rfl fun args hl K hp => ?_
  unfold hToTargetS at hp
  split at hp
  · rename_i t z l
    obtain ⟨bs, rfl, hsm, hb, hp⟩ := hp
    refine Or.inl ?_
    refine Exists.intro bs.length (And.intro (by simp) (And.intro (by simp) (And.intro (by simp only; omega) ?_)))
    refine Exists.intro true (Exists.intro [0, 3, 4] (Exists.intro (fun m vs h => ∃ i : Nat, i ≤ bs.length ∧ m = bs.length - i ∧ vs = [.imm t z 1 (bs.map tgsC), .slc 0 0 bs.length false, .v (.int .i64 i)] ∧ h = [.lst 1 ((bs.take i).map tgsC ++ List.replicate (bs.length - i) (tgsC []))]) (And.intro ?_ ?_)))
    · refine Exists.intro [] ?_
      refine And.intro (closed_fillTargetS bs 0 bs.length) ?_
      refine Exists.intro bs.length ?_
      exact ⟨0, by omega, rfl, rfl, rfl⟩
    · intro m vs h hI
      obtain ⟨i, hi, rfl, rfl, rfl⟩ := hI
      refine And.intro (fun h1 => ?_) (fun h1 => ?_)
      · simp only [decide_eq_true_eq, List.length_map] at h1
        have hlt : i < bs.length := by omega
        obtain ⟨b, hbi⟩ : ∃ b, bs[i]? = some b := ⟨_, List.getElem?_eq_getElem hlt⟩
        have hbb := hsm b (List.mem_of_getElem? hbi)
        have hst := fill_step tgsC (tgsC []) bs i b hbi
        have hcl := closed_fillTargetS bs (i + 1) (bs.length - (i + 1))
        have hg : ((bs.take i).map tgsC ++ List.replicate (bs.length - i) (tgsC []))[0 + i]? = some (tgsC []) := by rw [Nat.zero_add, List.getElem?_append_right (by simp; omega), List.getElem?_replicate, if_pos (by simp; omega)]
        rw [← hst] at hcl
        generalize hL : (bs.take i).map tgsC ++ List.replicate (bs.length - i) (tgsC []) = L at *
        refine Exists.intro i (And.intro rfl (Exists.intro (tgsC b) (And.intro (get_map hbi) ?_)))
        refine Exists.intro b (And.intro rfl (And.intro hbb ?_))
        refine Exists.intro i (And.intro rfl (And.intro hlt ?_))
        repeat' (first | refine Exists.intro _ (And.intro (lendL _ _) (And.intro (List.length_map _) (And.intro (by first | exact closed_bytes _ | exact closed_Int _ | exact closed_String _ | exact closed_Export _ | exact closed_IntS _ | exact closed_Target _ | exact closed_TargetS _) ?_))))
        refine Exists.intro (tgsC []) (And.intro hg (And.intro (by decide) ?_))
        refine Exists.intro [] ?_
        refine And.intro (by rw [Nat.zero_add]; exact hcl) ?_
        refine Exists.intro (bs.length - (i + 1)) (And.intro (by omega) ?_)
        refine ⟨i + 1, by omega, rfl, ?_, ?_⟩
        · rw [← wrap_succ hlt (by omega)]
        · rw [← hst, Nat.zero_add]
          rfl
      · simp only [decide_eq_false_iff_not, List.length_map] at h1
        have : i = bs.length := by omega
        subst this
        have e : (bs.take bs.length).map tgsC ++ List.replicate (bs.length - bs.length) (tgsC []) = bs.map tgsC := by simp
        rw [← e] at hp
        refine And.intro (e ▸ closed_TargetS bs) ?_
        exact hp
  · exact hp.elim

def hEqTargetS : CH := fun args hl K => match args, hl with
  | [.imm _ _ 1 l, .imm _ _ 1 r], [] => ∃ bs : List (List Tg), l = bs.map tgsC ∧ r = bs.map tgsC ∧ (∀ b ∈ bs, smTgs b) ∧ bs.length ≤ 1048576 ∧ K (.v (.bool true)) []
  | _, _ => False
def cx_s_eqTargetSS : Ctx := mkC [(108, callM [] true hEqTarget)]
theorem cx_s_eqTargetSS_ok : CtxOk Tryz.prog cx_s_eqTargetSS := mkC_ok (mem1 ⟨s_eqTargetS, fnOk Tryz.func108 rfl rfl⟩ mem0)
set_option maxRecDepth 100000 in
set_option pp.maxSteps 1500 in
set_option maxHeartbeats 4000000 in
theorem s_eqTargetSS : HSound Tryz.prog 48 (callM [] true hEqTargetS) := by
  refine callM_sound cx_s_eqTargetSS_ok mixed Tryz.func48 rfl fun args hl K hp => ?_
  unfold hEqTargetS at hp
  split at hp
  · rename_i t z l t' z' r
    obtain ⟨bs, rfl, rfl, hsm, hb, hp⟩ := hp
    refine And.intro (fun h1 => ?_) (fun h1 => ?_)
    · simp at h1
    clear h1
    refine Exists.intro true (Exists.intro [0, 1, 5] (Exists.intro (fun m vs h => ∃ i : Nat, i ≤ bs.length ∧ m = bs.length - i ∧ vs = [.imm t z 1 (bs.map tgsC), .imm t' z' 1 (bs.map tgsC), .v (.int .i64 i)] ∧ h = []) (And.intro ?_ ?_)))
    · refine Exists.intro [] (Exists.intro bs.length ?_)
      exact ⟨0, by omega, rfl, rfl, rfl⟩
    · intro m vs h hI
      obtain ⟨i, hi, rfl, rfl, rfl⟩ := hI
      refine And.intro (fun h1 => ?_) (fun h1 => ?_)
      · simp only [decide_eq_true_eq, List.length_map] at h1
        have hlt : i < bs.length := by omega
        obtain ⟨b, hbi⟩ : ∃ b, bs[i]? = some b := ⟨_, List.getElem?_eq_getElem hlt⟩
        have hbb := hsm b (List.mem_of_getElem? hbi)
        refine Or.inl ?_
        refine And.intro (show wfB _ = true from by kernel_rfl) ?_
        refine Exists.intro i (And.intro rfl (Exists.intro (tgsC b) (And.intro (get_map hbi) ?_)))
        refine Exists.intro i (And.intro rfl (Exists.intro (tgsC b) (And.intro (get_map hbi) ?_)))
        apply HeldC.intro
        · refine Exists.intro b ?_; refine And.intro rfl ?_; refine And.intro rfl ?_; refine And.intro hbb ?_
          exact And.intro rfl rfl
        repeat' (first
          | refine And.intro (fun h1 => ?_) (fun h1 => ?_)
          | refine And.intro (Exists.intro i (And.intro rfl (Exists.intro (tgsC b) (And.intro (get_map hbi) (And.intro rfl rfl))))) ?_
          | refine And.intro (And.intro rfl rfl) ?_)
        · cases h1
        · refine Exists.intro [] (Exists.intro (bs.length - (i + 1)) (And.intro (by omega) ?_))
          exact ⟨i + 1, by omega, rfl, by rw [wrap_succ hlt (by omega)], rfl⟩
      · exact hp
  · exact hp.elim

structure Pl where
  text : Int
  banks : List Int
  data : Int
  size : Int
def plC (p : Pl) : List AV := [.v (.int .i64 p.text), .sl 1 (p.banks.map intC), .v (.int .i64 p.data), .v (.int .i64 p.size)]
def zeroPl : Pl := ⟨0, [], 0, 0⟩
def smPl (p : Pl) : Prop := p.banks.length ≤ 1048576
/-- A place that is read. -/
def PlV (a : AV) (p : Pl) : Prop := ∃ b z, a = .agg [.v (.int .i64 p.text), .imm b z 1 (p.banks.map intC), .v (.int .i64 p.data), .v (.int .i64 p.size)]
def hToPl : CH := fun args hl K => match args, hl with
  | [a], [] => ∃ p, PlV a p ∧ smPl p ∧ K (.agg [.v (.int .i64 p.text), .slc 0 0 p.banks.length false, .v (.int .i64 p.data), .v (.int .i64 p.size)]) [.lst 1 (p.banks.map intC)]
  | _, _ => False
def cx_s_toPlace : Ctx := mkC [(41, callM [] true hToInt)]
theorem cx_s_toPlace_ok : CtxOk Tryz.prog cx_s_toPlace := mkC_ok (mem1 ⟨s_toIntS, fnOk Tryz.func41 rfl rfl⟩ mem0)
set_option maxRecDepth 100000 in
set_option pp.maxSteps 1500 in
theorem s_toPlace : HSound Tryz.prog 99 (callM [] true hToPl) := by
  refine callM_sound cx_s_toPlace_ok mixed Tryz.func99 rfl fun args hl K hp => ?_
  unfold hToPl at hp
  split at hp
  · rename_i a
    obtain ⟨p, ⟨b, z, rfl⟩, hb, hp⟩ := hp
    refine Exists.intro p.banks (And.intro rfl (And.intro hb ?_))
    refine And.intro (closed_Int _) ?_
    exact hp
  · exact hp.elim
def hEqPl : CH := fun args hl K => match args, hl with
  | [a, b], [] => ∃ p, PlV a p ∧ PlV b p ∧ smPl p ∧ K (.v (.bool true)) []
  | _, _ => False
def cx_s_eqPlace : Ctx := mkC [(47, callM [] true hEqInt)]
theorem cx_s_eqPlace_ok : CtxOk Tryz.prog cx_s_eqPlace := mkC_ok (mem1 ⟨s_eqIntS, fnOk Tryz.func47 rfl rfl⟩ mem0)
set_option maxRecDepth 100000 in
set_option pp.maxSteps 1500 in
theorem s_eqPlace : HSound Tryz.prog 107 (callM [] true hEqPl) := by
  refine callM_sound cx_s_eqPlace_ok mixed Tryz.func107 rfl fun args hl K hp => ?_
  unfold hEqPl at hp
  split at hp
  · rename_i a b
    obtain ⟨p, ⟨b1, z1, rfl⟩, ⟨b2, z2, rfl⟩, hb, hp⟩ := hp
    repeat' ((first
      | refine Exists.intro p.banks (And.intro rfl (And.intro rfl (And.intro hb ?_)))
      | refine And.intro (fun h => ?_) (fun h => ?_)
      | fail) <;> try first | (exfalso; simp at h; done) | cases h)
    all_goals exact hp
  · exact hp.elim
/-! ### Place: slices whose elements own slices: laid, compared (printed by gen/lists.py) -/

theorem closed_Place (bs : List Pl) : ClosedL (bs.map plC) := by
  intro e he x hx
  obtain ⟨b, _, rfl⟩ := List.mem_map.1 he
  simp [plC] at hx
  rcases hx with rfl | rfl | rfl | rfl <;> rfl
theorem closed_fillPlace (bs : List Pl) (i k : Nat) : ClosedL ((bs.take i).map plC ++ List.replicate k (plC zeroPl)) := by
  refine closed_app (closed_Place _) ?_
  have := closed_Place (List.replicate k zeroPl)
  simpa using this
def hToPlace : CH := fun args hl K => match args, hl with
  | [.imm _ _ 4 l], [] => ∃ bs : List Pl, l = bs.map plC ∧ (∀ b ∈ bs, smPl b) ∧ bs.length ≤ 1048576 ∧ K (.slc 0 0 bs.length false) [.lst 4 (bs.map plC)]
  | _, _ => False
def cx_s_toPlaceS : Ctx := mkC [(99, callM [] true hToPl)]
theorem cx_s_toPlaceS_ok : CtxOk Tryz.prog cx_s_toPlaceS := mkC_ok (mem1 ⟨s_toPlace, fnOk Tryz.func99 rfl rfl⟩ mem0)
set_option maxRecDepth 100000 in
set_option pp.maxSteps 1500 in
set_option maxHeartbeats 4000000 in
theorem s_toPlaceS : HSound Tryz.prog 40 (callM [] true hToPlace) := by
  refine callM_sound cx_s_toPlaceS_ok mixed Tryz.func40 rfl fun args hl K hp => ?_
  unfold hToPlace at hp
  split at hp
  · rename_i t z l
    obtain ⟨bs, rfl, hsm, hb, hp⟩ := hp
    refine Or.inl ?_
    refine Exists.intro bs.length (And.intro (by simp) (And.intro (by simp) (And.intro (by simp only; omega) ?_)))
    refine Exists.intro true (Exists.intro [0, 3, 4] (Exists.intro (fun m vs h => ∃ i : Nat, i ≤ bs.length ∧ m = bs.length - i ∧ vs = [.imm t z 4 (bs.map plC), .slc 0 0 bs.length false, .v (.int .i64 i)] ∧ h = [.lst 4 ((bs.take i).map plC ++ List.replicate (bs.length - i) (plC zeroPl))]) (And.intro ?_ ?_)))
    · refine Exists.intro [] ?_
      refine And.intro (closed_fillPlace bs 0 bs.length) ?_
      refine Exists.intro bs.length ?_
      exact ⟨0, by omega, rfl, rfl, rfl⟩
    · intro m vs h hI
      obtain ⟨i, hi, rfl, rfl, rfl⟩ := hI
      refine And.intro (fun h1 => ?_) (fun h1 => ?_)
      · simp only [decide_eq_true_eq, List.length_map] at h1
        have hlt : i < bs.length := by omega
        obtain ⟨b, hbi⟩ : ∃ b, bs[i]? = some b := ⟨_, List.getElem?_eq_getElem hlt⟩
        have hbb := hsm b (List.mem_of_getElem? hbi)
        have hst := fill_step plC (plC zeroPl) bs i b hbi
        have hcl := closed_fillPlace bs (i + 1) (bs.length - (i + 1))
        have hg : ((bs.take i).map plC ++ List.replicate (bs.length - i) (plC zeroPl))[0 + i]? = some (plC zeroPl) := by rw [Nat.zero_add, List.getElem?_append_right (by simp; omega), List.getElem?_replicate, if_pos (by simp; omega)]
        rw [← hst] at hcl
        generalize hL : (bs.take i).map plC ++ List.replicate (bs.length - i) (plC zeroPl) = L at *
        refine Exists.intro i (And.intro rfl (Exists.intro (plC b) (And.intro (get_map hbi) ?_)))
        refine Exists.intro b (And.intro ⟨_, _, rfl⟩ (And.intro hbb ?_))
        refine Exists.intro i (And.intro rfl (And.intro hlt ?_))
        repeat' (first | refine Exists.intro _ (And.intro (lendL _ _) (And.intro (List.length_map _) (And.intro (by first | exact closed_bytes _ | exact closed_Int _ | exact closed_String _ | exact closed_Export _ | exact closed_IntS _ | exact closed_Target _ | exact closed_TargetS _) ?_))))
        refine Exists.intro (plC zeroPl) (And.intro hg (And.intro (by decide) ?_))
        refine Exists.intro [] ?_
        refine And.intro (by rw [Nat.zero_add]; exact hcl) ?_
        refine Exists.intro (bs.length - (i + 1)) (And.intro (by omega) ?_)
        refine ⟨i + 1, by omega, rfl, ?_, ?_⟩
        · rw [← wrap_succ hlt (by omega)]
        · rw [← hst, Nat.zero_add]
          rfl
      · simp only [decide_eq_false_iff_not, List.length_map] at h1
        have : i = bs.length := by omega
        subst this
        have e : (bs.take bs.length).map plC ++ List.replicate (bs.length - bs.length) (plC zeroPl) = bs.map plC := by simp
        rw [← e] at hp
        refine And.intro (e ▸ closed_Place bs) ?_
        exact hp
  · exact hp.elim

def hEqPlace : CH := fun args hl K => match args, hl with
  | [.imm _ _ 4 l, .imm _ _ 4 r], [] => ∃ bs : List Pl, l = bs.map plC ∧ r = bs.map plC ∧ (∀ b ∈ bs, smPl b) ∧ bs.length ≤ 1048576 ∧ K (.v (.bool true)) []
  | _, _ => False
def cx_s_eqPlaceS : Ctx := mkC [(107, callM [] true hEqPl)]
theorem cx_s_eqPlaceS_ok : CtxOk Tryz.prog cx_s_eqPlaceS := mkC_ok (mem1 ⟨s_eqPlace, fnOk Tryz.func107 rfl rfl⟩ mem0)
set_option maxRecDepth 100000 in
set_option pp.maxSteps 1500 in
set_option maxHeartbeats 4000000 in
theorem s_eqPlaceS : HSound Tryz.prog 46 (callM [] true hEqPlace) := by
  refine callM_sound cx_s_eqPlaceS_ok mixed Tryz.func46 rfl fun args hl K hp => ?_
  unfold hEqPlace at hp
  split at hp
  · rename_i t z l t' z' r
    obtain ⟨bs, rfl, rfl, hsm, hb, hp⟩ := hp
    refine And.intro (fun h1 => ?_) (fun h1 => ?_)
    · simp at h1
    clear h1
    refine Exists.intro true (Exists.intro [0, 1, 5] (Exists.intro (fun m vs h => ∃ i : Nat, i ≤ bs.length ∧ m = bs.length - i ∧ vs = [.imm t z 4 (bs.map plC), .imm t' z' 4 (bs.map plC), .v (.int .i64 i)] ∧ h = []) (And.intro ?_ ?_)))
    · refine Exists.intro [] (Exists.intro bs.length ?_)
      exact ⟨0, by omega, rfl, rfl, rfl⟩
    · intro m vs h hI
      obtain ⟨i, hi, rfl, rfl, rfl⟩ := hI
      refine And.intro (fun h1 => ?_) (fun h1 => ?_)
      · simp only [decide_eq_true_eq, List.length_map] at h1
        have hlt : i < bs.length := by omega
        obtain ⟨b, hbi⟩ : ∃ b, bs[i]? = some b := ⟨_, List.getElem?_eq_getElem hlt⟩
        have hbb := hsm b (List.mem_of_getElem? hbi)
        refine Or.inl ?_
        refine And.intro (show wfB _ = true from by kernel_rfl) ?_
        refine Exists.intro i (And.intro rfl (Exists.intro (plC b) (And.intro (get_map hbi) ?_)))
        refine Exists.intro i (And.intro rfl (Exists.intro (plC b) (And.intro (get_map hbi) ?_)))
        apply HeldC.intro
        · refine Exists.intro b ?_; refine And.intro ⟨_, _, rfl⟩ ?_; refine And.intro ⟨_, _, rfl⟩ ?_; refine And.intro hbb ?_
          exact And.intro rfl rfl
        repeat' (first
          | refine And.intro (fun h1 => ?_) (fun h1 => ?_)
          | refine And.intro (Exists.intro i (And.intro rfl (Exists.intro (plC b) (And.intro (get_map hbi) (And.intro rfl rfl))))) ?_
          | refine And.intro (And.intro rfl rfl) ?_)
        · cases h1
        · refine Exists.intro [] (Exists.intro (bs.length - (i + 1)) (And.intro (by omega) ?_))
          exact ⟨i + 1, by omega, rfl, by rw [wrap_succ hlt (by omega)], rfl⟩
      · exact hp
  · exact hp.elim

end Go.Proofs.YtbfjkjdbdejnmaaGreat.Ab
