/- MemOk: both programs answer alike. No condition. -/
import Derived.Test.YtkbdjhhnpajidaaTBase
import Derived.Test.YtkbdjhhnpajidaaAbCall
namespace Go.Proofs.Ytkbdjhhnpajidaa.Ab

def byteC (b : Int) : List AV := [.v (.int .u8 b)]
theorem byteC_lent (bs : List Int) : ∀ e ∈ bs.map byteC, ∀ x ∈ e, x.lent = true := by
  intro e he x hx
  obtain ⟨b, _, rfl⟩ := List.mem_map.1 he
  simp [byteC] at hx
  subst hx
  rfl
theorem byteC_shutC (bs : List Int) : ∀ e ∈ bs.map byteC, ∀ x ∈ e, x.shutC = true := by
  intro e he x hx
  obtain ⟨b, _, rfl⟩ := List.mem_map.1 he
  simp [byteC] at hx
  subst hx
  rfl

def szB (n : Int) (l : Nat) : Int := if n - l < 0 then -1 else n - l
def pSzB : PH := fun args K => match args with
  | [.imm _ _ 1 l, .v (.int .i64 n)] => 0 ≤ n ∧ n ≤ 1048576 ∧ (l.length : Int) ≤ 9223372036854775807 ∧ K (.v (.int .i64 (szB n l.length)))
  | _ => False
theorem fin_pi {K : AV → Prop} {k : IntKind} {x y : Int} (hp : K (.v (.int k x))) (e : x = y) : K (.v (.int k y)) := e ▸ hp
theorem fin_pb {K : AV → Prop} {x y : Bool} (hp : K (.v (.bool x))) (e : x = y) : K (.v (.bool y)) := e ▸ hp
set_option maxRecDepth 100000 in
theorem s_szByteS : HSound Try.prog 25 (callP pSzB) := by
  refine callP_sound cx0_ok mixed Try.func25 rfl fun args K hp => ?_
  unfold pSzB at hp
  split at hp
  · rename_i l n
    obtain ⟨h0, h1, h2, hp⟩ := hp
    refine ⟨rfl, ?_⟩
    have hw : IntKind.i64.wrap (n - l.length) = n - l.length := wrap64 (by omega)
    repeat' ((first | refine And.intro (fun h1 => ?_) (fun h1 => ?_) | refine And.intro (by decide) ?_) <;> try cases h1)
    all_goals refine fin_pi hp ?_
    all_goals clear hp
    all_goals rw [hw] at *
    all_goals simp only [szB, decide_eq_true_eq, decide_eq_false_iff_not] at *
    all_goals split <;> omega
  · exact hp.elim

def pToB : PH := fun args K => match args with
  | [.imm _ _ 1 l] => ∃ bs : List Int, l = bs.map byteC ∧ bs.length ≤ 1048576 ∧ K (.sl 1 (bs.map byteC))
  | _ => False
theorem set_step (bs : List Int) (i : Nat) (b : Int) (h : bs[i]? = some b) : ((bs.take i).map byteC ++ List.replicate (bs.length - i) (byteC 0)).set i (byteC b) = (bs.take (i + 1)).map byteC ++ List.replicate (bs.length - (i + 1)) (byteC 0) := by
  have hi := (List.getElem?_eq_some_iff.1 h).1
  have hb := (List.getElem?_eq_some_iff.1 h).2
  have e : bs.length - i = (bs.length - (i + 1)) + 1 := by omega
  rw [e, List.replicate_succ, List.set_append_right _ _ (by simp; omega)]
  rw [show i - ((bs.take i).map byteC).length = 0 by simp; omega]
  rw [List.take_succ_eq_append_getElem hi, hb]
  simp
set_option maxRecDepth 100000 in
theorem s_toByteS : HSound Try.prog 26 (callP pToB) := by
  refine callP_sound cx0_ok mixed Try.func26 rfl fun args K hp => ?_
  unfold pToB at hp
  split at hp
  · rename_i t z l
    obtain ⟨bs, rfl, hb, hp⟩ := hp
    refine ⟨rfl, ?_⟩
    refine Exists.intro bs.length (And.intro (by simp) (And.intro (by simp) (And.intro (by simp only; omega) ?_)))
    refine Exists.intro [0, 3, 4] (Exists.intro (fun m vs h => ∃ i : Nat, i ≤ bs.length ∧ m = bs.length - i ∧ vs = [.imm t z 1 (bs.map byteC), .slc 1 0 bs.length true, .v (.int .i64 i)] ∧ h = [.lst 1 [], .lst 1 ((bs.take i).map byteC ++ List.replicate (bs.length - i) (byteC 0))]) (And.intro ?_ ?_))
    · refine Exists.intro bs.length (Exists.intro _ (Exists.intro _ (And.intro (.refl _ _) ?_)))
      exact ⟨0, by omega, rfl, rfl, rfl⟩
    · intro m vs h hI
      obtain ⟨i, hi, rfl, rfl, rfl⟩ := hI
      refine And.intro (fun h1 => ?_) (fun h1 => ?_)
      · simp only [decide_eq_true_eq, List.length_map] at h1
        have hlt : i < bs.length := by omega
        obtain ⟨b, hbi⟩ : ∃ b, bs[i]? = some b := ⟨_, List.getElem?_eq_getElem hlt⟩
        refine Exists.intro i (And.intro rfl (Exists.intro (byteC b) (And.intro (by simp [hbi]) ?_)))
        refine Exists.intro i (And.intro rfl (And.intro hlt ?_))
        refine Exists.intro (byteC 0) (And.intro (by rw [Nat.zero_add, List.getElem?_append_right (by simp; omega), List.getElem?_replicate, if_pos (by simp; omega)]) (And.intro (by decide) ?_))
        refine Exists.intro (bs.length - (i + 1)) (Exists.intro _ (Exists.intro _ (And.intro (by omega) (And.intro (.refl _ _) ?_))))
        refine ⟨i + 1, by omega, rfl, ?_, ?_⟩
        · have hw2 : IntKind.wrap .i64 ((i : Int) + 1) = ((i + 1 : Nat) : Int) := by
            rw [wrap64] <;> omega
          rw [← hw2]
        · rw [← set_step bs i b hbi, Nat.zero_add]
          rfl
      · simp only [decide_eq_false_iff_not, List.length_map] at h1
        have : i = bs.length := by omega
        subst this
        refine And.intro (by simp) (And.intro ?_ ?_)
        · have := byteC_shutC bs
          simpa using this
        · have hp' : K (.sl 1 ((bs.take bs.length).map byteC ++ List.replicate (bs.length - bs.length) (byteC 0))) := by simpa using hp
          exact hp'
  · exact hp.elim

def pEqB : PH := fun args K => match args with
  | [.imm _ _ 1 l, .imm _ _ 1 r] => ∃ cs bs : List Int, l = cs.map byteC ∧ r = bs.map byteC ∧ cs.length ≤ 1048576 ∧ K (.v (.bool (decide (cs = bs))))
  | _ => False
theorem take_step {α : Type} {cs bs : List α} {i : Nat} {a : α} (h : cs.take i = bs.take i) (h1 : cs[i]? = some a) (h2 : bs[i]? = some a) : cs.take (i + 1) = bs.take (i + 1) := by
  rw [List.take_add_one, List.take_add_one, h, h1, h2]
set_option maxRecDepth 100000 in
theorem s_eqByteS : HSound Try.prog 27 (callP pEqB) := by
  refine callP_sound cx0_ok mixed Try.func27 rfl fun args K hp => ?_
  unfold pEqB at hp
  split at hp
  · rename_i t z l t' z' r
    obtain ⟨cs, bs, rfl, rfl, hb, hp⟩ := hp
    refine ⟨rfl, ?_⟩
    refine And.intro (fun h1 => ?_) (fun h1 => ?_)
    · refine fin_pb hp ?_
      have : cs ≠ bs := by rintro rfl; simp at h1
      simp [this]
    · have hlen : cs.length = bs.length := by simp at h1; omega
      clear h1
      refine Exists.intro [0, 1, 5] (Exists.intro (fun m vs h => ∃ i : Nat, i ≤ cs.length ∧ m = cs.length - i ∧ vs = [.imm t z 1 (cs.map byteC), .imm t' z' 1 (bs.map byteC), .v (.int .i64 i)] ∧ h = [] ∧ cs.take i = bs.take i) (And.intro ?_ ?_))
      · refine Exists.intro cs.length (Exists.intro _ (Exists.intro _ (And.intro (.refl _ _) ?_)))
        exact ⟨0, by omega, rfl, rfl, rfl, rfl⟩
      · intro m vs h hI
        obtain ⟨i, hi, rfl, rfl, rfl, htk⟩ := hI
        refine And.intro (fun h1 => ?_) (fun h1 => ?_)
        · simp only [decide_eq_true_eq, List.length_map] at h1
          have hlt : i < cs.length := by omega
          obtain ⟨a, hai⟩ : ∃ a, cs[i]? = some a := ⟨_, List.getElem?_eq_getElem hlt⟩
          obtain ⟨b, hbi⟩ : ∃ b, bs[i]? = some b := ⟨_, List.getElem?_eq_getElem (by omega)⟩
          refine And.intro (by kernel_rfl) ?_
          refine Exists.intro i (And.intro rfl (Exists.intro (byteC a) (And.intro (by simp [hai]) ?_)))
          refine Exists.intro i (And.intro rfl (Exists.intro (byteC b) (And.intro (by simp [hbi]) ?_)))
          refine And.intro (fun h1 => ?_) (fun h1 => ?_)
          · refine fin_pb hp ?_
            have : cs ≠ bs := by
              rintro rfl
              rw [hai] at hbi
              cases hbi
              simp at h1
            simp [this]
          · have hab : a = b := by simpa using h1
            subst hab
            refine Exists.intro (cs.length - (i + 1)) (Exists.intro _ (Exists.intro _ (And.intro (by omega) (And.intro (.refl _ _) ?_))))
            refine ⟨i + 1, by omega, rfl, ?_, rfl, take_step htk hai hbi⟩
            have hw2 : IntKind.wrap .i64 ((i : Int) + 1) = ((i + 1 : Nat) : Int) := by
              rw [wrap64] <;> omega
            rw [← hw2]
        · simp only [decide_eq_false_iff_not, List.length_map] at h1
          refine fin_pb hp ?_
          have : cs = bs := by
            have e1 : cs.take i = cs := List.take_of_length_le (by omega)
            have e2 : bs.take i = bs := List.take_of_length_le (by omega)
            rw [← e1, htk, e2]
          simp [this]
  · exact hp.elim
end Go.Proofs.Ytkbdjhhnpajidaa.Ab
