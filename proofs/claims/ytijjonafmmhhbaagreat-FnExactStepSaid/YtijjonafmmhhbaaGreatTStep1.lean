/- Step: the small functions of both programs. No condition. -/
import Derived.Test.YtijjonafmmhhbaaGreatTStep0
namespace Go.Proofs.YtijjonafmmhhbaaGreat.Ab
set_option linter.unusedVariables false
set_option linter.unusedSimpArgs false

def wideF (v : Int) : Int := if 32768 ≤ v then v - 65536 else v
def wordB (v : Int) : Bool := decide (0 ≤ v ∧ v ≤ 4294967295)
def coreOk (pc : Int) (rs : List Int) : Bool := wordB pc && decide (rs.length = 8) && rs.all wordB
def hWide : CH := fun args hl K => match args, hl with
  | [.v (.int .i64 v)], [] => 0 ≤ v ∧ v ≤ 65535 ∧ K (.v (.int .i64 (wideF v))) []
  | _, _ => False
def cx_s_l3Wide : Ctx := mkC []
theorem cx_s_l3Wide_ok : CtxOk Tryz.prog cx_s_l3Wide := cx0_ok
set_option maxRecDepth 100000 in
set_option pp.maxSteps 1500 in
theorem s_l3Wide : HSound Tryz.prog 42 (callM [] false hWide) := by
  refine callM_sound cx_s_l3Wide_ok mixed Tryz.func42 rfl fun args hl K hp => ?_
  unfold hWide at hp
  split at hp
  · rename_i v
    obtain ⟨h0, h1, hp⟩ := hp
    repeat' ((first | refine And.intro (fun h1 => ?_) (fun h1 => ?_) | refine And.intro (by decide) ?_ | refine And.intro (show wfB _ = true from by kernel_rfl) ?_ | refine And.intro (And.intro rfl rfl) ?_ | exact And.intro rfl rfl | apply HeldC.intro | exact AV.top | (apply HeldF.intro; refine Exists.intro _ (And.intro (by assumption) ?_); refine And.intro (by decide) ?_; exact And.intro rfl rfl) | (refine And.intro (by (refine Exists.intro _ (And.intro (by assumption) ?_); refine And.intro (by decide) ?_; exact And.intro rfl rfl)) ?_) | refine Or.inl ?_) <;> try cases h1)
    · have h1 := of_decide_eq_true h1
      exact fin_i hp (by rw [wrap64 (by omega)]; exact if_pos (by omega))
    · have h1 := of_decide_eq_false h1
      exact fin_i hp (if_neg (by omega))
  · exact hp.elim
def cx_s_widen : Ctx := mkC []
theorem cx_s_widen_ok : CtxOk Tryz.prog cx_s_widen := cx0_ok
set_option maxRecDepth 100000 in
set_option pp.maxSteps 1500 in
theorem s_widen : HSound Tryz.prog 107 (callM [] false hWide) := by
  refine callM_sound cx_s_widen_ok mixed Tryz.func107 rfl fun args hl K hp => ?_
  unfold hWide at hp
  split at hp
  · rename_i v
    obtain ⟨h0, h1, hp⟩ := hp
    repeat' ((first | refine And.intro (fun h1 => ?_) (fun h1 => ?_) | refine And.intro (by decide) ?_ | refine And.intro (show wfB _ = true from by kernel_rfl) ?_ | refine And.intro (And.intro rfl rfl) ?_ | exact And.intro rfl rfl | apply HeldC.intro | exact AV.top | (apply HeldF.intro; refine Exists.intro _ (And.intro (by assumption) ?_); refine And.intro (by decide) ?_; exact And.intro rfl rfl) | (refine And.intro (by (refine Exists.intro _ (And.intro (by assumption) ?_); refine And.intro (by decide) ?_; exact And.intro rfl rfl)) ?_) | refine Or.inl ?_) <;> try cases h1)
    · have h1 := of_decide_eq_true h1
      exact fin_i hp (by rw [wrap64 (by omega)]; exact if_pos (by omega))
    · have h1 := of_decide_eq_false h1
      exact fin_i hp (if_neg (by omega))
  · exact hp.elim
theorem wide_bd {v : Int} (h0 : 0 ≤ v) (h1 : v ≤ 65535) : -32768 ≤ wideF v ∧ wideF v ≤ 32767 := by
  unfold wideF
  split <;> omega
theorem allT {α : Type} {f : α → Bool} {l : List α} {i : Nat} {a : α} (h : l[i]? = some a) (hall : (l.take i).all f = true) (ha : f a = true) : (l.take (i + 1)).all f = true := by
  rw [List.take_add_one, h]
  simp only [Option.toList, List.all_append, hall, Bool.true_and, List.all_cons, List.all_nil, Bool.and_true, ha]
theorem allF {α : Type} {f : α → Bool} {l : List α} {i : Nat} {a : α} (h : l[i]? = some a) (ha : f a = false) : l.all f = false := by
  rw [List.all_eq_false]
  exact ⟨a, List.mem_of_getElem? h, by simp [ha]⟩
def hCoreOk : CH := fun args hl K => match args, hl with
  | [.agg [.v (.int .i64 pc), .imm _ _ 1 R]], [] => ∃ rs : List Int, R = rs.map intC ∧ rs.length ≤ 1048576 ∧ K (.v (.bool (coreOk pc rs))) []
  | _, _ => False
def cx_s_l3CoreOk : Ctx := mkC []
theorem cx_s_l3CoreOk_ok : CtxOk Tryz.prog cx_s_l3CoreOk := cx0_ok
set_option maxRecDepth 100000 in
set_option pp.maxSteps 1500 in
theorem s_l3CoreOk : HSound Tryz.prog 32 (callM [] true hCoreOk) := by
  refine callM_sound cx_s_l3CoreOk_ok mixed Tryz.func32 rfl fun args hl K hp => ?_
  unfold hCoreOk at hp
  split at hp
  · rename_i pc t z R
    obtain ⟨rs, rfl, hl, hp⟩ := hp
    repeat' ((first
      | refine And.intro (fun h1 => ?_) (fun h1 => ?_)
      | fail) <;> try cases h1)
    · have h1 := of_decide_eq_true h1
      refine fin_b hp ?_
      simp only [coreOk, wordB, decide_eq_false (by omega : ¬ (0 ≤ pc ∧ pc ≤ 4294967295)), Bool.false_and]
    · have h1 := of_decide_eq_true h1
      refine fin_b hp ?_
      simp only [coreOk, wordB, decide_eq_false (by omega : ¬ (0 ≤ pc ∧ pc ≤ 4294967295)), Bool.false_and]
    · have h1 : ¬ rs.length = 8 := by simp at h1; omega
      refine fin_b hp ?_
      simp only [coreOk, decide_eq_false h1, Bool.false_and, Bool.and_false]
    · rename_i q1 q2
      have q1 := of_decide_eq_false q1
      have q2 := of_decide_eq_false q2
      have h8 : rs.length = 8 := by simp at h1; omega
      have e : coreOk pc rs = rs.all wordB := by simp only [coreOk, wordB, decide_eq_true (by omega : 0 ≤ pc ∧ pc ≤ 4294967295), decide_eq_true h8, Bool.true_and]
      rw [e] at hp
      refine Exists.intro true (Exists.intro [1, 3] (Exists.intro (fun n vs h => ∃ i : Nat, i ≤ 8 ∧ n = 8 - i ∧ (rs.take i).all wordB = true ∧ vs = [.ptr 0 0 0 2, .v (.int .i64 i)] ∧ h = [.box [.v (.int .i64 pc), .imm t z 1 (rs.map intC)]]) (And.intro ?_ ?_)))
      · refine Exists.intro [] (Exists.intro 8 ?_)
        exact ⟨0, by omega, rfl, rfl, rfl, rfl⟩
      · intro n vs h hI
        obtain ⟨i, hi, rfl, hall, rfl, rfl⟩ := hI
        refine And.intro (fun h2 => ?_) (fun h2 => ?_)
        · have h2 := of_decide_eq_true h2
          have hlt : i < rs.length := by omega
          obtain ⟨b, hbi⟩ : ∃ b, rs[i]? = some b := ⟨_, List.getElem?_eq_getElem hlt⟩
          refine Exists.intro i (And.intro rfl (Exists.intro (intC b) (And.intro (get_map hbi) ?_)))
          repeat' ((first
            | refine And.intro (fun h3 => ?_) (fun h3 => ?_)
            | refine Exists.intro i (And.intro rfl (Exists.intro (intC b) (And.intro (get_map hbi) ?_)))
            | fail) <;> try cases h3)
          · have h3 := of_decide_eq_true h3
            exact fin_b hp (allF hbi (decide_eq_false (by omega)))
          · have h3 := of_decide_eq_true h3
            exact fin_b hp (allF hbi (decide_eq_false (by omega)))
          · rename_i r1
            have r1 := of_decide_eq_false r1
            have h3 := of_decide_eq_false h3
            refine Exists.intro [] (Exists.intro (8 - (i + 1)) (And.intro (by omega) ⟨i + 1, by omega, rfl, allT hbi hall (decide_eq_true (by omega)), ?_, rfl⟩))
            rw [wrap_succ (n := 8) (by omega) (by omega)]
        · have h2 := of_decide_eq_false h2
          rw [List.take_of_length_le (by omega)] at hall
          exact fin_b hp hall
  · exact hp.elim

def hToCore : CH := fun args hl K => match args, hl with
  | [.agg [.v (.int .i64 pc), .imm _ _ 1 R]], [] => ∃ rs : List Int, R = rs.map intC ∧ rs.length ≤ 1048576 ∧ K (.agg [.v (.int .i64 pc), .slc 0 0 rs.length false]) [.lst 1 (rs.map intC)]
  | _, _ => False
theorem int_notSl (bs : List Int) : ∀ e ∈ bs.map intC, ∀ x ∈ e, x.isSl = false := by
  intro e he x hx
  obtain ⟨b, _, rfl⟩ := List.mem_map.1 he
  simp [intC] at hx
  subst hx
  rfl
theorem fin_c {K : AV → HP → Prop} {pc : Int} {n n' : Nat} {L : List (List AV)} (hp : K (.agg [.v (.int .i64 pc), .slc 0 0 n false]) [.lst 1 L]) (e : n = n') : K (.agg [.v (.int .i64 pc), .slc 0 0 n' false]) [.lst 1 L] := e ▸ hp
def cx_s_l3Core : Ctx := mkC []
theorem cx_s_l3Core_ok : CtxOk Tryz.prog cx_s_l3Core := cx0_ok
set_option maxRecDepth 100000 in
set_option pp.maxSteps 1500 in
theorem s_l3Core : HSound Tryz.prog 30 (callM [] true hToCore) := by
  refine callM_sound cx_s_l3Core_ok mixed Tryz.func30 rfl fun args hl K hp => ?_
  unfold hToCore at hp
  split at hp
  · rename_i pc t z R
    obtain ⟨rs, rfl, hl, hp⟩ := hp
    refine Or.inl ?_
    refine And.intro (show wfB _ = true from by kernel_rfl) ?_
    apply HeldC.intro
    · refine And.intro (int_notSl _) ?_
      refine And.intro rfl ?_
      refine And.intro (by simp only [List.length_map, List.length_nil]; omega) ?_
      refine And.intro (by simp only [List.length_map, List.length_nil]; omega) ?_
      exact And.intro rfl rfl
    repeat' (first
      | refine And.intro (And.intro rfl rfl) ?_
      | exact And.intro rfl rfl
      | apply HeldC.intro
      | exact AV.top
      | fail)
    refine And.intro (closed_app closed_nil (closed_Int _)) ?_
    exact fin_c hp (by simp)
  · exact hp.elim
def cx_s_toCore : Ctx := mkC [(53, callM [] true hToInt)]
theorem cx_s_toCore_ok : CtxOk Tryz.prog cx_s_toCore := mkC_ok (mem1 ⟨s_toIntS, fnOk Tryz.func53 rfl rfl⟩ mem0)
set_option maxRecDepth 100000 in
set_option pp.maxSteps 1500 in
theorem s_toCore : HSound Tryz.prog 12 (callM [] true hToCore) := by
  refine callM_sound cx_s_toCore_ok mixed Tryz.func12 rfl fun args hl K hp => ?_
  unfold hToCore at hp
  split at hp
  · rename_i pc t z R
    obtain ⟨rs, rfl, hl, hp⟩ := hp
    refine Exists.intro rs (And.intro rfl (And.intro hl ?_))
    refine And.intro (closed_Int _) ?_
    exact hp
  · exact hp.elim

/-! ### What an operation makes of two words -/

def aluF (op imm d a : Int) : Int :=
  if op = 2 then imm else if op = 3 then d % 65536 + imm * 65536 else if op = 4 then a else if op = 5 then (d + a) % 4294967296 else if op = 6 then (a + wideF imm) % 4294967296
  else if op = 7 then (d - a) % 4294967296 else if op = 8 then d * a % 4294967296 else if op = 9 then ((d.toNat &&& a.toNat : Nat) : Int) else if op = 10 then ((d.toNat ||| a.toNat : Nat) : Int)
  else if op = 11 then ((d.toNat ^^^ a.toNat : Nat) : Int) else if op = 12 then d * 2 ^ (a % 32).toNat % 4294967296 else d / 2 ^ (a % 32).toNat
def hAlu : CH := fun args hl K => match args, hl with
  | [.agg [.v (.int .i64 op), .v _, .v _, .v (.int .i64 imm)], .v (.int .i64 d), .v (.int .i64 a)], [] => 2 ≤ op ∧ op ≤ 13 ∧ 0 ≤ imm ∧ imm ≤ 65535 ∧ 0 ≤ d ∧ d ≤ 4294967295 ∧ 0 ≤ a ∧ a ≤ 4294967295 ∧ K (.v (.int .i64 (aluF op imm d a))) []
  | _, _ => False
theorem shift_val {a : Int} (h0 : 0 ≤ a) : (if a % 32 ≥ 16 then (2 : Int) ^ (a % 16).toNat * 65536 else 2 ^ (a % 16).toNat) = 2 ^ (a % 32).toNat := by
  split
  · rw [show (65536 : Int) = 2 ^ 16 by decide, ← Int.pow_add]
    congr 1
    omega
  · congr 1
    omega
theorem pow16 {n : Nat} (h : n < 16) : (0 : Int) < 2 ^ n ∧ (2 : Int) ^ n ≤ 32768 := by
  refine ⟨Int.pow_pos (by omega), ?_⟩
  have := pow_le (show n ≤ 15 by omega)
  have e : (2 : Int) ^ 15 = 32768 := by decide
  omega
theorem pow32 {n : Nat} (h : n < 32) : (0 : Int) < 2 ^ n ∧ (2 : Int) ^ n ≤ 2147483648 := by
  refine ⟨Int.pow_pos (by omega), ?_⟩
  have := pow_le (show n ≤ 31 by omega)
  have e : (2 : Int) ^ 31 = 2147483648 := by decide
  omega
theorem wrap_I64' (x : Int) : I64 (IntKind.i64.wrap x) := by
  simp only [I64, IntKind.wrap, IntKind.bits, IntKind.signed, Bool.true_and]
  split <;> rename_i q <;> simp at q <;> omega
def cx_s_l3Alu : Ctx := mkC [(66, callM [] false hPw), (37, callM [] false hModW), (42, callM [] false hWide)]
theorem cx_s_l3Alu_ok : CtxOk Tryz.prog cx_s_l3Alu := mkC_ok (mem1 ⟨s_l2Pow2, fnOk Tryz.func66 rfl rfl⟩ (mem1 ⟨s_l1Word, fnOk Tryz.func37 rfl rfl⟩ (mem1 ⟨s_l3Wide, fnOk Tryz.func42 rfl rfl⟩ mem0)))
set_option maxRecDepth 100000 in
set_option pp.maxSteps 1500 in
set_option maxHeartbeats 8000000 in
theorem s_l3Alu : HSound Tryz.prog 40 (callM [] false hAlu) := by
  refine callM_sound cx_s_l3Alu_ok mixed Tryz.func40 rfl fun args hl K hp => ?_
  unfold hAlu at hp
  split at hp
  · rename_i op _ _ imm d a
    obtain ⟨o0, o1, i0, i1, d0, d1, a0, a1, hp⟩ := hp
    have r16 : a.tmod 16 = a % 16 := Int.tmod_eq_emod_of_nonneg a0
    have r32 : a.tmod 32 = a % 32 := Int.tmod_eq_emod_of_nonneg a0
    have p16 := pow16 (n := (a % 16).toNat) (by omega)
    have p32 := pow32 (n := (a % 32).toNat) (by omega)
    have hs := shift_val a0
    have hw := wide_bd i0 i1
    refine And.intro (by decide) ?_
    refine And.intro (by rw [r16]; omega) (And.intro (by rw [r16]; omega) ?_)
    rw [r16]
    refine And.intro (by decide) ?_
    have e16 : a % 32 ≥ 16 → IntKind.i64.wrap (2 ^ (a % 16).toNat * 65536) = 2 ^ (a % 32).toNat := fun h => by rw [← hs, if_pos h]; exact wrap64 (by omega)
    have e0 : ¬ a % 32 ≥ 16 → (2 : Int) ^ (a % 16).toNat = 2 ^ (a % 32).toNat := fun h => by rw [← hs, if_neg h]
    generalize hS : (2 : Int) ^ (a % 32).toNat = S at *
    have hq : (4294967296 : Int).tdiv S ≠ 0 ∧ IntKind.i64.wrap ((4294967296 : Int).tdiv S) = 4294967296 / S ∧ (4294967296 : Int) / S ≠ 0 := by
      rw [Int.tdiv_eq_ediv_of_nonneg (by decide)]
      have h1 : (4294967296 : Int) / S ≤ 4294967296 := Int.ediv_le_self _ (by decide)
      have h2 : 1 ≤ (4294967296 : Int) / S := Int.le_ediv_of_mul_le p32.1 (by omega)
      refine ⟨by omega, wrap64 (by omega), by omega⟩
    obtain ⟨q1, q2, q3⟩ := hq
    have fin : ∀ x : Int, x = aluF op imm d a → K (.v (.int .i64 x)) [] := fun x e => e ▸ hp
    clear hp
    rw [r32]
    have dt : d.tmod 65536 = d % 65536 := Int.tmod_eq_emod_of_nonneg d0
    have dq : d.tdiv 65536 = d / 65536 := Int.tdiv_eq_ediv_of_nonneg d0
    have at' : a.tmod 65536 = a % 65536 := Int.tmod_eq_emod_of_nonneg a0
    have dS : d.tdiv S = d / S := Int.tdiv_eq_ediv_of_nonneg d0
    have dS2 : 0 ≤ d / S ∧ d / S ≤ d := ⟨Int.ediv_nonneg d0 (by omega), Int.ediv_le_self _ d0⟩
    have dT : d.tmod (4294967296 / S) = d % (4294967296 / S) := Int.tmod_eq_emod_of_nonneg d0
    have hL := left_half (d := d) (s := (a % 32).toNat) (by omega)
    rw [hS] at hL
    have hm := mul_half (d := d) (a := a)
    refine And.intro (fun h1 => ?_) (fun h1 => ?_)
    all_goals first
      | replace h1 := e16 (of_decide_eq_true h1)
      | replace h1 := e0 (of_decide_eq_false h1)
    all_goals clear e16 e0
    all_goals repeat' ((first
      | refine And.intro (fun h2 => ?_) (fun h2 => ?_)
      | refine And.intro (wrap_I64' _) ?_
      | refine And.intro i0 (And.intro i1 ?_)
      | refine And.intro (by decide) ?_
      | refine And.intro (by rw [h1]; omega) ?_
      | refine And.intro (by rw [h1, q2]; omega) ?_
      | refine fin _ ?_
      | fail) <;> try cases h2)
    all_goals clear fin
    all_goals first
      | (obtain rfl : op = 2 := (by simpa using h2); simp [aluF]; done)
      | (obtain rfl : op = 3 := (by simpa using h2); simp only [aluF, dt]; rw [wrap64 (x := imm * 65536) (by omega), wrap64 (by omega)]; simp; done)
      | (obtain rfl : op = 4 := (by simpa using h2); simp [aluF]; done)
      | (obtain rfl : op = 5 := (by simpa using h2); rw [wrap_mod]; simp [aluF]; done)
      | (obtain rfl : op = 6 := (by simpa using h2); rw [wrap_mod]; simp [aluF]; done)
      | (obtain rfl : op = 7 := (by simpa using h2); rw [wrap_mod]; simp [aluF]; done)
      | (obtain rfl : op = 8 := (by simpa using h2)
         rw [dt, dq, at']
         have b1 : 0 ≤ d % 65536 * a ∧ d % 65536 * a ≤ 65535 * 4294967295 := ⟨Int.mul_nonneg (by omega) a0, Int.mul_le_mul (by omega) (by omega) (by omega) (by omega)⟩
         have b2 : 0 ≤ d / 65536 * (a % 65536) ∧ d / 65536 * (a % 65536) ≤ 65535 * 65535 := ⟨Int.mul_nonneg (by omega) (by omega), Int.mul_le_mul (by omega) (by omega) (by omega) (by omega)⟩
         rw [wrap64 (x := d / 65536) (by omega), wrap64 (x := d % 65536 * a) (by omega), wrap64 (x := d / 65536 * (a % 65536)) (by omega), wrap64 (x := d / 65536 * (a % 65536) * 65536) (by omega), wrap_mod, hm]
         simp [aluF]
         done)
      | (obtain rfl : op = 9 := (by simpa using h2); obtain ⟨x, rfl⟩ := Int.eq_ofNat_of_zero_le d0; obtain ⟨y, rfl⟩ := Int.eq_ofNat_of_zero_le a0; rw [andN x y (by omega) (by omega)]; simp [aluF]; done)
      | (obtain rfl : op = 10 := (by simpa using h2); obtain ⟨x, rfl⟩ := Int.eq_ofNat_of_zero_le d0; obtain ⟨y, rfl⟩ := Int.eq_ofNat_of_zero_le a0; rw [orN x y (by omega) (by omega)]; simp [aluF]; done)
      | (obtain rfl : op = 11 := (by simpa using h2); obtain ⟨x, rfl⟩ := Int.eq_ofNat_of_zero_le d0; obtain ⟨y, rfl⟩ := Int.eq_ofNat_of_zero_le a0; rw [xorN x y (by omega) (by omega)]; simp [aluF]; done)
      | (obtain rfl : op = 12 := (by simpa using h2)
         rw [h1, q2, dT, hL]
         have b1 := Int.emod_nonneg (d * S) (show (4294967296 : Int) ≠ 0 by decide)
         have b2 := Int.emod_lt_of_pos (d * S) (show (0 : Int) < 4294967296 by decide)
         rw [wrap64 (by omega)]
         simp [aluF, hS]
         done)
      | (obtain rfl : op = 13 := (by simp at *; omega)
         rw [h1, dS, wrap64 (by omega)]
         simp [aluF, hS]
         done)
  · exact hp.elim
end Go.Proofs.YtijjonafmmhhbaaGreat.Ab
