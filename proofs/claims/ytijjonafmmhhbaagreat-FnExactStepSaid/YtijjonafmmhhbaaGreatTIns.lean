/- Ins: the law of instructions. No condition. -/
import Derived.Test.YtijjonafmmhhbaaGreatTDecode
import Derived.Test.YtijjonafmmhhbaaGreatTDraw
namespace Go.Proofs.YtijjonafmmhhbaaGreat.Ab

def intC (b : Int) : List AV := [.v (.int .i64 b)]
theorem lit_get {ms : List Int} {j : Nat} (h : j < ms.length) : ∃ m, (ms.map intC)[j]? = some (intC m) := ⟨ms[j], by simp [h]⟩
theorem tmod_nat {k n : Int} (hk : 0 ≤ k) (hn : 0 < n) : ∃ j : Nat, k.tmod n = j ∧ (j : Int) < n := by
  rw [Int.tmod_eq_emod_of_nonneg hk]
  have h1 := Int.emod_nonneg k (show n ≠ 0 by omega)
  have h2 := Int.emod_lt_of_pos k hn
  exact ⟨(k % n).toNat, by omega, by omega⟩
theorem wrap_div {v n : Int} (h0 : 0 ≤ v) (h1 : v ≤ 255) (hn : 0 < n) : 0 ≤ IntKind.i64.wrap (v.tdiv n) ∧ IntKind.i64.wrap (v.tdiv n) ≤ 255 := by
  rw [Int.tdiv_eq_ediv_of_nonneg h0]
  have h2 : 0 ≤ v / n := Int.ediv_nonneg h0 (by omega)
  have h3 : v / n ≤ v := Int.ediv_le_self n h0
  rw [wrap64 (by omega)]
  omega
def hDIns : CH := fun args hl K => match args, hl with
  | [.ptr 0 0 0 _], [.box [.imm t z 1 l, .v (.int .i64 p)]] => ∃ bs, l = bs.map byteC ∧ BytesOk bs ∧ bs.length ≤ 1000 ∧ 0 ≤ p ∧ p ≤ bs.length ∧
      ∀ a b c d q : Int, 0 ≤ q → q ≤ bs.length → K (.agg [.v (.int .i64 a), .v (.int .i64 b), .v (.int .i64 c), .v (.int .i64 d)]) [.box [.imm t z 1 (bs.map byteC), .v (.int .i64 q)]]
  | _, _ => False
def cxDIns : Ctx := mkCut [(24, callM [.rw] false hNext), (103, callM [] false hUses)]
theorem cxDIns_ok : CtxOk Tryz.prog cxDIns := mkCut_ok (mem1 ⟨s_next, fnOk Tryz.func24 rfl rfl⟩ (mem1 ⟨s_l3Uses, fnOk Tryz.func103 rfl rfl⟩ mem0))
def IL (s : Nat) (t z : Bool) (bs : List Int) : List AV → HP → Prop := fun vs h => ∃ a b c d v u q : Int, 0 ≤ v ∧ v ≤ 255 ∧ 0 ≤ q ∧ q ≤ bs.length ∧
  vs = [.ptr 0 0 0 s, .ptr 1 0 0 4, .ptr 2 0 0 4, .v (.int .i64 v), .v (.int .i64 u)] ∧
  h = [.box [.imm t z 1 (bs.map byteC), .v (.int .i64 q)], .box [.v (.int .i64 0), .v (.int .i64 0), .v (.int .i64 0), .v (.int .i64 0)], .box [.v (.int .i64 a), .v (.int .i64 b), .v (.int .i64 c), .v (.int .i64 d)]]
set_option maxRecDepth 100000 in
set_option maxHeartbeats 1000000 in
set_option pp.maxSteps 1500 in
theorem s_l3Ins : HSound Tryz.prog 64 (callM [.rw] false hDIns) := by
  refine callM_sound cxDIns_ok mixed Tryz.func64 rfl fun args hl K hp => ?_
  unfold hDIns at hp
  split at hp
  · rename_i s t z l p
    obtain ⟨bs, rfl, hb, hn, hp0, hp1, hp⟩ := hp
    (refine Exists.intro bs (And.intro rfl (And.intro hb (And.intro hn (And.intro (by first | assumption | omega) (And.intro (by first | assumption | omega) ?_))))); intro k q _ _ _ _)
    refine And.intro (by decide) ?_
    (obtain ⟨j, ej, hj⟩ := tmod_nat (k := k) (n := 25) (by omega) (by decide); refine Exists.intro j (And.intro ej (And.intro (by omega) ?_)); obtain ⟨m, hm⟩ := lit_get (ms := [2, 6, 15, 16, 19, 20, 21, 22, 23, 24, 25, 1, 3, 4, 5, 7, 8, 9, 10, 11, 12, 13, 14, 17, 18]) (j := 0 + j) (by simp; omega); refine Exists.intro (intC m) (And.intro hm (And.intro (by decide) ?_)))
    (refine Exists.intro bs (And.intro rfl (And.intro hb (And.intro hn (And.intro (by first | assumption | omega) (And.intro (by first | assumption | omega) ?_))))); intro v q2 _ _ _ _)
    refine Or.inr (Exists.intro true (Exists.intro [0, 2, 4, 5, 6] (Exists.intro (IL s t z bs) (And.intro ?_ ?_))))
    · repeat' ((first | refine And.intro (fun h1 => ?_) (fun h1 => ?_) | refine And.intro (by decide) ?_ | (refine Exists.intro [] ?_; exact ⟨_, _, _, _, _, _, _, by assumption, by assumption, by assumption, by assumption, rfl, rfl⟩)) <;> try cases h1)
    rintro vs h ⟨a, b, c, d, v, u, q, hv0, hv1, hq0, hq1, rfl, rfl⟩
    refine Or.inr (Exists.intro true (Exists.intro [0, 2, 4, 5, 6] (Exists.intro (IL s t z bs) (And.intro ?_ ?_))))
    · have hv4 := wrap_div (v := v) (n := 4) (by assumption) (by assumption) (by decide)
      repeat' ((first | refine And.intro (fun h1 => ?_) (fun h1 => ?_) | refine And.intro (by decide) ?_ | (refine Exists.intro [] ?_; exact ⟨_, _, _, _, _, _, _, by assumption, by assumption, by assumption, by assumption, rfl, rfl⟩) | (obtain ⟨j, ej, hj⟩ := tmod_nat (k := (IntKind.i64.wrap (v.tdiv 4))) (n := 8) (by omega) (by decide); refine Exists.intro j (And.intro ej (And.intro (by omega) ?_)); obtain ⟨m, hm⟩ := lit_get (ms := [7, 6, 0, 1, 2, 7, 6, 3]) (j := 0 + j) (by simp; omega); refine Exists.intro (intC m) (And.intro hm (And.intro (by decide) ?_)))) <;> try cases h1)
    rintro vs h ⟨a, b, c, d, v, u, q, hv0, hv1, hq0, hq1, rfl, rfl⟩
    refine Or.inr (Exists.intro true (Exists.intro [0, 2, 4, 5, 6] (Exists.intro (IL s t z bs) (And.intro ?_ ?_))))
    · refine And.intro (by decide) ?_
      refine And.intro (fun h1 => ?_) (fun h1 => ?_)
      · (refine Exists.intro bs (And.intro rfl (And.intro hb (And.intro hn (And.intro (by first | assumption | omega) (And.intro (by first | assumption | omega) ?_))))); intro w q3 _ _ _ _)
        refine And.intro (by decide) ?_
        refine Or.inr (Exists.intro true (Exists.intro [0, 2, 4, 5, 6] (Exists.intro (IL s t z bs) (And.intro ?_ ?_))))
        · repeat' ((first | refine And.intro (fun h1 => ?_) (fun h1 => ?_) | refine And.intro (by decide) ?_ | refine Or.inl ?_ | (refine Exists.intro [] ?_; exact ⟨_, _, _, _, _, _, _, by assumption, by assumption, by assumption, by assumption, rfl, rfl⟩)) <;> try cases h1)
        rintro vs h ⟨a, b, c, d, v, u, q, hv0, hv1, hq0, hq1, rfl, rfl⟩
        refine Or.inr (Exists.intro true (Exists.intro [0, 2, 4, 5, 6] (Exists.intro (IL s t z bs) (And.intro ?_ ?_))))
        · repeat' ((first | refine And.intro (fun h1 => ?_) (fun h1 => ?_) | refine And.intro (by decide) ?_ | refine Or.inl ?_ | (refine Exists.intro [] ?_; exact ⟨_, _, _, _, _, _, _, by assumption, by assumption, by assumption, by assumption, rfl, rfl⟩)) <;> try cases h1)
        rintro vs h ⟨a, b, c, d, v, u, q, hv0, hv1, hq0, hq1, rfl, rfl⟩
        refine Or.inr (Exists.intro true (Exists.intro [0, 2, 4, 5, 6] (Exists.intro (IL s t z bs) (And.intro ?_ ?_))))
        · repeat' ((first | refine And.intro (fun h1 => ?_) (fun h1 => ?_) | refine And.intro (by decide) ?_ | refine Or.inl ?_ | (refine Exists.intro [] ?_; exact ⟨_, _, _, _, _, _, _, by assumption, by assumption, by assumption, by assumption, rfl, rfl⟩)) <;> try cases h1)
        rintro vs h ⟨a, b, c, d, v, u, q, hv0, hv1, hq0, hq1, rfl, rfl⟩
        repeat' ((first | refine And.intro (fun h1 => ?_) (fun h1 => ?_) | refine And.intro (by decide) ?_ | refine Or.inl ?_ | (refine Exists.intro [] ?_; exact ⟨_, _, _, _, _, _, _, by assumption, by assumption, by assumption, by assumption, rfl, rfl⟩)) <;> try cases h1)
      · (refine Exists.intro [] ?_; exact ⟨_, _, _, _, _, _, _, by assumption, by assumption, by assumption, by assumption, rfl, rfl⟩)
    rintro vs h ⟨a, b, c, d, v, u, q, hv0, hv1, hq0, hq1, rfl, rfl⟩
    exact hp _ _ _ _ _ hq0 hq1
  · exact hp.elim

def hPow : CH := fun args hl K => match args, hl with
  | [.v (.int .i64 n)], [] => 0 ≤ n ∧ n ≤ 1000 ∧ ∀ x : Int, K (.v (.int .i64 x)) []
  | _, _ => False
set_option maxRecDepth 100000 in
theorem s_l2Power : HSound Tryz.prog 66 (callM [] false hPow) := by
  refine callM_sound cx0_ok mixed Tryz.func66 rfl fun args hl K hp => ?_
  unfold hPow at hp
  split at hp
  · rename_i n
    obtain ⟨h0, h1, hp⟩ := hp
    obtain ⟨n, rfl⟩ := Int.eq_ofNat_of_zero_le h0
    refine Exists.intro false (Exists.intro [0, 3, 4] (Exists.intro (fun m vs h => ∃ i : Nat, ∃ x : Int, i ≤ n ∧ m = n - i ∧ vs = [.v (.int .i64 n), .v (.int .i64 x), .v (.int .i64 i)] ∧ h = []) (And.intro ?_ ?_)))
    · exact Exists.intro n ⟨0, 1, by omega, rfl, rfl, rfl⟩
    · rintro m vs h ⟨i, x, hi, rfl, rfl, rfl⟩
      refine And.intro (fun h2 => ?_) (fun h2 => ?_)
      · have h2 : i < n := by simpa using h2
        refine Exists.intro (n - (i + 1)) (And.intro (by omega) ?_)
        refine ⟨i + 1, IntKind.i64.wrap (x * 2), by omega, rfl, ?_, rfl⟩
        rw [← wrap_succ h2 (by omega)]
      · exact hp x
  · exact hp.elim

def hDEnc : CH := fun args hl K => match args, hl with
  | [.imm _ _ 1 l], [] => ∃ bs, l = bs.map byteC ∧ BytesOk bs ∧ bs.length ≤ maxLen ∧ ∀ a b c d : Int, K (.agg [.v (.int .i64 a), .v (.int .i64 b), .v (.int .i64 c), .v (.int .i64 d)]) []
  | _, _ => False
def cxDEnc : Ctx := mkC [(23, callM [] false hOpen), (24, callM [.rw] false hNext), (64, callM [.rw] false hDIns)]
theorem cxDEnc_ok : CtxOk Tryz.prog cxDEnc := mkC_ok (mem1 ⟨s_l1Open, fnOk Tryz.func23 rfl rfl⟩ (mem1 ⟨s_next, fnOk Tryz.func24 rfl rfl⟩ (mem1 ⟨s_l3Ins, fnOk Tryz.func64 rfl rfl⟩ mem0)))
def hDWord : CH := fun args hl K => match args, hl with
  | [.ptr 0 0 0 _], [.box [.imm t z 1 l, .v (.int .i64 p)]] => ∃ bs, l = bs.map byteC ∧ BytesOk bs ∧ bs.length ≤ 1000 ∧ 0 ≤ p ∧ p ≤ bs.length ∧
      ∀ a q : Int, 0 ≤ q → q ≤ bs.length → K (.v (.int .i64 a)) [.box [.imm t z 1 (bs.map byteC), .v (.int .i64 q)]]
  | _, _ => False
def cxDRnd : Ctx := mkC [(64, callM [.rw] false hDIns), (63, callM [] false hEnc)]
theorem cxDRnd_ok : CtxOk Tryz.prog cxDRnd := mkC_ok (mem1 ⟨s_l3Ins, fnOk Tryz.func64 rfl rfl⟩ (mem1 ⟨s_spec_Encode, fnOk Tryz.func63 rfl rfl⟩ mem0))
set_option maxRecDepth 100000 in
theorem s_l3Random : HSound Tryz.prog 26 (callM [.rw] false hDWord) := by
  refine callM_sound cxDRnd_ok mixed Tryz.func26 rfl fun args hl K hp => ?_
  unfold hDWord at hp
  split at hp
  · rename_i s t z l p
    obtain ⟨bs, rfl, hb, hn, hp0, hp1, hp⟩ := hp
    refine Exists.intro bs (And.intro rfl (And.intro hb (And.intro hn (And.intro hp0 (And.intro hp1 ?_)))))
    intro a b c d q hq0 hq1
    exact hp _ _ hq0 hq1
  · exact hp.elim

theorem tm16 {w : Int} (h : 0 ≤ w) : 0 ≤ w.tmod 16 ∧ w.tmod 16 ≤ 1000 := by rw [Int.tmod_eq_emod_of_nonneg h]; omega
def hDDec : CH := fun args hl K => match args, hl with
  | [.imm _ _ 1 l], [] => ∃ bs, l = bs.map byteC ∧ BytesOk bs ∧ bs.length ≤ maxLen ∧ ∀ a : Int, K (.v (.int .i64 a)) []
  | _, _ => False
def cxDDec : Ctx := mkC [(23, callM [] false hOpen), (24, callM [.rw] false hNext), (26, callM [.rw] false hDWord), (66, callM [] false hPow)]
theorem cxDDec_ok : CtxOk Tryz.prog cxDDec := mkC_ok (mem1 ⟨s_l1Open, fnOk Tryz.func23 rfl rfl⟩ (mem1 ⟨s_next, fnOk Tryz.func24 rfl rfl⟩ (mem1 ⟨s_l3Random, fnOk Tryz.func26 rfl rfl⟩
  (mem1 ⟨s_l2Power, fnOk Tryz.func66 rfl rfl⟩ mem0))))
theorem dec_enc {a b c d : Int} (h : insOk a b c d = true) : decOk (encV a b c d) = true ∧ encV a b c d / 67108864 = a ∧ encV a b c d / 8388608 % 8 = b ∧ encV a b c d / 1048576 % 8 = c ∧ encV a b c d % 65536 = d := by
  have hb := insOk_bounds h
  have e : encV a b c d = a * 67108864 + b * 8388608 + c * 1048576 + d := by simp [encV, h]
  rw [e]
  have e1 : (a * 67108864 + b * 8388608 + c * 1048576 + d) / 67108864 = a := by omega
  have e2 : (a * 67108864 + b * 8388608 + c * 1048576 + d) / 8388608 % 8 = b := by omega
  have e3 : (a * 67108864 + b * 8388608 + c * 1048576 + d) / 1048576 % 8 = c := by omega
  have e4 : (a * 67108864 + b * 8388608 + c * 1048576 + d) % 65536 = d := by omega
  refine ⟨?_, e1, e2, e3, e4⟩
  simp only [decOk, e1, e2, e3, e4, h, Bool.and_true, decide_eq_true_eq]
  omega
theorem enc_dec {w : Int} (h : decOk w = true) : insOk (w / 67108864) (w / 8388608 % 8) (w / 1048576 % 8) (w % 65536) = true ∧ encV (w / 67108864) (w / 8388608 % 8) (w / 1048576 % 8) (w % 65536) = w := by
  simp only [decOk, Bool.and_eq_true, decide_eq_true_eq] at h
  refine ⟨h.2, ?_⟩
  simp only [encV, h.2, if_true]
  omega
theorem fin_t {y : Bool} (e : y = true) : AV.v (.bool y) = AV.v (.bool true) := by rw [e]
end Go.Proofs.YtijjonafmmhhbaaGreat.Ab
