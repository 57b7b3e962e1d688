/- Step of impl: its core's making and its face, fetch. No condition. -/
import Derived.Test.YtijjonafmmhhbaaGreatTStepO2
namespace Go.Proofs.YtijjonafmmhhbaaGreat.Ab
set_option linter.unusedVariables false
set_option linter.unusedSimpArgs false

def cx_s_CloneI : Ctx := mkC []
theorem cx_s_CloneI_ok : CtxOk Tryz.prog cx_s_CloneI := cx0_ok
set_option maxRecDepth 100000 in
set_option pp.maxSteps 1500 in
theorem s_CloneI : HSound Tryz.prog 46 (callM [] true hToInt) := by
  refine callM_sound cx_s_CloneI_ok mixed Tryz.func46 rfl fun args hl K hp => ?_
  unfold hToInt at hp
  split at hp
  · rename_i t z l
    obtain ⟨bs, rfl, hb, hp⟩ := hp
    refine Or.inl ?_
    refine And.intro (fun h0 => ?_) ?_
    · refine And.intro (fun _ => ?_) (fun h1 => by cases h1)
      refine Or.inr ?_
      have : bs = [] := by simpa using h0
      subst this
      refine And.intro closed_nil ?_
      exact hp
    · refine And.intro (fun h1 => by cases h1) (fun _ => ?_)
      repeat' (first
        | refine And.intro (closed_Int bs) ?_
        | refine And.intro (int_notSl bs) ?_
        | refine And.intro rfl ?_
        | refine And.intro (by simp; omega) ?_)
      have e : ([] : List (List AV)).length + (bs.map intC).length = bs.length := by simp
      rw [← e] at hp
      exact hp
  · exact hp.elim
def hFace : CH := fun args hl K => match args, hl with
  | [.agg [.v (.int .i64 pc), .v (.int .i64 a), .v (.int .i64 b), .v (.int .i64 c), .v (.int .i64 d), .v (.int .i64 e), .v (.int .i64 f), .v (.int .i64 g), .v (.int .i64 h)]], [] => K (.agg [.v (.int .i64 pc), .slc 0 0 8 false]) [.lst 1 ([a, b, c, d, e, f, g, h].map intC)]
  | _, _ => False
def cx_s_face : Ctx := mkC [(46, callM [] true hToInt)]
theorem cx_s_face_ok : CtxOk Tryz.prog cx_s_face := mkC_ok (mem1 ⟨s_CloneI, fnOk Tryz.func46 rfl rfl⟩ mem0)
set_option maxRecDepth 100000 in
set_option pp.maxSteps 1500 in
theorem s_face : HSound Tryz.prog 49 (callM [] true hFace) := by
  refine callM_sound cx_s_face_ok mixed Tryz.func49 rfl fun args hl K hp => ?_
  unfold hFace at hp
  split at hp
  · rename_i pc a b c d e f g h
    repeat' (first
      | (refine Exists.intro [a, b, c, d, e, f, g, h] (And.intro rfl (And.intro (by simp) ?_)); exact And.intro rfl rfl)
      | (apply HeldF.intro; refine And.intro (by decide) (And.intro (by decide) (And.intro (by decide) ?_)); exact And.intro rfl rfl)
      | refine And.intro (show wfB _ = true from by kernel_rfl) ?_ | refine And.intro (And.intro rfl rfl) ?_ | exact And.intro rfl rfl | apply HeldC.intro | exact AV.top | (apply HeldF.intro; refine Exists.intro _ (And.intro (by assumption) ?_); refine And.intro (by decide) ?_; exact And.intro rfl rfl) | (refine And.intro (by (refine Exists.intro _ (And.intro (by assumption) ?_); refine And.intro (by decide) ?_; exact And.intro rfl rfl)) ?_) | refine Or.inl ?_
      | fail)
    refine And.intro (closed_Int [a, b, c, d, e, f, g, h]) ?_
    exact hp
  · exact hp.elim
def hCoreOf : CH := fun args hl K => match args, hl with
  | [.agg [.v (.int .i64 pc), .imm _ _ 1 R]], [] => ∃ rs : List Int, R = rs.map intC ∧ rs.length ≤ 1048576 ∧
      (coreOk pc rs = false → K (.tup [.agg [.v (.int .i64 0), .v (.int .i64 0), .v (.int .i64 0), .v (.int .i64 0), .v (.int .i64 0), .v (.int .i64 0), .v (.int .i64 0), .v (.int .i64 0), .v (.int .i64 0)], .v (.bool false)]) []) ∧
      (coreOk pc rs = true → ∀ a b c d e f g h : Int, rs = [a, b, c, d, e, f, g, h] → K (.tup [.agg [.v (.int .i64 pc), .v (.int .i64 a), .v (.int .i64 b), .v (.int .i64 c), .v (.int .i64 d), .v (.int .i64 e), .v (.int .i64 f), .v (.int .i64 g), .v (.int .i64 h)], .v (.bool true)]) [])
  | _, _ => False
theorem eight {rs : List Int} (h : rs.length = 8) : ∃ a b c d e f g k : Int, rs = [a, b, c, d, e, f, g, k] := by
  match rs, h with
  | [a, b, c, d, e, f, g, k], _ => exact ⟨a, b, c, d, e, f, g, k, rfl⟩
def cx_s_coreOf : Ctx := mkC [(77, callM [] false hWord)]
theorem cx_s_coreOf_ok : CtxOk Tryz.prog cx_s_coreOf := mkC_ok (mem1 ⟨s_isWord, fnOk Tryz.func77 rfl rfl⟩ mem0)
set_option maxRecDepth 100000 in
set_option pp.maxSteps 1500 in
set_option maxHeartbeats 4000000 in
theorem s_coreOf : HSound Tryz.prog 44 (callM [] true hCoreOf) := by
  refine callM_sound cx_s_coreOf_ok mixed Tryz.func44 rfl fun args hl K hp => ?_
  unfold hCoreOf at hp
  split at hp
  · rename_i pc t z R
    obtain ⟨rs, rfl, hl, hp, hp2⟩ := hp
    repeat' ((first
      | refine And.intro (fun h1 => ?_) (fun h1 => ?_)
      | fail) <;> try cases h1)
    · have h1 : coreOk pc rs = false := by
        have : ¬ (0 ≤ pc ∧ pc ≤ 4294967295) := by simp at h1; omega
        simp only [coreOk, wordB, decide_eq_false this, Bool.false_and]
      exact hp h1
    · have h1 : coreOk pc rs = false := by
        have : ¬ rs.length = 8 := by simp at h1; omega
        simp only [coreOk, decide_eq_false this, Bool.false_and, Bool.and_false]
      exact hp h1
    · rename_i q1
      have q1 : 0 ≤ pc ∧ pc ≤ 4294967295 := by simpa using q1
      have h8 : rs.length = 8 := by simp at h1; omega
      have e : coreOk pc rs = rs.all wordB := by simp only [coreOk, wordB, decide_eq_true q1, decide_eq_true h8, Bool.true_and]
      rw [e] at hp hp2
      refine Exists.intro false (Exists.intro [1, 2, 18, 19, 20] (Exists.intro (fun n vs h => ∃ i : Nat, i ≤ 8 ∧ n = 8 - i ∧ (rs.take i).all wordB = true ∧ vs = [.ptr 0 0 0 2, .ptr 1 0 0 9, .imm t z 1 (rs.map intC), .v (.int .i64 8), .v (.int .i64 i)] ∧
        h = [.box [.v (.int .i64 pc), .imm t z 1 (rs.map intC)], .box [.v (.int .i64 0), .v (.int .i64 0), .v (.int .i64 0), .v (.int .i64 0), .v (.int .i64 0), .v (.int .i64 0), .v (.int .i64 0), .v (.int .i64 0), .v (.int .i64 0)]]) (And.intro ?_ ?_)))
      · refine Exists.intro 8 ?_
        exact ⟨0, by omega, rfl, rfl, by simp [h8], rfl⟩
      · intro n vs h hI
        obtain ⟨i, hi, rfl, hall, rfl, rfl⟩ := hI
        refine And.intro (fun h2 => ?_) (fun h2 => ?_)
        · have h2 := of_decide_eq_true h2
          have hlt : i < rs.length := by omega
          obtain ⟨b, hbi⟩ : ∃ b, rs[i]? = some b := ⟨_, List.getElem?_eq_getElem hlt⟩
          refine Exists.intro i (And.intro rfl (Exists.intro (intC b) (And.intro (get_map hbi) ?_)))
          refine And.intro (fun h3 => ?_) (fun h3 => ?_)
          · exact hp (allF hbi (by simp at h3; simp [wordB]; omega))
          · refine Exists.intro (8 - (i + 1)) (And.intro (by omega) ⟨i + 1, by omega, rfl, allT hbi hall (by simp at h3; simp [wordB]; omega), ?_, rfl⟩)
            rw [wrap_succ (n := 8) (by omega) (by omega)]
        · have h2 := of_decide_eq_false h2
          rw [List.take_of_length_le (by omega)] at hall
          obtain ⟨a, b, c, d, e', f, g, k, rfl⟩ := eight h8
          have hp2 := hp2 hall a b c d e' f g k rfl
          refine Or.inl ?_
          refine And.intro (show wfB _ = true from by kernel_rfl) ?_
          repeat' (first
            | (refine Exists.intro [.v (.int .i64 a), .v (.int .i64 b), .v (.int .i64 c), .v (.int .i64 d), .v (.int .i64 e'), .v (.int .i64 f), .v (.int .i64 g), .v (.int .i64 k)] (And.intro rfl (And.intro rfl (And.intro (by simp) (And.intro (by decide) ?_)))); exact And.intro rfl rfl)
            | refine And.intro (show wfB _ = true from by kernel_rfl) ?_ | refine And.intro (And.intro rfl rfl) ?_ | exact And.intro rfl rfl | apply HeldC.intro | exact AV.top | (apply HeldF.intro; refine Exists.intro _ (And.intro (by assumption) ?_); refine And.intro (by decide) ?_; exact And.intro rfl rfl) | (refine And.intro (by (refine Exists.intro _ (And.intro (by assumption) ?_); refine And.intro (by decide) ?_; exact And.intro rfl rfl)) ?_) | refine Or.inl ?_
            | fail)
          exact hp2
  · exact hp.elim
def fltF (f r o : List Int) (rs : List Rg) (pc : Int) : Int := if allowB rs pc 4 3 = false then 5 else if (readR f r o pc 4).2 ≠ 0 then (readR f r o pc 4).2 else if decOk (readR f r o pc 4).1 = false then 6 else 0
def insV (f r o : List Int) (rs : List Rg) (pc x : Int) : Int := if fltF f r o rs pc = 0 then x else 0
def hFetch : CH := fun args hl K => match args, hl with
  | [.agg [.ptr 0 0 0 _, .imm _ _ 6 L], .v (.int .i64 pc)], [.box [.sl 1 x, .sl 1 y, .sl 1 z]] => ∃ (f r o : List Int) (rs : List Rg), x = f.map byteC ∧ y = r.map byteC ∧ z = o.map byteC ∧ L = rs.map regC ∧ BytesOk f ∧ BytesOk r ∧ memOk f.length r.length o.length = true ∧ I64 pc ∧ rs.length ≤ 1048576 ∧
      K (.tup [.agg [.v (.int .i64 (insV f r o rs pc ((readR f r o pc 4).1 / 67108864))), .v (.int .i64 (insV f r o rs pc ((readR f r o pc 4).1 / 8388608 % 8))), .v (.int .i64 (insV f r o rs pc ((readR f r o pc 4).1 / 1048576 % 8))), .v (.int .i64 (insV f r o rs pc ((readR f r o pc 4).1 % 65536)))], .v (.int .i64 (fltF f r o rs pc))]) [.box [.sl 1 (f.map byteC), .sl 1 (r.map byteC), .sl 1 (o.map byteC)]]
  | _, _ => False
theorem fin_f {K : AV → HP → Prop} {h : HP} {f r o : List Int} {rs : List Rg} {pc w a b c d e : Int} (hp : K (.tup [.agg [.v (.int .i64 (insV f r o rs pc (w / 67108864))), .v (.int .i64 (insV f r o rs pc (w / 8388608 % 8))), .v (.int .i64 (insV f r o rs pc (w / 1048576 % 8))), .v (.int .i64 (insV f r o rs pc (w % 65536)))], .v (.int .i64 (fltF f r o rs pc))]) h)
    (e0 : fltF f r o rs pc = e) (e1 : insV f r o rs pc (w / 67108864) = a) (e2 : insV f r o rs pc (w / 8388608 % 8) = b) (e3 : insV f r o rs pc (w / 1048576 % 8) = c) (e4 : insV f r o rs pc (w % 65536) = d) : K (.tup [.agg [.v (.int .i64 a), .v (.int .i64 b), .v (.int .i64 c), .v (.int .i64 d)], .v (.int .i64 e)]) h := by
  subst e0 e1 e2 e3 e4
  exact hp
def cx_s_fetch : Ctx := mkC [(114, callM [] true hAllow), (115, callM [.rw] true hMRd), (116, callM [] false hDec)]
theorem cx_s_fetch_ok : CtxOk Tryz.prog cx_s_fetch := mkC_ok (mem1 ⟨s_impl_Allowed, fnOk Tryz.func114 rfl rfl⟩ (mem1 ⟨s_mRead, fnOk Tryz.func115 rfl rfl⟩ (mem1 ⟨s_impl_Decode, fnOk Tryz.func116 rfl rfl⟩ mem0)))
set_option maxRecDepth 100000 in
set_option pp.maxSteps 1500 in
set_option maxHeartbeats 8000000 in
theorem s_fetch : HSound Tryz.prog 102 (callM [.ag [.rw, .ro], .ro] true hFetch) := by
  refine callM_sound cx_s_fetch_ok mixed Tryz.func102 rfl fun args hl K hp => ?_
  unfold hFetch at hp
  split at hp
  · rename_i _ _ _ L pc x y z
    obtain ⟨f, r, o, rs, rfl, rfl, rfl, rfl, bf, br_, m0, ipc, lrs, hp⟩ := hp
    refine Exists.intro rs (And.intro rfl (And.intro ipc (And.intro lrs ?_)))
    refine And.intro (fun h1 => ?_) (fun h1 => ?_)
    · have h1 : allowB rs pc 4 3 = false := by simpa using h1
      have e : fltF f r o rs pc = 5 := if_pos h1
      have e' : ∀ v, insV f r o rs pc v = 0 := fun v => if_neg (by rw [e]; decide)
      repeat' (first
        | refine Exists.intro _ (And.intro List.take_length (And.intro rfl (And.intro (closed_bytes _) ?_)))
        | fail)
      exact fin_f hp e (e' _) (e' _) (e' _) (e' _)
    · have h1 : allowB rs pc 4 3 = true := by simpa using h1
      refine Exists.intro f (Exists.intro r (Exists.intro o (And.intro rfl (And.intro rfl (And.intro rfl (And.intro bf (And.intro br_ (And.intro m0 (And.intro (by decide) (And.intro ipc ?_))))))))))
      refine And.intro (fun h2 => ?_) (fun h2 => ?_)
      · have h2 : (readR f r o pc 4).2 ≠ 0 := by simpa using h2
        have e : fltF f r o rs pc = (readR f r o pc 4).2 := by unfold fltF; rw [if_neg (by simp [h1]), if_pos h2]
        have e' : ∀ v, insV f r o rs pc v = 0 := fun v => if_neg (by rw [e]; exact h2)
        repeat' (first
          | refine Exists.intro _ (And.intro List.take_length (And.intro rfl (And.intro (closed_bytes _) ?_)))
          | fail)
        exact fin_f hp e (e' _) (e' _) (e' _) (e' _)
      · have h2 : (readR f r o pc 4).2 = 0 := by simpa using h2
        refine And.intro (fun h3 => ?_) (fun h3 => ?_)
        · have h3 : decOk (readR f r o pc 4).1 = false := by simpa using h3
          have e : fltF f r o rs pc = 6 := by unfold fltF; rw [if_neg (by simp [h1]), if_neg (by simp [h2]), if_pos h3]
          have e' : ∀ v, insV f r o rs pc v = 0 := fun v => if_neg (by rw [e]; decide)
          repeat' (first
            | refine Exists.intro _ (And.intro List.take_length (And.intro rfl (And.intro (closed_bytes _) ?_)))
            | fail)
          exact fin_f hp e (e' _) (e' _) (e' _) (e' _)
        · have h3 : decOk (readR f r o pc 4).1 = true := by simpa using h3
          have e : fltF f r o rs pc = 0 := by unfold fltF; rw [if_neg (by simp [h1]), if_neg (by simp [h2]), if_neg (by simp [h3])]
          have e' : ∀ v, insV f r o rs pc v = decV (readR f r o pc 4).1 v := fun v => by unfold insV decV; rw [if_pos e, h3, if_pos rfl]
          repeat' (first
            | refine Exists.intro _ (And.intro List.take_length (And.intro rfl (And.intro (closed_bytes _) ?_)))
            | fail)
          exact fin_f hp e (e' _) (e' _) (e' _) (e' _)
  · exact hp.elim
end Go.Proofs.YtijjonafmmhhbaaGreat.Ab
