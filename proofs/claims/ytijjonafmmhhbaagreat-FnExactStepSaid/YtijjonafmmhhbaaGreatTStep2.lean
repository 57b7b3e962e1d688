/- Step of spec. No condition. -/
import Derived.Test.YtijjonafmmhhbaaGreatTStepD
namespace Go.Proofs.YtijjonafmmhhbaaGreat.Ab
set_option linter.unusedVariables false
set_option linter.unusedSimpArgs false

def cx_iMemory : Ctx := mkC [(42, callM [] false hWide), (37, callM [] false hModW), (34, callM [] true hAllow), (75, callM [] true hWrite), (35, callM [] true hRead)]
theorem cx_iMemory_ok : CtxOk Tryz.prog cx_iMemory := mkC_ok (mem1 ⟨s_l3Wide, fnOk Tryz.func42 rfl rfl⟩ (mem1 ⟨s_l1Word, fnOk Tryz.func37 rfl rfl⟩ (mem1 ⟨s_spec_Allowed, fnOk Tryz.func34 rfl rfl⟩ (mem1 ⟨s_spec_Write, fnOk Tryz.func75 rfl rfl⟩ (mem1 ⟨s_spec_Read, fnOk Tryz.func35 rfl rfl⟩ mem0)))))
def iMemory : Handler := inlH cx_iMemory Tryz.f39.ntmps Tryz.f39.results.toList (Tryz.f39.body.getD .skip)
theorem s_iMemory : HSound Tryz.prog 39 iMemory := inlF cx_iMemory_ok mixed Tryz.func39 rfl
def cx_s_spec_Step : Ctx := mkC [(30, callM [] true hToCore), (31, callM [] true hToM), (32, callM [] true hCoreOk), (33, callM [] true hMemOk), (34, callM [] true hAllow), (35, callM [] true hRead), (36, callM [] false hDec), (37, callM [] false hModW), (38, callM [] false hEvent), (39, iMemory), (40, callM [] false hAlu), (41, callM [] false hJumps), (42, callM [] false hWide)]
theorem cx_s_spec_Step_ok : CtxOk Tryz.prog cx_s_spec_Step := mkC_ok (mem1 ⟨s_l3Core, fnOk Tryz.func30 rfl rfl⟩ (mem1 ⟨s_l1Copy, fnOk Tryz.func31 rfl rfl⟩ (mem1 ⟨s_l3CoreOk, fnOk Tryz.func32 rfl rfl⟩ (mem1 ⟨s_spec_MemOk, fnOk Tryz.func33 rfl rfl⟩ (mem1 ⟨s_spec_Allowed, fnOk Tryz.func34 rfl rfl⟩ (mem1 ⟨s_spec_Read, fnOk Tryz.func35 rfl rfl⟩ (mem1 ⟨s_spec_Decode, fnOk Tryz.func36 rfl rfl⟩ (mem1 ⟨s_l1Word, fnOk Tryz.func37 rfl rfl⟩ (mem1 ⟨s_l3Event, fnOk Tryz.func38 rfl rfl⟩ (mem1 ⟨s_iMemory, fnOk Tryz.func39 rfl rfl⟩ (mem1 ⟨s_l3Alu, fnOk Tryz.func40 rfl rfl⟩ (mem1 ⟨s_l3Jumps, fnOk Tryz.func41 rfl rfl⟩ (mem1 ⟨s_l3Wide, fnOk Tryz.func42 rfl rfl⟩ mem0)))))))))))))
set_option maxRecDepth 100000 in
set_option pp.maxSteps 1500 in
set_option maxHeartbeats 16000000 in
theorem s_spec_Step : HSound Tryz.prog 6 (callM [] true hStep) := by
  refine callM_sound cx_s_spec_Step_ok mixed Tryz.func6 rfl fun args hl K hp => ?_
  unfold hStep at hp
  split at hp
  · rename_i pc _ _ R _ _ x _ _ y _ _ z b6 z6 L
    obtain ⟨regs, f, r, o, rs, rfl, rfl, rfl, rfl, rfl, ipc, bf, br_, bo, lr, lf, lrr, lo, lrs, hp⟩ := hp
    refine Exists.intro regs (And.intro rfl (And.intro lr ?_))
    refine Exists.intro f (Exists.intro r (Exists.intro o (And.intro rfl (And.intro rfl (And.intro rfl (And.intro lf (And.intro lrr (And.intro lo ?_))))))))
    refine Exists.intro regs (And.intro rfl (And.intro lr ?_))
    simp only [I64] at ipc
    refine And.intro (fun h1 => ?_) (fun h1 => ?_)
    · have h1 : coreOk pc regs = false := by simpa using h1
      refine And.intro (fun h2 => ?_) (fun h2 => by cases h2)
      refine And.intro (fun h3 => ?_) (fun h3 => by cases h3)
      rw [show stepF pc regs f r o rs = ⟨pc, regs, f, r, o, 5, 2⟩ from if_pos (by rw [h1, Bool.false_and])] at hp
      repeat' (first | refine And.intro (show wfB _ = true from by kernel_rfl) ?_ | refine And.intro (And.intro rfl rfl) ?_ | exact And.intro rfl rfl | apply HeldC.intro | exact AV.top | refine And.intro (closed_Int _) ?_ | refine And.intro (closed_bytes _) ?_ | refine Or.inl ?_ | fail)
      exact hp
    have hc : coreOk pc regs = true := by simpa using h1
    refine And.intro (fun h2 => by cases h2) (fun h2 => ?_)
    refine And.intro (fun h3 => ?_) (fun h3 => ?_)
    · have h3 : memOk f.length r.length o.length = false := by simpa using h3
      rw [show stepF pc regs f r o rs = ⟨pc, regs, f, r, o, 5, 2⟩ from if_pos (by rw [h3, Bool.and_false])] at hp
      repeat' (first | refine And.intro (show wfB _ = true from by kernel_rfl) ?_ | refine And.intro (And.intro rfl rfl) ?_ | exact And.intro rfl rfl | apply HeldC.intro | exact AV.top | refine And.intro (closed_Int _) ?_ | refine And.intro (closed_bytes _) ?_ | refine Or.inl ?_ | fail)
      exact hp
    have hm : memOk f.length r.length o.length = true := by simpa using h3
    clear h1 h2 h3
    have n1 : ¬ (coreOk pc regs && memOk f.length r.length o.length) = false := by rw [hc, hm]; decide
    refine Exists.intro rs (And.intro rfl (And.intro ipc (And.intro lrs ?_)))
    refine And.intro (fun h1 => ?_) (fun h1 => ?_)
    · have h1 : allowB rs pc 4 3 = false := by simpa using h1
      rw [show stepF pc regs f r o rs = ⟨pc, regs, f, r, o, 5, 5⟩ from by unfold stepF; rw [if_neg n1, if_pos h1]] at hp
      repeat' (first | refine And.intro (show wfB _ = true from by kernel_rfl) ?_ | refine And.intro (And.intro rfl rfl) ?_ | exact And.intro rfl rfl | apply HeldC.intro | exact AV.top | refine And.intro (closed_Int _) ?_ | refine And.intro (closed_bytes _) ?_ | refine Or.inl ?_ | fail)
      exact hp
    have n2 : ¬ allowB rs pc 4 3 = false := by simpa using h1
    clear h1
    refine Exists.intro f (Exists.intro r (Exists.intro o (And.intro rfl (And.intro rfl (And.intro rfl (And.intro bf (And.intro br_ (And.intro (by omega) (And.intro (by omega) ?_)))))))))
    have e3 : stepF pc regs f r o rs = if (readR f r o pc 4).2 ≠ 0 then ⟨pc, regs, f, r, o, 5, (readR f r o pc 4).2⟩
        else if decOk (readR f r o pc 4).1 = false then ⟨pc, regs, f, r, o, 5, 6⟩
        else execF ((readR f r o pc 4).1 / 67108864) ((readR f r o pc 4).1 / 8388608 % 8) ((readR f r o pc 4).1 / 1048576 % 8) ((readR f r o pc 4).1 % 65536) pc ((pc + 4) % 4294967296) regs f r o rs := by
      unfold stepF; rw [if_neg n1, if_neg n2]
    generalize readR f r o pc 4 = W at *
    obtain ⟨w, fl⟩ := W
    simp only at e3 ⊢
    refine And.intro (fun h1 => ?_) (fun h1 => ?_)
    · have h1 : fl ≠ 0 := by simpa using h1
      rw [show stepF pc regs f r o rs = ⟨pc, regs, f, r, o, 5, fl⟩ from by rw [e3, if_pos h1]] at hp
      repeat' (first | refine And.intro (show wfB _ = true from by kernel_rfl) ?_ | refine And.intro (And.intro rfl rfl) ?_ | exact And.intro rfl rfl | apply HeldC.intro | exact AV.top | refine And.intro (closed_Int _) ?_ | refine And.intro (closed_bytes _) ?_ | refine Or.inl ?_ | fail)
      exact hp
    have h1 : ¬ fl ≠ 0 := by simpa using h1
    rw [if_neg h1] at e3
    clear h1 n2
    refine And.intro (fun h1 => ?_) (fun h1 => ?_)
    · have h1 : decOk w = false := by simpa using h1
      rw [show stepF pc regs f r o rs = ⟨pc, regs, f, r, o, 5, 6⟩ from by rw [e3, if_pos h1]] at hp
      repeat' (first | refine And.intro (show wfB _ = true from by kernel_rfl) ?_ | refine And.intro (And.intro rfl rfl) ?_ | exact And.intro rfl rfl | apply HeldC.intro | exact AV.top | refine And.intro (closed_Int _) ?_ | refine And.intro (closed_bytes _) ?_ | refine Or.inl ?_ | fail)
      exact hp
    have hd : decOk w = true := by simpa using h1
    rw [if_neg (by rw [hd]; decide)] at e3
    have v1 : ∀ x, decV w x = x := fun x => if_pos hd
    simp only [v1]
    simp only [decOk, Bool.and_eq_true, decide_eq_true_eq, insOk] at hd
    obtain ⟨hw, hi⟩ := hd
    have hU : 0 ≤ l3U (w / 67108864) := hi.1
    have o0 : 0 ≤ w / 67108864 := by omega
    have hD : 0 ≤ w / 8388608 % 8 ∧ w / 8388608 % 8 ≤ 7 := by omega
    have hA : 0 ≤ w / 1048576 % 8 ∧ w / 1048576 % 8 ≤ 7 := by omega
    have hI : 0 ≤ w % 65536 ∧ w % 65536 ≤ 65535 := by omega
    generalize w / 67108864 = op at *
    generalize w / 8388608 % 8 = d at *
    generalize w / 1048576 % 8 = a at *
    generalize w % 65536 = imm at *
    clear hi hw v1
    have hcw := hc
    simp only [coreOk, Bool.and_eq_true, decide_eq_true_eq, wordB] at hcw
    obtain ⟨⟨hpc, h8⟩, hall⟩ := hcw
    obtain ⟨A, rfl⟩ := Int.eq_ofNat_of_zero_le hA.1
    obtain ⟨D, rfl⟩ := Int.eq_ofNat_of_zero_le hD.1
    have hAl : A < regs.length := by omega
    have hDl : D < regs.length := by omega
    have gA : (regs.map intC)[0 + A]? = some (intC regs[A]) := by rw [Nat.zero_add]; exact get_map (List.getElem?_eq_getElem hAl)
    have gD : (regs.map intC)[0 + D]? = some (intC regs[D]) := by rw [Nat.zero_add]; exact get_map (List.getElem?_eq_getElem hDl)
    have gA' : (regs.map intC)[A]? = some (intC regs[A]) := get_map (List.getElem?_eq_getElem hAl)
    have gD' : (regs.map intC)[D]? = some (intC regs[D]) := get_map (List.getElem?_eq_getElem hDl)
    have kA : regs.getD (A : Int).toNat 0 = regs[A] := by simp [List.getD_eq_getElem?_getD, hAl]
    have kD : regs.getD (D : Int).toNat 0 = regs[D] := by simp [List.getD_eq_getElem?_getD, hDl]
    have wA : 0 ≤ regs[A] ∧ regs[A] ≤ 4294967295 := by simpa [wordB] using List.all_eq_true.1 hall _ (List.getElem_mem hAl)
    have wD : 0 ≤ regs[D] ∧ regs[D] ≤ 4294967295 := by simpa [wordB] using List.all_eq_true.1 hall _ (List.getElem_mem hDl)
    generalize regs[A] = va at *
    generalize regs[D] = vd at *
    have hwI := wide_bd hI.1 hI.2
    refine And.intro (wrap_I64' _) ?_
    rw [wrap_mod]
    have hnx : 0 ≤ (pc + 4) % 4294967296 ∧ (pc + 4) % 4294967296 ≤ 4294967295 := by omega
    generalize (pc + 4) % 4294967296 = nx at *
    refine And.intro hI.1 (And.intro hI.2 (And.intro hnx.1 (And.intro (by omega) ?_)))
    have dec : ∀ x : Int, 14 ≤ x → x ≤ 19 → x = 14 ∨ x = 15 ∨ x = 16 ∨ x = 17 ∨ x = 18 ∨ x = 19 := fun x _ _ => by omega
    refine And.intro (fun h2 => ?_) (fun h2 => ?_)
    · have h2 := of_decide_eq_true h2
      refine And.intro (fun h3 => ?_) (fun h3 => by cases h3)
      refine And.intro (fun h4 => ?_) (fun h4 => ?_)
      · have h4 := of_decide_eq_true h4
        have hop := dec op h2 h4
        have q19 : 14 ≤ op ∧ op ≤ 19 := ⟨h2, h4⟩
        have eE : execF op D A imm pc nx regs f r o rs = memF op D A imm pc nx regs f r o rs := if_pos q19
        rw [eE] at e3
        have aw : IntKind.i64.wrap (va + wideF imm) % 4294967296 = (va + wideF imm) % 4294967296 := wrap_mod _
        have ab : 0 ≤ (va + wideF imm) % 4294967296 ∧ (va + wideF imm) % 4294967296 ≤ 4294967295 := by omega
        have sz : sizeF op = 1 ∨ sizeF op = 2 ∨ sizeF op = 4 := by unfold sizeF; split; exact .inl rfl; split; exact .inr (.inl rfl); exact .inr (.inr rfl)
        rcases hop with rfl | rfl | rfl | rfl | rfl | rfl
        skip
        · clear eE q19 dec sz
          simp only [memF, kA, kD] at e3
          repeat' ((first
            | refine And.intro hI.1 (And.intro hI.2 ?_)
            | refine And.intro (wrap_I64' _) ?_
            | refine Exists.intro A (And.intro rfl (And.intro hAl ?_))
            | refine And.intro (Exists.intro A (And.intro rfl (And.intro hAl (And.intro rfl rfl)))) ?_
            | refine Exists.intro 0 (And.intro rfl (And.intro (by decide) ?_))
            | refine And.intro (show wfB _ = true from by kernel_rfl) ?_ | refine And.intro (And.intro rfl rfl) ?_ | exact And.intro rfl rfl | apply HeldC.intro | exact AV.top | (apply HeldF.intro; refine Exists.intro _ (And.intro (by assumption) ?_); refine And.intro (by decide) ?_; exact And.intro rfl rfl) | (refine And.intro (by (refine Exists.intro _ (And.intro (by assumption) ?_); refine And.intro (by decide) ?_; exact And.intro rfl rfl)) ?_) | refine Or.inl ?_
            | refine And.intro (by decide) ?_
            | fail))
          refine Exists.intro _ (And.intro rfl (And.intro (by decide) ?_))
          refine And.intro (fun h5 => absurd h5 (by decide)) (fun h5 => ?_)
          refine Exists.intro rs (And.intro rfl (And.intro (by simp only [I64]; omega) (And.intro lrs ?_)))
          refine And.intro (fun h5 => ?_) (fun h5 => ?_)
          · have h5 : allowB rs ((va + wideF imm) % 4294967296) 1 1 = false := by simpa [aw] using h5
            have h6 : True := trivial
            repeat' ((first
              | refine Exists.intro regs (And.intro rfl (And.intro lr ?_))
              | refine Exists.intro f (Exists.intro r (Exists.intro o (And.intro rfl (And.intro rfl (And.intro rfl (And.intro lf (And.intro lrr (And.intro lo ?_))))))))
              | refine And.intro (closed_Int _) ?_
              | refine And.intro (closed_setI _ _ _) ?_
              | refine And.intro (closed_bytes _) ?_
              | refine And.intro (show wfB _ = true from by kernel_rfl) ?_ | refine And.intro (And.intro rfl rfl) ?_ | exact And.intro rfl rfl | apply HeldC.intro | exact AV.top | (apply HeldF.intro; refine Exists.intro _ (And.intro (by assumption) ?_); refine And.intro (by decide) ?_; exact And.intro rfl rfl) | (refine And.intro (by (refine Exists.intro _ (And.intro (by assumption) ?_); refine And.intro (by decide) ?_; exact And.intro rfl rfl)) ?_) | refine Or.inl ?_
              | refine And.intro (fun h7 => ?_) (fun h7 => ?_)
              | fail) <;> try first | cases h7 | (exfalso; revert h7; decide) | (exfalso; simp [h6] at h7; done) | (exfalso; simp at h6 h7; exact absurd h6 h7) | (exfalso; simp at h6 h7; exact absurd h7 h6))
            exact fin_s ⟨pc, regs, f, r, o, 5, 5⟩ hp (by rw [e3]; simp [sizeF, h5]) rfl rfl rfl rfl rfl
          · have h5 : allowB rs ((va + wideF imm) % 4294967296) 1 1 = true := by simpa [aw] using h5
            refine And.intro (fun h6 => absurd h6 (by decide)) (fun h6 => ?_)
            refine Exists.intro _ (And.intro (lendD byteC _) (And.intro (List.length_map _) (And.intro (closed_bytes _) ?_)))
            refine Exists.intro _ (And.intro (lendD byteC _) (And.intro (List.length_map _) (And.intro (closed_bytes _) ?_)))
            refine Exists.intro _ (And.intro (lendD byteC _) (And.intro (List.length_map _) (And.intro (closed_bytes _) ?_)))
            refine Exists.intro f (Exists.intro r (Exists.intro o (And.intro rfl (And.intro rfl (And.intro rfl (And.intro bf (And.intro br_ (And.intro (by omega) (And.intro (by omega) ?_)))))))))
            refine And.intro (fun h6 => ?_) (fun h6 => ?_)
            · refine Exists.intro D (And.intro rfl (And.intro hDl ?_))
              refine Exists.intro _ (And.intro gD (And.intro (by decide) ?_))
              repeat' ((first
                | refine Exists.intro regs (And.intro rfl (And.intro lr ?_))
                | refine Exists.intro f (Exists.intro r (Exists.intro o (And.intro rfl (And.intro rfl (And.intro rfl (And.intro lf (And.intro lrr (And.intro lo ?_))))))))
                | refine And.intro (closed_Int _) ?_
                | refine And.intro (closed_setI _ _ _) ?_
                | refine And.intro (closed_bytes _) ?_
                | refine And.intro (show wfB _ = true from by kernel_rfl) ?_ | refine And.intro (And.intro rfl rfl) ?_ | exact And.intro rfl rfl | apply HeldC.intro | exact AV.top | (apply HeldF.intro; refine Exists.intro _ (And.intro (by assumption) ?_); refine And.intro (by decide) ?_; exact And.intro rfl rfl) | (refine And.intro (by (refine Exists.intro _ (And.intro (by assumption) ?_); refine And.intro (by decide) ?_; exact And.intro rfl rfl)) ?_) | refine Or.inl ?_
                | refine And.intro (fun h7 => ?_) (fun h7 => ?_)
                | fail) <;> try first | cases h7 | (exfalso; revert h7; decide) | (exfalso; simp [h6] at h7; done) | (exfalso; simp at h6 h7; exact absurd h6 h7) | (exfalso; simp at h6 h7; exact absurd h7 h6))
              exact fin_s ⟨nx, regs.set D (readR f r o ((va + wideF imm) % 4294967296) 1).1, f, r, o, 0, 0⟩ hp (by rw [e3]; rw [aw] at h6; simp at h6; simp [sizeF, h5, h6]) rfl (by simp) (by rw [List.map_set, aw, Nat.zero_add]; rfl) rfl rfl
            · repeat' ((first
                | refine Exists.intro regs (And.intro rfl (And.intro lr ?_))
                | refine Exists.intro f (Exists.intro r (Exists.intro o (And.intro rfl (And.intro rfl (And.intro rfl (And.intro lf (And.intro lrr (And.intro lo ?_))))))))
                | refine And.intro (closed_Int _) ?_
                | refine And.intro (closed_setI _ _ _) ?_
                | refine And.intro (closed_bytes _) ?_
                | refine And.intro (show wfB _ = true from by kernel_rfl) ?_ | refine And.intro (And.intro rfl rfl) ?_ | exact And.intro rfl rfl | apply HeldC.intro | exact AV.top | (apply HeldF.intro; refine Exists.intro _ (And.intro (by assumption) ?_); refine And.intro (by decide) ?_; exact And.intro rfl rfl) | (refine And.intro (by (refine Exists.intro _ (And.intro (by assumption) ?_); refine And.intro (by decide) ?_; exact And.intro rfl rfl)) ?_) | refine Or.inl ?_
                | refine And.intro (fun h7 => ?_) (fun h7 => ?_)
                | fail) <;> try first | cases h7 | (exfalso; revert h7; decide) | (exfalso; simp [h6] at h7; done) | (exfalso; simp at h6 h7; exact absurd h6 h7) | (exfalso; simp at h6 h7; exact absurd h7 h6))
              exact fin_s ⟨pc, regs, f, r, o, 5, (readR f r o ((va + wideF imm) % 4294967296) 1).2⟩ hp (by rw [e3]; rw [aw] at h6; simp at h6; simp [sizeF, h5, h6]) rfl rfl rfl rfl (by rw [aw])
        · clear eE q19 dec sz
          simp only [memF, kA, kD] at e3
          repeat' ((first
            | refine And.intro hI.1 (And.intro hI.2 ?_)
            | refine And.intro (wrap_I64' _) ?_
            | refine Exists.intro A (And.intro rfl (And.intro hAl ?_))
            | refine And.intro (Exists.intro A (And.intro rfl (And.intro hAl (And.intro rfl rfl)))) ?_
            | refine Exists.intro 1 (And.intro rfl (And.intro (by decide) ?_))
            | refine And.intro (show wfB _ = true from by kernel_rfl) ?_ | refine And.intro (And.intro rfl rfl) ?_ | exact And.intro rfl rfl | apply HeldC.intro | exact AV.top | (apply HeldF.intro; refine Exists.intro _ (And.intro (by assumption) ?_); refine And.intro (by decide) ?_; exact And.intro rfl rfl) | (refine And.intro (by (refine Exists.intro _ (And.intro (by assumption) ?_); refine And.intro (by decide) ?_; exact And.intro rfl rfl)) ?_) | refine Or.inl ?_
            | refine And.intro (by decide) ?_
            | fail))
          refine Exists.intro _ (And.intro rfl (And.intro (by decide) ?_))
          refine And.intro (fun h5 => absurd h5 (by decide)) (fun h5 => ?_)
          refine Exists.intro rs (And.intro rfl (And.intro (by simp only [I64]; omega) (And.intro lrs ?_)))
          refine And.intro (fun h5 => ?_) (fun h5 => ?_)
          · have h5 : allowB rs ((va + wideF imm) % 4294967296) 2 1 = false := by simpa [aw] using h5
            have h6 : True := trivial
            repeat' ((first
              | refine Exists.intro regs (And.intro rfl (And.intro lr ?_))
              | refine Exists.intro f (Exists.intro r (Exists.intro o (And.intro rfl (And.intro rfl (And.intro rfl (And.intro lf (And.intro lrr (And.intro lo ?_))))))))
              | refine And.intro (closed_Int _) ?_
              | refine And.intro (closed_setI _ _ _) ?_
              | refine And.intro (closed_bytes _) ?_
              | refine And.intro (show wfB _ = true from by kernel_rfl) ?_ | refine And.intro (And.intro rfl rfl) ?_ | exact And.intro rfl rfl | apply HeldC.intro | exact AV.top | (apply HeldF.intro; refine Exists.intro _ (And.intro (by assumption) ?_); refine And.intro (by decide) ?_; exact And.intro rfl rfl) | (refine And.intro (by (refine Exists.intro _ (And.intro (by assumption) ?_); refine And.intro (by decide) ?_; exact And.intro rfl rfl)) ?_) | refine Or.inl ?_
              | refine And.intro (fun h7 => ?_) (fun h7 => ?_)
              | fail) <;> try first | cases h7 | (exfalso; revert h7; decide) | (exfalso; simp [h6] at h7; done) | (exfalso; simp at h6 h7; exact absurd h6 h7) | (exfalso; simp at h6 h7; exact absurd h7 h6))
            exact fin_s ⟨pc, regs, f, r, o, 5, 5⟩ hp (by rw [e3]; simp [sizeF, h5]) rfl rfl rfl rfl rfl
          · have h5 : allowB rs ((va + wideF imm) % 4294967296) 2 1 = true := by simpa [aw] using h5
            refine And.intro (fun h6 => absurd h6 (by decide)) (fun h6 => ?_)
            refine Exists.intro _ (And.intro (lendD byteC _) (And.intro (List.length_map _) (And.intro (closed_bytes _) ?_)))
            refine Exists.intro _ (And.intro (lendD byteC _) (And.intro (List.length_map _) (And.intro (closed_bytes _) ?_)))
            refine Exists.intro _ (And.intro (lendD byteC _) (And.intro (List.length_map _) (And.intro (closed_bytes _) ?_)))
            refine Exists.intro f (Exists.intro r (Exists.intro o (And.intro rfl (And.intro rfl (And.intro rfl (And.intro bf (And.intro br_ (And.intro (by omega) (And.intro (by omega) ?_)))))))))
            refine And.intro (fun h6 => ?_) (fun h6 => ?_)
            · refine Exists.intro D (And.intro rfl (And.intro hDl ?_))
              refine Exists.intro _ (And.intro gD (And.intro (by decide) ?_))
              repeat' ((first
                | refine Exists.intro regs (And.intro rfl (And.intro lr ?_))
                | refine Exists.intro f (Exists.intro r (Exists.intro o (And.intro rfl (And.intro rfl (And.intro rfl (And.intro lf (And.intro lrr (And.intro lo ?_))))))))
                | refine And.intro (closed_Int _) ?_
                | refine And.intro (closed_setI _ _ _) ?_
                | refine And.intro (closed_bytes _) ?_
                | refine And.intro (show wfB _ = true from by kernel_rfl) ?_ | refine And.intro (And.intro rfl rfl) ?_ | exact And.intro rfl rfl | apply HeldC.intro | exact AV.top | (apply HeldF.intro; refine Exists.intro _ (And.intro (by assumption) ?_); refine And.intro (by decide) ?_; exact And.intro rfl rfl) | (refine And.intro (by (refine Exists.intro _ (And.intro (by assumption) ?_); refine And.intro (by decide) ?_; exact And.intro rfl rfl)) ?_) | refine Or.inl ?_
                | refine And.intro (fun h7 => ?_) (fun h7 => ?_)
                | fail) <;> try first | cases h7 | (exfalso; revert h7; decide) | (exfalso; simp [h6] at h7; done) | (exfalso; simp at h6 h7; exact absurd h6 h7) | (exfalso; simp at h6 h7; exact absurd h7 h6))
              exact fin_s ⟨nx, regs.set D (readR f r o ((va + wideF imm) % 4294967296) 2).1, f, r, o, 0, 0⟩ hp (by rw [e3]; rw [aw] at h6; simp at h6; simp [sizeF, h5, h6]) rfl (by simp) (by rw [List.map_set, aw, Nat.zero_add]; rfl) rfl rfl
            · repeat' ((first
                | refine Exists.intro regs (And.intro rfl (And.intro lr ?_))
                | refine Exists.intro f (Exists.intro r (Exists.intro o (And.intro rfl (And.intro rfl (And.intro rfl (And.intro lf (And.intro lrr (And.intro lo ?_))))))))
                | refine And.intro (closed_Int _) ?_
                | refine And.intro (closed_setI _ _ _) ?_
                | refine And.intro (closed_bytes _) ?_
                | refine And.intro (show wfB _ = true from by kernel_rfl) ?_ | refine And.intro (And.intro rfl rfl) ?_ | exact And.intro rfl rfl | apply HeldC.intro | exact AV.top | (apply HeldF.intro; refine Exists.intro _ (And.intro (by assumption) ?_); refine And.intro (by decide) ?_; exact And.intro rfl rfl) | (refine And.intro (by (refine Exists.intro _ (And.intro (by assumption) ?_); refine And.intro (by decide) ?_; exact And.intro rfl rfl)) ?_) | refine Or.inl ?_
                | refine And.intro (fun h7 => ?_) (fun h7 => ?_)
                | fail) <;> try first | cases h7 | (exfalso; revert h7; decide) | (exfalso; simp [h6] at h7; done) | (exfalso; simp at h6 h7; exact absurd h6 h7) | (exfalso; simp at h6 h7; exact absurd h7 h6))
              exact fin_s ⟨pc, regs, f, r, o, 5, (readR f r o ((va + wideF imm) % 4294967296) 2).2⟩ hp (by rw [e3]; rw [aw] at h6; simp at h6; simp [sizeF, h5, h6]) rfl rfl rfl rfl (by rw [aw])
        · clear eE q19 dec sz
          simp only [memF, kA, kD] at e3
          repeat' ((first
            | refine And.intro hI.1 (And.intro hI.2 ?_)
            | refine And.intro (wrap_I64' _) ?_
            | refine Exists.intro A (And.intro rfl (And.intro hAl ?_))
            | refine And.intro (Exists.intro A (And.intro rfl (And.intro hAl (And.intro rfl rfl)))) ?_
            | refine Exists.intro 2 (And.intro rfl (And.intro (by decide) ?_))
            | refine And.intro (show wfB _ = true from by kernel_rfl) ?_ | refine And.intro (And.intro rfl rfl) ?_ | exact And.intro rfl rfl | apply HeldC.intro | exact AV.top | (apply HeldF.intro; refine Exists.intro _ (And.intro (by assumption) ?_); refine And.intro (by decide) ?_; exact And.intro rfl rfl) | (refine And.intro (by (refine Exists.intro _ (And.intro (by assumption) ?_); refine And.intro (by decide) ?_; exact And.intro rfl rfl)) ?_) | refine Or.inl ?_
            | refine And.intro (by decide) ?_
            | fail))
          refine Exists.intro _ (And.intro rfl (And.intro (by decide) ?_))
          refine And.intro (fun h5 => absurd h5 (by decide)) (fun h5 => ?_)
          refine Exists.intro rs (And.intro rfl (And.intro (by simp only [I64]; omega) (And.intro lrs ?_)))
          refine And.intro (fun h5 => ?_) (fun h5 => ?_)
          · have h5 : allowB rs ((va + wideF imm) % 4294967296) 4 1 = false := by simpa [aw] using h5
            have h6 : True := trivial
            repeat' ((first
              | refine Exists.intro regs (And.intro rfl (And.intro lr ?_))
              | refine Exists.intro f (Exists.intro r (Exists.intro o (And.intro rfl (And.intro rfl (And.intro rfl (And.intro lf (And.intro lrr (And.intro lo ?_))))))))
              | refine And.intro (closed_Int _) ?_
              | refine And.intro (closed_setI _ _ _) ?_
              | refine And.intro (closed_bytes _) ?_
              | refine And.intro (show wfB _ = true from by kernel_rfl) ?_ | refine And.intro (And.intro rfl rfl) ?_ | exact And.intro rfl rfl | apply HeldC.intro | exact AV.top | (apply HeldF.intro; refine Exists.intro _ (And.intro (by assumption) ?_); refine And.intro (by decide) ?_; exact And.intro rfl rfl) | (refine And.intro (by (refine Exists.intro _ (And.intro (by assumption) ?_); refine And.intro (by decide) ?_; exact And.intro rfl rfl)) ?_) | refine Or.inl ?_
              | refine And.intro (fun h7 => ?_) (fun h7 => ?_)
              | fail) <;> try first | cases h7 | (exfalso; revert h7; decide) | (exfalso; simp [h6] at h7; done) | (exfalso; simp at h6 h7; exact absurd h6 h7) | (exfalso; simp at h6 h7; exact absurd h7 h6))
            exact fin_s ⟨pc, regs, f, r, o, 5, 5⟩ hp (by rw [e3]; simp [sizeF, h5]) rfl rfl rfl rfl rfl
          · have h5 : allowB rs ((va + wideF imm) % 4294967296) 4 1 = true := by simpa [aw] using h5
            refine And.intro (fun h6 => absurd h6 (by decide)) (fun h6 => ?_)
            refine Exists.intro _ (And.intro (lendD byteC _) (And.intro (List.length_map _) (And.intro (closed_bytes _) ?_)))
            refine Exists.intro _ (And.intro (lendD byteC _) (And.intro (List.length_map _) (And.intro (closed_bytes _) ?_)))
            refine Exists.intro _ (And.intro (lendD byteC _) (And.intro (List.length_map _) (And.intro (closed_bytes _) ?_)))
            refine Exists.intro f (Exists.intro r (Exists.intro o (And.intro rfl (And.intro rfl (And.intro rfl (And.intro bf (And.intro br_ (And.intro (by omega) (And.intro (by omega) ?_)))))))))
            refine And.intro (fun h6 => ?_) (fun h6 => ?_)
            · refine Exists.intro D (And.intro rfl (And.intro hDl ?_))
              refine Exists.intro _ (And.intro gD (And.intro (by decide) ?_))
              repeat' ((first
                | refine Exists.intro regs (And.intro rfl (And.intro lr ?_))
                | refine Exists.intro f (Exists.intro r (Exists.intro o (And.intro rfl (And.intro rfl (And.intro rfl (And.intro lf (And.intro lrr (And.intro lo ?_))))))))
                | refine And.intro (closed_Int _) ?_
                | refine And.intro (closed_setI _ _ _) ?_
                | refine And.intro (closed_bytes _) ?_
                | refine And.intro (show wfB _ = true from by kernel_rfl) ?_ | refine And.intro (And.intro rfl rfl) ?_ | exact And.intro rfl rfl | apply HeldC.intro | exact AV.top | (apply HeldF.intro; refine Exists.intro _ (And.intro (by assumption) ?_); refine And.intro (by decide) ?_; exact And.intro rfl rfl) | (refine And.intro (by (refine Exists.intro _ (And.intro (by assumption) ?_); refine And.intro (by decide) ?_; exact And.intro rfl rfl)) ?_) | refine Or.inl ?_
                | refine And.intro (fun h7 => ?_) (fun h7 => ?_)
                | fail) <;> try first | cases h7 | (exfalso; revert h7; decide) | (exfalso; simp [h6] at h7; done) | (exfalso; simp at h6 h7; exact absurd h6 h7) | (exfalso; simp at h6 h7; exact absurd h7 h6))
              exact fin_s ⟨nx, regs.set D (readR f r o ((va + wideF imm) % 4294967296) 4).1, f, r, o, 0, 0⟩ hp (by rw [e3]; rw [aw] at h6; simp at h6; simp [sizeF, h5, h6]) rfl (by simp) (by rw [List.map_set, aw, Nat.zero_add]; rfl) rfl rfl
            · repeat' ((first
                | refine Exists.intro regs (And.intro rfl (And.intro lr ?_))
                | refine Exists.intro f (Exists.intro r (Exists.intro o (And.intro rfl (And.intro rfl (And.intro rfl (And.intro lf (And.intro lrr (And.intro lo ?_))))))))
                | refine And.intro (closed_Int _) ?_
                | refine And.intro (closed_setI _ _ _) ?_
                | refine And.intro (closed_bytes _) ?_
                | refine And.intro (show wfB _ = true from by kernel_rfl) ?_ | refine And.intro (And.intro rfl rfl) ?_ | exact And.intro rfl rfl | apply HeldC.intro | exact AV.top | (apply HeldF.intro; refine Exists.intro _ (And.intro (by assumption) ?_); refine And.intro (by decide) ?_; exact And.intro rfl rfl) | (refine And.intro (by (refine Exists.intro _ (And.intro (by assumption) ?_); refine And.intro (by decide) ?_; exact And.intro rfl rfl)) ?_) | refine Or.inl ?_
                | refine And.intro (fun h7 => ?_) (fun h7 => ?_)
                | fail) <;> try first | cases h7 | (exfalso; revert h7; decide) | (exfalso; simp [h6] at h7; done) | (exfalso; simp at h6 h7; exact absurd h6 h7) | (exfalso; simp at h6 h7; exact absurd h7 h6))
              exact fin_s ⟨pc, regs, f, r, o, 5, (readR f r o ((va + wideF imm) % 4294967296) 4).2⟩ hp (by rw [e3]; rw [aw] at h6; simp at h6; simp [sizeF, h5, h6]) rfl rfl rfl rfl (by rw [aw])
        · clear eE q19 dec sz
          simp only [memF, kA, kD] at e3
          repeat' ((first
            | refine And.intro hI.1 (And.intro hI.2 ?_)
            | refine And.intro (wrap_I64' _) ?_
            | refine Exists.intro A (And.intro rfl (And.intro hAl ?_))
            | refine And.intro (Exists.intro A (And.intro rfl (And.intro hAl (And.intro rfl rfl)))) ?_
            | refine Exists.intro 0 (And.intro rfl (And.intro (by decide) ?_))
            | refine And.intro (show wfB _ = true from by kernel_rfl) ?_ | refine And.intro (And.intro rfl rfl) ?_ | exact And.intro rfl rfl | apply HeldC.intro | exact AV.top | (apply HeldF.intro; refine Exists.intro _ (And.intro (by assumption) ?_); refine And.intro (by decide) ?_; exact And.intro rfl rfl) | (refine And.intro (by (refine Exists.intro _ (And.intro (by assumption) ?_); refine And.intro (by decide) ?_; exact And.intro rfl rfl)) ?_) | refine Or.inl ?_
            | refine And.intro (by decide) ?_
            | fail))
          refine Exists.intro _ (And.intro rfl (And.intro (by decide) ?_))
          refine And.intro (fun h5 => ?_) (fun h5 => absurd h5 (by decide))
          refine Exists.intro rs (And.intro rfl (And.intro (by simp only [I64]; omega) (And.intro lrs ?_)))
          refine And.intro (fun h5 => ?_) (fun h5 => ?_)
          · have h5 : allowB rs ((va + wideF imm) % 4294967296) 1 2 = false := by simpa [aw] using h5
            have h6 : True := trivial
            repeat' ((first
              | refine Exists.intro regs (And.intro rfl (And.intro lr ?_))
              | refine Exists.intro f (Exists.intro r (Exists.intro o (And.intro rfl (And.intro rfl (And.intro rfl (And.intro lf (And.intro lrr (And.intro lo ?_))))))))
              | refine And.intro (closed_Int _) ?_
              | refine And.intro (closed_setI _ _ _) ?_
              | refine And.intro (closed_bytes _) ?_
              | refine And.intro (show wfB _ = true from by kernel_rfl) ?_ | refine And.intro (And.intro rfl rfl) ?_ | exact And.intro rfl rfl | apply HeldC.intro | exact AV.top | (apply HeldF.intro; refine Exists.intro _ (And.intro (by assumption) ?_); refine And.intro (by decide) ?_; exact And.intro rfl rfl) | (refine And.intro (by (refine Exists.intro _ (And.intro (by assumption) ?_); refine And.intro (by decide) ?_; exact And.intro rfl rfl)) ?_) | refine Or.inl ?_
              | refine And.intro (fun h7 => ?_) (fun h7 => ?_)
              | fail) <;> try first | cases h7 | (exfalso; revert h7; decide) | (exfalso; simp [h6] at h7; done) | (exfalso; simp at h6 h7; exact absurd h6 h7) | (exfalso; simp at h6 h7; exact absurd h7 h6))
            exact fin_s ⟨pc, regs, f, r, o, 5, 5⟩ hp (by rw [e3]; simp [sizeF, h5]) rfl rfl rfl rfl rfl
          · have h5 : allowB rs ((va + wideF imm) % 4294967296) 1 2 = true := by simpa [aw] using h5
            refine And.intro (fun h6 => ?_) (fun h6 => absurd h6 (by decide))
            clear h6
            repeat' ((first
              | refine Exists.intro D (And.intro rfl (And.intro hDl ?_))
              | refine And.intro (Exists.intro D (And.intro rfl (And.intro hDl (And.intro rfl rfl)))) ?_
              | refine Exists.intro _ (And.intro (lendD byteC _) (And.intro (List.length_map _) (And.intro (closed_bytes _) ?_)))
              | refine Exists.intro f (Exists.intro r (Exists.intro o (And.intro rfl (And.intro rfl (And.intro rfl (And.intro lf (And.intro lrr (And.intro lo (And.intro (by simp only [I64]; omega) (And.intro (by simp only [I64]; omega) ?_))))))))))
              | refine Exists.intro regs (And.intro rfl (And.intro lr ?_))
              | refine Exists.intro f (Exists.intro r (Exists.intro o (And.intro rfl (And.intro rfl (And.intro rfl (And.intro lf (And.intro lrr (And.intro lo ?_))))))))
              | refine And.intro (closed_Int _) ?_
              | refine And.intro (closed_setI _ _ _) ?_
              | refine And.intro (closed_bytes _) ?_
              | refine And.intro (show wfB _ = true from by kernel_rfl) ?_ | refine And.intro (And.intro rfl rfl) ?_ | exact And.intro rfl rfl | apply HeldC.intro | exact AV.top | (apply HeldF.intro; refine Exists.intro _ (And.intro (by assumption) ?_); refine And.intro (by decide) ?_; exact And.intro rfl rfl) | (refine And.intro (by (refine Exists.intro _ (And.intro (by assumption) ?_); refine And.intro (by decide) ?_; exact And.intro rfl rfl)) ?_) | refine Or.inl ?_
              | refine And.intro (fun h7 => ?_) (fun h7 => ?_)
              | refine And.intro ?_ ?_
              | fail) <;> try first | cases h7 | (exfalso; revert h7; decide))
            all_goals (try rw [aw] at h7)
            all_goals (try rw [aw])
            all_goals first
              | exact fin_s ⟨pc, regs, f, r, o, 5, (writeF f r o ((va + wideF imm) % 4294967296) 1 vd).2.2⟩ hp (by rw [e3]; simp at h7; simp [sizeF, h5, h7]) rfl rfl rfl rfl rfl
              | exact fin_s ⟨nx, regs, f, (writeF f r o ((va + wideF imm) % 4294967296) 1 vd).1, (writeF f r o ((va + wideF imm) % 4294967296) 1 vd).2.1, 0, 0⟩ hp (by rw [e3]; simp at h7; simp [sizeF, h5, h7]) rfl rfl rfl rfl rfl
              | fail
        · clear eE q19 dec sz
          simp only [memF, kA, kD] at e3
          repeat' ((first
            | refine And.intro hI.1 (And.intro hI.2 ?_)
            | refine And.intro (wrap_I64' _) ?_
            | refine Exists.intro A (And.intro rfl (And.intro hAl ?_))
            | refine And.intro (Exists.intro A (And.intro rfl (And.intro hAl (And.intro rfl rfl)))) ?_
            | refine Exists.intro 1 (And.intro rfl (And.intro (by decide) ?_))
            | refine And.intro (show wfB _ = true from by kernel_rfl) ?_ | refine And.intro (And.intro rfl rfl) ?_ | exact And.intro rfl rfl | apply HeldC.intro | exact AV.top | (apply HeldF.intro; refine Exists.intro _ (And.intro (by assumption) ?_); refine And.intro (by decide) ?_; exact And.intro rfl rfl) | (refine And.intro (by (refine Exists.intro _ (And.intro (by assumption) ?_); refine And.intro (by decide) ?_; exact And.intro rfl rfl)) ?_) | refine Or.inl ?_
            | refine And.intro (by decide) ?_
            | fail))
          refine Exists.intro _ (And.intro rfl (And.intro (by decide) ?_))
          refine And.intro (fun h5 => ?_) (fun h5 => absurd h5 (by decide))
          refine Exists.intro rs (And.intro rfl (And.intro (by simp only [I64]; omega) (And.intro lrs ?_)))
          refine And.intro (fun h5 => ?_) (fun h5 => ?_)
          · have h5 : allowB rs ((va + wideF imm) % 4294967296) 2 2 = false := by simpa [aw] using h5
            have h6 : True := trivial
            repeat' ((first
              | refine Exists.intro regs (And.intro rfl (And.intro lr ?_))
              | refine Exists.intro f (Exists.intro r (Exists.intro o (And.intro rfl (And.intro rfl (And.intro rfl (And.intro lf (And.intro lrr (And.intro lo ?_))))))))
              | refine And.intro (closed_Int _) ?_
              | refine And.intro (closed_setI _ _ _) ?_
              | refine And.intro (closed_bytes _) ?_
              | refine And.intro (show wfB _ = true from by kernel_rfl) ?_ | refine And.intro (And.intro rfl rfl) ?_ | exact And.intro rfl rfl | apply HeldC.intro | exact AV.top | (apply HeldF.intro; refine Exists.intro _ (And.intro (by assumption) ?_); refine And.intro (by decide) ?_; exact And.intro rfl rfl) | (refine And.intro (by (refine Exists.intro _ (And.intro (by assumption) ?_); refine And.intro (by decide) ?_; exact And.intro rfl rfl)) ?_) | refine Or.inl ?_
              | refine And.intro (fun h7 => ?_) (fun h7 => ?_)
              | fail) <;> try first | cases h7 | (exfalso; revert h7; decide) | (exfalso; simp [h6] at h7; done) | (exfalso; simp at h6 h7; exact absurd h6 h7) | (exfalso; simp at h6 h7; exact absurd h7 h6))
            exact fin_s ⟨pc, regs, f, r, o, 5, 5⟩ hp (by rw [e3]; simp [sizeF, h5]) rfl rfl rfl rfl rfl
          · have h5 : allowB rs ((va + wideF imm) % 4294967296) 2 2 = true := by simpa [aw] using h5
            refine And.intro (fun h6 => ?_) (fun h6 => absurd h6 (by decide))
            clear h6
            repeat' ((first
              | refine Exists.intro D (And.intro rfl (And.intro hDl ?_))
              | refine And.intro (Exists.intro D (And.intro rfl (And.intro hDl (And.intro rfl rfl)))) ?_
              | refine Exists.intro _ (And.intro (lendD byteC _) (And.intro (List.length_map _) (And.intro (closed_bytes _) ?_)))
              | refine Exists.intro f (Exists.intro r (Exists.intro o (And.intro rfl (And.intro rfl (And.intro rfl (And.intro lf (And.intro lrr (And.intro lo (And.intro (by simp only [I64]; omega) (And.intro (by simp only [I64]; omega) ?_))))))))))
              | refine Exists.intro regs (And.intro rfl (And.intro lr ?_))
              | refine Exists.intro f (Exists.intro r (Exists.intro o (And.intro rfl (And.intro rfl (And.intro rfl (And.intro lf (And.intro lrr (And.intro lo ?_))))))))
              | refine And.intro (closed_Int _) ?_
              | refine And.intro (closed_setI _ _ _) ?_
              | refine And.intro (closed_bytes _) ?_
              | refine And.intro (show wfB _ = true from by kernel_rfl) ?_ | refine And.intro (And.intro rfl rfl) ?_ | exact And.intro rfl rfl | apply HeldC.intro | exact AV.top | (apply HeldF.intro; refine Exists.intro _ (And.intro (by assumption) ?_); refine And.intro (by decide) ?_; exact And.intro rfl rfl) | (refine And.intro (by (refine Exists.intro _ (And.intro (by assumption) ?_); refine And.intro (by decide) ?_; exact And.intro rfl rfl)) ?_) | refine Or.inl ?_
              | refine And.intro (fun h7 => ?_) (fun h7 => ?_)
              | refine And.intro ?_ ?_
              | fail) <;> try first | cases h7 | (exfalso; revert h7; decide))
            all_goals (try rw [aw] at h7)
            all_goals (try rw [aw])
            all_goals first
              | exact fin_s ⟨pc, regs, f, r, o, 5, (writeF f r o ((va + wideF imm) % 4294967296) 2 vd).2.2⟩ hp (by rw [e3]; simp at h7; simp [sizeF, h5, h7]) rfl rfl rfl rfl rfl
              | exact fin_s ⟨nx, regs, f, (writeF f r o ((va + wideF imm) % 4294967296) 2 vd).1, (writeF f r o ((va + wideF imm) % 4294967296) 2 vd).2.1, 0, 0⟩ hp (by rw [e3]; simp at h7; simp [sizeF, h5, h7]) rfl rfl rfl rfl rfl
              | fail
        · clear eE q19 dec sz
          simp only [memF, kA, kD] at e3
          repeat' ((first
            | refine And.intro hI.1 (And.intro hI.2 ?_)
            | refine And.intro (wrap_I64' _) ?_
            | refine Exists.intro A (And.intro rfl (And.intro hAl ?_))
            | refine And.intro (Exists.intro A (And.intro rfl (And.intro hAl (And.intro rfl rfl)))) ?_
            | refine Exists.intro 2 (And.intro rfl (And.intro (by decide) ?_))
            | refine And.intro (show wfB _ = true from by kernel_rfl) ?_ | refine And.intro (And.intro rfl rfl) ?_ | exact And.intro rfl rfl | apply HeldC.intro | exact AV.top | (apply HeldF.intro; refine Exists.intro _ (And.intro (by assumption) ?_); refine And.intro (by decide) ?_; exact And.intro rfl rfl) | (refine And.intro (by (refine Exists.intro _ (And.intro (by assumption) ?_); refine And.intro (by decide) ?_; exact And.intro rfl rfl)) ?_) | refine Or.inl ?_
            | refine And.intro (by decide) ?_
            | fail))
          refine Exists.intro _ (And.intro rfl (And.intro (by decide) ?_))
          refine And.intro (fun h5 => ?_) (fun h5 => absurd h5 (by decide))
          refine Exists.intro rs (And.intro rfl (And.intro (by simp only [I64]; omega) (And.intro lrs ?_)))
          refine And.intro (fun h5 => ?_) (fun h5 => ?_)
          · have h5 : allowB rs ((va + wideF imm) % 4294967296) 4 2 = false := by simpa [aw] using h5
            have h6 : True := trivial
            repeat' ((first
              | refine Exists.intro regs (And.intro rfl (And.intro lr ?_))
              | refine Exists.intro f (Exists.intro r (Exists.intro o (And.intro rfl (And.intro rfl (And.intro rfl (And.intro lf (And.intro lrr (And.intro lo ?_))))))))
              | refine And.intro (closed_Int _) ?_
              | refine And.intro (closed_setI _ _ _) ?_
              | refine And.intro (closed_bytes _) ?_
              | refine And.intro (show wfB _ = true from by kernel_rfl) ?_ | refine And.intro (And.intro rfl rfl) ?_ | exact And.intro rfl rfl | apply HeldC.intro | exact AV.top | (apply HeldF.intro; refine Exists.intro _ (And.intro (by assumption) ?_); refine And.intro (by decide) ?_; exact And.intro rfl rfl) | (refine And.intro (by (refine Exists.intro _ (And.intro (by assumption) ?_); refine And.intro (by decide) ?_; exact And.intro rfl rfl)) ?_) | refine Or.inl ?_
              | refine And.intro (fun h7 => ?_) (fun h7 => ?_)
              | fail) <;> try first | cases h7 | (exfalso; revert h7; decide) | (exfalso; simp [h6] at h7; done) | (exfalso; simp at h6 h7; exact absurd h6 h7) | (exfalso; simp at h6 h7; exact absurd h7 h6))
            exact fin_s ⟨pc, regs, f, r, o, 5, 5⟩ hp (by rw [e3]; simp [sizeF, h5]) rfl rfl rfl rfl rfl
          · have h5 : allowB rs ((va + wideF imm) % 4294967296) 4 2 = true := by simpa [aw] using h5
            refine And.intro (fun h6 => ?_) (fun h6 => absurd h6 (by decide))
            clear h6
            repeat' ((first
              | refine Exists.intro D (And.intro rfl (And.intro hDl ?_))
              | refine And.intro (Exists.intro D (And.intro rfl (And.intro hDl (And.intro rfl rfl)))) ?_
              | refine Exists.intro _ (And.intro (lendD byteC _) (And.intro (List.length_map _) (And.intro (closed_bytes _) ?_)))
              | refine Exists.intro f (Exists.intro r (Exists.intro o (And.intro rfl (And.intro rfl (And.intro rfl (And.intro lf (And.intro lrr (And.intro lo (And.intro (by simp only [I64]; omega) (And.intro (by simp only [I64]; omega) ?_))))))))))
              | refine Exists.intro regs (And.intro rfl (And.intro lr ?_))
              | refine Exists.intro f (Exists.intro r (Exists.intro o (And.intro rfl (And.intro rfl (And.intro rfl (And.intro lf (And.intro lrr (And.intro lo ?_))))))))
              | refine And.intro (closed_Int _) ?_
              | refine And.intro (closed_setI _ _ _) ?_
              | refine And.intro (closed_bytes _) ?_
              | refine And.intro (show wfB _ = true from by kernel_rfl) ?_ | refine And.intro (And.intro rfl rfl) ?_ | exact And.intro rfl rfl | apply HeldC.intro | exact AV.top | (apply HeldF.intro; refine Exists.intro _ (And.intro (by assumption) ?_); refine And.intro (by decide) ?_; exact And.intro rfl rfl) | (refine And.intro (by (refine Exists.intro _ (And.intro (by assumption) ?_); refine And.intro (by decide) ?_; exact And.intro rfl rfl)) ?_) | refine Or.inl ?_
              | refine And.intro (fun h7 => ?_) (fun h7 => ?_)
              | refine And.intro ?_ ?_
              | fail) <;> try first | cases h7 | (exfalso; revert h7; decide))
            all_goals (try rw [aw] at h7)
            all_goals (try rw [aw])
            all_goals first
              | exact fin_s ⟨pc, regs, f, r, o, 5, (writeF f r o ((va + wideF imm) % 4294967296) 4 vd).2.2⟩ hp (by rw [e3]; simp at h7; simp [sizeF, h5, h7]) rfl rfl rfl rfl rfl
              | exact fin_s ⟨nx, regs, f, (writeF f r o ((va + wideF imm) % 4294967296) 4 vd).1, (writeF f r o ((va + wideF imm) % 4294967296) 4 vd).2.1, 0, 0⟩ hp (by rw [e3]; simp at h7; simp [sizeF, h5, h7]) rfl rfl rfl rfl rfl
              | fail
      · have h4 := of_decide_eq_false h4
        have q19 : ¬ (14 ≤ op ∧ op ≤ 19) := by omega
        refine And.intro (fun h5 => ?_) (fun h5 => ?_)
        · refine And.intro (fun h6 => ?_) (fun h6 => by cases h6)
          refine And.intro (fun h7 => ?_) (fun h7 => ?_)
          · exfalso
            have h7 := of_decide_eq_true h7
            omega
          · have h7 := of_decide_eq_false h7
            have n13 : ¬ (2 ≤ op ∧ op ≤ 13) := by omega
            have eE : execF op D A imm pc nx regs f r o rs = ⟨if (eventF op imm nx).1 = 0 ∧ jumpB op vd = true then (nx + 4 * wideF imm) % 4294967296 else nx, regs, f, r, o, (eventF op imm nx).1, (eventF op imm nx).2⟩ := by
              unfold execF
              rw [if_neg q19, if_neg n13, kD]
            rw [eE] at e3
            generalize (eventF op imm nx).1 = E1 at *
            generalize (eventF op imm nx).2 = E2 at *
            repeat' ((first
              | refine Exists.intro D (And.intro rfl (Exists.intro _ (And.intro gD' ?_)))
              | refine And.intro (Exists.intro D (And.intro rfl (Exists.intro _ (And.intro gD' (And.intro rfl rfl))))) ?_
              | refine And.intro hI.1 (And.intro hI.2 ?_)
              | refine And.intro (wrap_I64' _) ?_
              | refine And.intro (closed_Int _) ?_
              | refine And.intro (closed_bytes _) ?_
              | refine And.intro (show wfB _ = true from by kernel_rfl) ?_ | refine And.intro (And.intro rfl rfl) ?_ | exact And.intro rfl rfl | apply HeldC.intro | exact AV.top | (apply HeldF.intro; refine Exists.intro _ (And.intro (by assumption) ?_); refine And.intro (by decide) ?_; exact And.intro rfl rfl) | (refine And.intro (by (refine Exists.intro _ (And.intro (by assumption) ?_); refine And.intro (by decide) ?_; exact And.intro rfl rfl)) ?_) | refine Or.inl ?_
              | refine And.intro (fun h8 => ?_) (fun h8 => ?_)
              | fail) <;> try cases h8)
            all_goals first
              | exact fin_s ⟨(nx + 4 * wideF imm) % 4294967296, regs, f, r, o, E1, E2⟩ hp (by rw [e3, if_pos (by simp_all)]) (by rw [wrap_mod, wrap64 (x := 4 * wideF imm) (by omega)]) rfl rfl rfl rfl
              | exact fin_s ⟨nx, regs, f, r, o, E1, E2⟩ hp (by rw [e3, if_neg (by simp_all)]) rfl rfl rfl rfl rfl
              | fail
        · exfalso
          have h5 := of_decide_eq_false h5
          omega
    · have h2 := of_decide_eq_false h2
      have q19 : ¬ (14 ≤ op ∧ op ≤ 19) := by omega
      refine And.intro (fun h3 => by cases h3) (fun h3 => ?_)
      refine And.intro (fun h4 => by cases h4) (fun h4 => ?_)
      refine And.intro (fun h5 => ?_) (fun h5 => ?_)
      · have h5 := of_decide_eq_true h5
        refine And.intro (fun h6 => ?_) (fun h6 => by cases h6)
        refine And.intro (fun h7 => ?_) (fun h7 => ?_)
        · have h7 := of_decide_eq_true h7
          have eE : execF op D A imm pc nx regs f r o rs = ⟨nx, regs.set D (aluF op imm vd va), f, r, o, 0, 0⟩ := by
            unfold execF
            rw [if_neg q19, if_pos ⟨h5, h7⟩, kA, kD]
            rfl
          have ev : eventF op imm nx = (0, 0) := by
            unfold eventF
            rw [if_neg (by omega), if_neg (by omega), if_neg (by omega), if_neg (by omega)]
          rw [eE] at e3
          rw [ev]
          repeat' (first
            | refine Exists.intro D (And.intro rfl (And.intro hDl ?_))
            | refine Exists.intro A (And.intro rfl (And.intro hAl ?_))
            | refine Exists.intro D (And.intro rfl (Exists.intro _ (And.intro gD' ?_)))
            | refine Exists.intro A (And.intro rfl (Exists.intro _ (And.intro gA' ?_)))
            | refine And.intro (Exists.intro D (And.intro rfl (And.intro hDl (And.intro rfl rfl)))) ?_
            | refine And.intro (Exists.intro D (And.intro rfl (Exists.intro _ (And.intro gD' (And.intro rfl rfl))))) ?_
            | refine And.intro (Exists.intro A (And.intro rfl (Exists.intro _ (And.intro gA' (And.intro rfl rfl))))) ?_
            | refine And.intro h5 (And.intro h7 (And.intro hI.1 (And.intro hI.2 (And.intro wD.1 (And.intro wD.2 (And.intro wA.1 (And.intro wA.2 ?_)))))))
            | refine Exists.intro _ (And.intro gD (And.intro (by decide) ?_))
            | refine And.intro (closed_setI _ _ _) ?_
            | refine And.intro (closed_bytes _) ?_
            | refine And.intro (show wfB _ = true from by kernel_rfl) ?_ | refine And.intro (And.intro rfl rfl) ?_ | exact And.intro rfl rfl | apply HeldC.intro | exact AV.top | (apply HeldF.intro; refine Exists.intro _ (And.intro (by assumption) ?_); refine And.intro (by decide) ?_; exact And.intro rfl rfl) | (refine And.intro (by (refine Exists.intro _ (And.intro (by assumption) ?_); refine And.intro (by decide) ?_; exact And.intro rfl rfl)) ?_) | refine Or.inl ?_
            | fail)
          exact fin_s ⟨nx, regs.set D (aluF op imm vd va), f, r, o, 0, 0⟩ hp e3 rfl (by simp) (by rw [List.map_set, Nat.zero_add]; rfl) rfl rfl
        · exfalso
          have h7 := of_decide_eq_false h7
          omega
      · have h5 := of_decide_eq_false h5
        refine And.intro (fun h6 => by cases h6) (fun h6 => ?_)
        refine And.intro (fun h7 => by cases h7) (fun h7 => ?_)
        have n13 : ¬ (2 ≤ op ∧ op ≤ 13) := by omega
        have eE : execF op D A imm pc nx regs f r o rs = ⟨if (eventF op imm nx).1 = 0 ∧ jumpB op vd = true then (nx + 4 * wideF imm) % 4294967296 else nx, regs, f, r, o, (eventF op imm nx).1, (eventF op imm nx).2⟩ := by
          unfold execF
          rw [if_neg q19, if_neg n13, kD]
        rw [eE] at e3
        generalize (eventF op imm nx).1 = E1 at *
        generalize (eventF op imm nx).2 = E2 at *
        repeat' ((first
          | refine Exists.intro D (And.intro rfl (Exists.intro _ (And.intro gD' ?_)))
          | refine And.intro (Exists.intro D (And.intro rfl (Exists.intro _ (And.intro gD' (And.intro rfl rfl))))) ?_
          | refine And.intro hI.1 (And.intro hI.2 ?_)
          | refine And.intro (wrap_I64' _) ?_
          | refine And.intro (closed_Int _) ?_
          | refine And.intro (closed_bytes _) ?_
          | refine And.intro (show wfB _ = true from by kernel_rfl) ?_ | refine And.intro (And.intro rfl rfl) ?_ | exact And.intro rfl rfl | apply HeldC.intro | exact AV.top | (apply HeldF.intro; refine Exists.intro _ (And.intro (by assumption) ?_); refine And.intro (by decide) ?_; exact And.intro rfl rfl) | (refine And.intro (by (refine Exists.intro _ (And.intro (by assumption) ?_); refine And.intro (by decide) ?_; exact And.intro rfl rfl)) ?_) | refine Or.inl ?_
          | refine And.intro (fun h8 => ?_) (fun h8 => ?_)
          | fail) <;> try cases h8)
        all_goals first
          | exact fin_s ⟨(nx + 4 * wideF imm) % 4294967296, regs, f, r, o, E1, E2⟩ hp (by rw [e3, if_pos (by simp_all)]) (by rw [wrap_mod, wrap64 (x := 4 * wideF imm) (by omega)]) rfl rfl rfl rfl
          | exact fin_s ⟨nx, regs, f, r, o, E1, E2⟩ hp (by rw [e3, if_neg (by simp_all)]) rfl rfl rfl rfl rfl
          | fail
  · exact hp.elim
end Go.Proofs.YtijjonafmmhhbaaGreat.Ab
