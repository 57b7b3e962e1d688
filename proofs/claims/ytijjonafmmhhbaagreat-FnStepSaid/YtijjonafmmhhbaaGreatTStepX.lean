/- FnStep: at a drawn core, memory and regions. No condition. -/
import Derived.Test.YtijjonafmmhhbaaGreatTDrawT
import Derived.Test.YtijjonafmmhhbaaGreatTMemL
import Derived.Test.YtijjonafmmhhbaaGreatTStep2
import Derived.Test.YtijjonafmmhhbaaGreatTStepJ
namespace Go.Proofs.YtijjonafmmhhbaaGreat.Ab
set_option linter.unusedVariables false
set_option linter.unusedSimpArgs false

/-- One register changes at most, and then nothing else. -/
def OneP (regs f r o : List Int) (s : StepR) : Prop := ∃ d : Nat, (∀ j, j ≠ d → s.regs[j]? = regs[j]?) ∧ (s.regs[d]? ≠ regs[d]? → s.r = r ∧ s.o = o)
theorem one_same {regs f r o : List Int} {s : StepR} (h : s.regs = regs) : OneP regs f r o s := ⟨0, fun _ _ => by rw [h], fun h2 => absurd (by rw [h]) h2⟩
theorem one_set {regs f r o : List Int} {s : StepR} {d : Nat} {v : Int} (h : s.regs = regs.set d v) (hr : s.r = r) (ho : s.o = o) : OneP regs f r o s := ⟨d, fun j hj => by rw [h, List.getElem?_set_ne (by omega)], fun _ => ⟨hr, ho⟩⟩
theorem exec_one {op d a imm pc nx : Int} {regs f r o : List Int} {rs : List Rg} : OneP regs f r o (execF op d a imm pc nx regs f r o rs) := by
  unfold execF
  split
  · unfold memF
    repeat' split
    all_goals first
      | exact one_same rfl
      | exact one_set rfl rfl rfl
  · split
    · exact one_set rfl rfl rfl
    · exact one_same rfl
theorem step_one {pc : Int} {regs f r o : List Int} {rs : List Rg} : OneP regs f r o (stepF pc regs f r o rs) := by
  unfold stepF
  repeat' split
  all_goals first
    | exact exec_one
    | exact one_same rfl
def LenP2 (regs f r o : List Int) (s : StepR) : Prop := s.regs.length = regs.length ∧ s.f = f ∧ s.r.length = r.length ∧ s.o.length ≤ max o.length 5000
theorem exec_lens2 {op d a imm pc nx : Int} {regs f r o : List Int} {rs : List Rg} : LenP2 regs f r o (execF op d a imm pc nx regs f r o rs) := by
  unfold execF
  split
  · unfold memF
    have hw := writeF_len f r o ((regs.getD a.toNat 0 + wideF imm) % 4294967296) (sizeF op) (regs.getD d.toNat 0)
    repeat' split
    all_goals refine ⟨?_, rfl, ?_, ?_⟩
    all_goals simp only [List.length_set]
    all_goals omega
  · split
    · refine ⟨?_, rfl, rfl, ?_⟩
      · simp
      · simp only []; omega
    · refine ⟨rfl, rfl, rfl, ?_⟩
      simp only []; omega
theorem step_lens2 {pc : Int} {regs f r o : List Int} {rs : List Rg} : LenP2 regs f r o (stepF pc regs f r o rs) := by
  unfold stepF
  repeat' split
  all_goals first
    | exact exec_lens2
    | exact ⟨rfl, rfl, rfl, by simp only []; omega⟩
/-- With a fault nothing changes. -/
def FltQ (pc : Int) (regs f r o : List Int) (s : StepR) : Prop := s.did = 5 → s.pc = pc ∧ s.regs = regs ∧ s.f = f ∧ s.r = r ∧ s.o = o
theorem exec_flt {op d a imm pc nx : Int} {regs f r o : List Int} {rs : List Rg} : FltQ pc regs f r o (execF op d a imm pc nx regs f r o rs) := by
  unfold execF
  split
  · unfold memF
    repeat' split
    all_goals first
      | (intro h; exact ⟨rfl, rfl, rfl, rfl, rfl⟩)
      | (intro h; exfalso; simp at h; done)
  · split
    · intro h
      exfalso
      simp at h
    · intro h
      exfalso
      simp only [eventF] at h
      repeat' split at h
      all_goals simp at h
theorem step_flt {pc : Int} {regs f r o : List Int} {rs : List Rg} : FltQ pc regs f r o (stepF pc regs f r o rs) := by
  unfold stepF
  repeat' split
  all_goals first
    | exact exec_flt
    | exact fun _ => ⟨rfl, rfl, rfl, rfl, rfl⟩
theorem putY_ok2 {r : List Int} (h : BytesOk r) (p : Nat) (v : Int) (n : Nat) : BytesOk (putY r p v n) := putY_ok h p v n
theorem lendT (n : Nat) (l : List Int) (h : n ≤ l.length) : List.take n (List.drop 0 (l.map intC)) = (l.take n).map intC ∧ ((l.take n).map intC).length = n := by
  rw [List.drop_zero, List.map_take]
  exact ⟨rfl, by simp; omega⟩
theorem lendS2 (l : List (List AV)) : List.take l.length (List.drop 0 l) = l := by rw [List.drop_zero, List.take_length]
def cx3 : Ctx := mkC [(5, callM [] false hDStep), (6, callM [] true hStep), (7, callM [] true hStep), (8, callM [] true hEqM)]
theorem cx3_ok : CtxOk Tryz.prog cx3 := mkC_ok (mem1 ⟨s_DrawStepX, fnOk Tryz.func5 rfl rfl⟩ (mem1 ⟨s_spec_Step, fnOk Tryz.func6 rfl rfl⟩ (mem1 ⟨s_impl_Step, fnOk Tryz.func7 rfl rfl⟩ (mem1 ⟨s_SameMem, fnOk Tryz.func8 rfl rfl⟩ mem0))))
set_option maxRecDepth 100000 in
set_option maxHeartbeats 64000000 in
set_option pp.maxSteps 1500 in
theorem s3 (xs : List AV) (hx : ArgsOf Tryz.prog 3 [22] xs) : inlH cx3 Tryz.f3.ntmps Tryz.f3.results.toList (Tryz.f3.body.getD .skip) xs [] fun x _ => x = .v (.bool true) := by
  obtain ⟨x, _, c, rfl, hs, ha, rfl⟩ := hx
  obtain ⟨cs, rfl, hcb, hcm⟩ := arg_byteS hs ha
  refine And.intro (fun h1 => rfl) (fun h1 => ?_)
  clear h1
  refine Exists.intro cs (And.intro rfl (And.intro hcb (And.intro hcm ?_)))
  have hb : BytesOk (cs.take 1000) := fun x hx => hcb x (List.mem_of_mem_take hx)
  have hn : (cs.take 1000).length ≤ 1000 := by rw [List.length_take]; omega
  have q1 := adv_le (Nat.zero_le (cs.take 1000).length)
  have q2 : dsC (cs.take 1000) ≤ (cs.take 1000).length := crX_p (adv_le q1) 8
  have q3 := insQ_le q2
  obtain ⟨m1, m2, m3, m4, m5, m6, m7⟩ := memZ_ok hb q3
  obtain ⟨d0, d1⟩ := dpX_bd hb (adv (cs.take 1000) 0)
  have hdn := dnX_bd (cs.take 1000) (adv (cs.take 1000) 0)
  have hdl := drX_len (cs.take 1000) (adv (cs.take 1000) 0)
  have of_ : BytesOk (dsF (cs.take 1000)) ∧ (dsF (cs.take 1000)).length ≤ 20000 := by
    unfold dsF dsM
    split
    · exact ⟨putY_ok m1 _ _ _, by rw [putY_len]; exact m3⟩
    · exact ⟨m1, m3⟩
  have lrs : (dsR (cs.take 1000)).length ≤ 4 := by
    unfold dsR
    repeat' split
    all_goals simp [rs2, rs3]
  have ipc : I64 (dpX (cs.take 1000) (adv (cs.take 1000) 0)) := by simp only [I64]; omega
  have m4 : (dsM (cs.take 1000)).2.1.length ≤ 20000 := m4
  have m5 : (dsM (cs.take 1000)).2.2.1.length ≤ 20000 := m5
  have m2 : BytesOk (dsM (cs.take 1000)).2.1 := m2
  have m7 : BytesOk (dsM (cs.take 1000)).2.2.1 := m7
  generalize hM : dsM (cs.take 1000) = M at *
  obtain ⟨fz, r, o, q9⟩ := M
  simp only at m2 m4 m5 m7
  generalize hF : dsF (cs.take 1000) = f at *
  generalize hR : dsR (cs.take 1000) = rs at *
  generalize hP : dpX (cs.take 1000) (adv (cs.take 1000) 0) = pc at *
  generalize hN : dnX (cs.take 1000) (adv (cs.take 1000) 0) = dn at *
  generalize hD : drX (cs.take 1000) (adv (cs.take 1000) 0) = dr at *
  clear m1 m3 m6 q1 q2 q3 d0 d1
  obtain ⟨t1, t2⟩ := lendT dn dr (by omega)
  have l1 : (dr.take dn).length ≤ 1048576 := by rw [List.length_take]; omega
  have l2 : f.length ≤ 1048576 := by omega
  have l3 : r.length ≤ 1048576 := by omega
  have l4 : o.length ≤ 1048576 := by omega
  have l5 : rs.length ≤ 1048576 := by omega
  have ln : (dr.take dn).length = dn := by rw [List.length_take]; omega
  generalize dr.take dn = regs at *
  obtain ⟨n1, n2, n3, n4⟩ := step_lens2 (pc := pc) (regs := regs) (f := f) (r := r) (o := o) (rs := rs)
  have k1 : (stepF pc regs f r o rs).regs.length ≤ 1048576 := by omega
  have k2 : (stepF pc regs f r o rs).f.length ≤ 1048576 := by rw [n2]; omega
  have k3 : (stepF pc regs f r o rs).r.length ≤ 1048576 := by omega
  have k4 : (stepF pc regs f r o rs).o.length ≤ 1048576 := by omega
  have g1 := step_one (pc := pc) (regs := regs) (f := f) (r := r) (o := o) (rs := rs)
  have g2 := step_flt (pc := pc) (regs := regs) (f := f) (r := r) (o := o) (rs := rs)
  generalize hS : stepF pc regs f r o rs = s at *
  repeat' ((first
    | refine Exists.intro _ (And.intro t1 (And.intro t2 (And.intro (closed_Int _) ?_)))
    | refine Exists.intro _ (And.intro (lendD _ _) (And.intro (List.length_map _) (And.intro (closed_Int _) ?_)))
    | refine Exists.intro _ (And.intro (lendD _ _) (And.intro (List.length_map _) (And.intro (closed_bytes _) ?_)))
    | refine Exists.intro _ (And.intro (lendD _ _) (And.intro (List.length_map _) (And.intro (closed_Region _) ?_)))
    | (refine Exists.intro regs (Exists.intro f (Exists.intro r (Exists.intro o (Exists.intro rs (And.intro rfl (And.intro rfl (And.intro rfl (And.intro rfl (And.intro rfl (And.intro ipc (And.intro of_.1 (And.intro m2 (And.intro m7 (And.intro l1 (And.intro l2 (And.intro l3 (And.intro l4 (And.intro l5 ?_)))))))))))))))))); rw [hS])
    | (refine Exists.intro cs (And.intro rfl (And.intro hcb (And.intro hcm ?_))); rw [hM, hF, hR, hP, hN, hD])
    | refine Exists.intro f (Exists.intro r (Exists.intro o (And.intro rfl (And.intro rfl (And.intro rfl (And.intro rfl (And.intro rfl (And.intro rfl (And.intro l2 (And.intro l3 (And.intro l4 ?_)))))))))))
    | refine Exists.intro s.f (Exists.intro s.r (Exists.intro s.o (And.intro rfl (And.intro rfl (And.intro rfl (And.intro rfl (And.intro rfl (And.intro rfl (And.intro k2 (And.intro k3 (And.intro k4 ?_)))))))))))
    | refine And.intro (fun h1 => ?_) (fun h1 => ?_)
    | refine And.intro (show wfB _ = true from by kernel_rfl) ?_ | refine And.intro (And.intro rfl rfl) ?_ | exact And.intro rfl rfl | apply HeldC.intro | exact AV.top | (apply HeldF.intro; refine Exists.intro _ (And.intro (by assumption) ?_); refine And.intro (by decide) ?_; exact And.intro rfl rfl) | (refine And.intro (by (refine Exists.intro _ (And.intro (by assumption) ?_); refine And.intro (by decide) ?_; exact And.intro rfl rfl)) ?_) | refine Or.inl ?_) <;> try first | cases h1 | (exfalso; simp at h1; done))
  · exfalso
    simp at h1
    omega
  clear h1
  obtain ⟨d, gd1, gd2⟩ := g1
  refine Exists.intro true (Exists.intro [3, 4, 6, 10, 13, 14, 15, 17, 18] (Exists.intro (fun m vs h => ∃ i c : Nat, i ≤ dn ∧ m = dn - i ∧ (c = 0 ∨ c = 1 ∧ d < i ∧ s.regs[d]? ≠ regs[d]?) ∧
    vs = [.ptr 0 0 0 2, .ptr 1 0 0 3, .ptr 2 0 0 2, .ptr 3 0 0 2, .ptr 4 0 0 2, .ptr 5 0 0 3, .v (.int .i64 s.did), .v (.int .i64 c), .v (.int .i64 i)] ∧
    h = [.box [.v (.int .i64 pc), .sl 1 (regs.map intC)], .box [.sl 1 (f.map byteC), .sl 1 (r.map byteC), .sl 1 (o.map byteC)], .box [.v (.int .i64 s.pc), .sl 1 (s.regs.map intC)], .box [.v (.int .i64 pc), .sl 1 (regs.map intC)], .box [.v (.int .i64 s.pc), .sl 1 (s.regs.map intC)], .box [.sl 1 (s.f.map byteC), .sl 1 (s.r.map byteC), .sl 1 (s.o.map byteC)]]) (And.intro ?_ ?_)))
  · refine Exists.intro [] ?_
    repeat' (first
      | refine Exists.intro _ (And.intro t1 (And.intro t2 (And.intro (closed_Int _) ?_)))
      | refine Exists.intro _ (And.intro (lendL _ _) (And.intro (List.length_map _) (And.intro (closed_Int _) ?_)))
      | refine Exists.intro _ (And.intro (lendL _ _) (And.intro (List.length_map _) (And.intro (closed_bytes _) ?_)))
      | fail)
    exact Exists.intro dn ⟨0, 0, by omega, rfl, Or.inl rfl, rfl, rfl⟩
  · intro m vs h hI
    obtain ⟨i, c, hi, rfl, hc, rfl, rfl⟩ := hI
    have lsr : s.regs.length = dn := by omega
    refine And.intro (fun h1 => ?_) (fun h1 => ?_)
    · have hlt : i < dn := by
        have := of_decide_eq_true h1
        rw [List.length_map] at this
        omega
      clear h1
      obtain ⟨x, hx⟩ : ∃ x, s.regs[i]? = some x := ⟨_, List.getElem?_eq_getElem (by omega)⟩
      obtain ⟨y, hy⟩ : ∃ y, regs[i]? = some y := ⟨_, List.getElem?_eq_getElem (by omega)⟩
      have hgx : (s.regs.map intC)[0 + i]? = some (intC x) := by rw [Nat.zero_add]; exact get_map hx
      have hgy : (regs.map intC)[0 + i]? = some (intC y) := by rw [Nat.zero_add]; exact get_map hy
      have hwi : IntKind.wrap .i64 ((i : Int) + 1) = ((i + 1 : Nat) : Int) := wrap_succ hlt (by omega)
      have hwc : IntKind.wrap .i64 ((c : Int) + 1) = ((c + 1 : Nat) : Int) := wrap_succ (show c < 2 by omega) (by omega)
      repeat' ((first
        | refine And.intro (fun h1 => ?_) (fun h1 => ?_)
        | refine And.intro (show Region.lexB _ _ = true from by kernel_rfl) ?_
        | refine Exists.intro i (And.intro rfl (And.intro (by rw [List.length_map]; omega) ?_))
        | refine Exists.intro _ (And.intro hgx (And.intro (by decide) ?_))
        | refine Exists.intro _ (And.intro hgy (And.intro (by decide) ?_))
        | fail) <;> try first | cases h1 | (exfalso; simp at h1; done))
      all_goals refine Exists.intro [] ?_
      all_goals repeat' (first
        | refine Exists.intro _ (And.intro List.take_length (And.intro rfl (And.intro (closed_Int _) ?_)))
        | refine Exists.intro _ (And.intro List.take_length (And.intro rfl (And.intro (closed_bytes _) ?_)))
        | fail)
      · have hne : s.regs[i]? ≠ regs[i]? := by
          rw [hx, hy]
          simpa using h1
        have hid : i = d := Classical.byContradiction fun hh => hne (gd1 i hh)
        have hc0 : c = 0 := by
          rcases hc with h | ⟨_, h, _⟩
          · exact h
          · omega
        exact Exists.intro (dn - (i + 1)) (And.intro (by omega) ⟨i + 1, c + 1, by omega, rfl, Or.inr ⟨by omega, by omega, hid ▸ hne⟩, by rw [hwi, hwc], rfl⟩)
      · refine Exists.intro (dn - (i + 1)) (And.intro (by omega) ⟨i + 1, c, by omega, rfl, ?_, by rw [hwi], rfl⟩)
        rcases hc with h | ⟨h, h', h''⟩
        · exact Or.inl h
        · exact Or.inr ⟨h, by omega, h''⟩
    · have hid : i = dn := by
        have := of_decide_eq_false h1
        rw [List.length_map] at this
        omega
      subst hid
      clear h1
      cases hdid : (s.did == 5) with
      | true =>
        obtain ⟨e1, e2, e3, e4, e5⟩ := g2 (by simpa using hdid)
        have hc0 : c = 0 := by
          rcases hc with h | ⟨_, _, h⟩
          · exact h
          · exact absurd (by rw [e2]) h
        subst hc0
        rw [e1, e3, e4, e5]
        repeat' ((first
          | refine Exists.intro _ (And.intro (lendS2 _) (And.intro rfl (And.intro (closed_bytes _) ?_)))
          | refine Exists.intro _ (And.intro (lendS2 _) (And.intro rfl (And.intro (closed_Int _) ?_)))
          | refine Exists.intro f (Exists.intro r (Exists.intro o (And.intro rfl (And.intro rfl (And.intro rfl (And.intro rfl (And.intro rfl (And.intro rfl (And.intro l2 (And.intro l3 (And.intro l4 ?_)))))))))))
          | refine And.intro (fun h1 => ?_) (fun h1 => ?_)
          | exact rfl
          | fail) <;> try first | cases h1 | (exfalso; simp at h1; done) | (exfalso; rw [hdid] at h1; cases h1; done))
      | false =>
        rw [n2]
        rcases hc with rfl | ⟨rfl, _, hne⟩
        rotate_left
        · obtain ⟨e4, e5⟩ := gd2 hne
          rw [e4, e5]
          repeat' ((first
            | refine Exists.intro _ (And.intro (lendS2 _) (And.intro rfl (And.intro (closed_bytes _) ?_)))
            | refine Exists.intro _ (And.intro (lendS2 _) (And.intro rfl (And.intro (closed_Int _) ?_)))
            | refine Exists.intro f (Exists.intro r (Exists.intro o (And.intro rfl (And.intro rfl (And.intro rfl (And.intro rfl (And.intro rfl (And.intro rfl (And.intro l2 (And.intro l3 (And.intro l4 ?_)))))))))))
            | refine And.intro (fun h1 => ?_) (fun h1 => ?_)
            | exact rfl
            | fail) <;> try first | cases h1 | (exfalso; simp at h1; done) | (exfalso; rw [hdid] at h1; cases h1; done))
        · skip
          repeat' ((first
            | refine Exists.intro _ (And.intro (lendS2 _) (And.intro rfl (And.intro (closed_bytes _) ?_)))
            | refine Exists.intro _ (And.intro (lendS2 _) (And.intro rfl (And.intro (closed_Int _) ?_)))
            | refine Exists.intro f (Exists.intro r (Exists.intro o (And.intro rfl (And.intro rfl (And.intro rfl (And.intro rfl (And.intro rfl (And.intro rfl (And.intro l2 (And.intro l3 (And.intro l4 ?_)))))))))))
            | refine And.intro (fun h1 => ?_) (fun h1 => ?_)
            | exact rfl
            | fail) <;> try first | cases h1 | (exfalso; simp at h1; done) | (exfalso; rw [hdid] at h1; cases h1; done))
end Go.Proofs.YtijjonafmmhhbaaGreat.Ab
