/- The law CommandTimes, over the plain functions. -/
import Derived.Test.YtfeddlhkiomdaaaLawCommandBack
set_option linter.unusedVariables false
set_option linter.unusedSimpArgs false
namespace Go.GL
open Go

theorem encC_inj {c d : T_api_Command} (hc : wf_T_api_Command c) (hd : wf_T_api_Command d) (mc : mayB c = true) (md : mayB d = true) (h : encC c = encC d) : c = d := by
  have h1 := back_p 1000 (by omega) c hc mc
  have h2 := back_p 1000 (by omega) d hd md
  rw [h, h2] at h1
  simp only [Option.some.injEq, Prod.mk.injEq] at h1
  exact h1.1.symm

theorem tontinelaw16_CommandTimes_law (c : T_api_Command) (now : Int) (h : wf_T_api_Command c) (hw : (Lit.int .u64 now).wf = true) : Ev (fun n => tontinelaw16_CommandTimes.f n c now) true := by
  unfold tontinelaw16_CommandTimes.f
  refine Ev.bind begun16 (Ev.ge (c.Steps.length + 1000) fun n hn => ?_)
  obtain ⟨d, hd⟩ : ∃ d, d = (⟨c.Kind, c.Session, c.Seq, c.Saga, c.Steps, c.Step, c.Back, c.Try, c.Ok, now⟩ : T_api_Command) := ⟨_, rfl⟩
  have wd : wf_T_api_Command d := by
    obtain ⟨w1, w2, w3, w4, w5, w6, w7, w8, w9, w10⟩ := h
    rw [hd]; exact ⟨w1, w2, w3, w4, w5, w6, w7, w8, w9, hw⟩
  have md : mayB d = mayB c := by rw [hd]; rfl
  have kd : ((d.Kind == 2) && !chk d.Steps) = ((c.Kind == 2) && !chk c.Steps) := by rw [hd]
  have ld : d.Steps = c.Steps := by rw [hd]
  rw [if_neg (by simp), p_Encode n c (by omega) h, Option.bind_some]
  cases hk : ((c.Kind == 2) && !chk c.Steps)
  · cases hm : mayB c
    · have : outC c = ([], 1) := by unfold outC; rw [hk, hm]; rfl
      rw [this]; rfl
    · have e1 : outC c = (encC c, 0) := by unfold outC; rw [hk, hm]; rfl
      have e2 : outC d = (encC d, 0) := by unfold outC; rw [kd, hk, md, hm]; rfl
      have hs := may_steps hm
      rw [e1, if_neg (by simp), ← hd, p_Encode n d (by rw [ld]; omega) wd, Option.bind_some, e2]
      simp only
      rw [back_p n (by omega) d wd (md.trans hm), Option.bind_some, if_pos (by simp), if_pos (by simp)]
      have e3 : (⟨d.Kind, d.Session, d.Seq, d.Saga, d.Steps, d.Step, d.Back, d.Try, d.Ok, c.Now⟩ : T_api_Command) = c := by rw [hd]
      simp only [e3]
      rw [same_c n c (by omega) (by omega), Option.bind_some, if_pos rfl]
      have e4 : (encC c == encC d) = (c.Now == now) := by
        rw [Bool.eq_iff_iff, beq_iff_eq, beq_iff_eq]
        constructor
        · intro q
          have := encC_inj h wd hm (md.trans hm) q
          rw [this, hd]
        · intro q
          rw [hd, ← q]
      rw [e4]; simp
  · have : outC c = ([], 44) := by unfold outC; rw [hk]; rfl
    rw [this]; rfl
end Go.GL
