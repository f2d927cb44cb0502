/- Each small code is what 'compFn' gives. Written by gen.py. -/
import Derived.Test.YtnccnmeecngopaaFwZ
import Derived.Test.YtnccnmeecngopaaFwSx
import Derived.Test.YtnccnmeecngopaaRows
import Derived.Test.YtnccnmeecngopaaProg
import Derived.KernelRfl
set_option maxRecDepth 100000
namespace Go.Proofs.Ytnccnmeecngopaa.Fw
open Go Go.Proofs
theorem ok6 : compFn Try.prog false Try.f6 = some m6 := by kernel_rfl
theorem ok12 : compFn Try.prog false Try.f12 = some m12 := by kernel_rfl
theorem ok13 : compFn Try.prog false Try.f13 = some m13 := by kernel_rfl
theorem ok14 : compFn Try.prog false Try.f14 = some m14 := by kernel_rfl
theorem ok23 : compFn Try.prog false Try.f23 = some m23 := by kernel_rfl
theorem ok24 : compFn Try.prog false Try.f24 = some m24 := by kernel_rfl
theorem ok25 : compFn Try.prog false Try.f25 = some m25 := by kernel_rfl
theorem ok26 : compFn Try.prog false Try.f26 = some m26 := by kernel_rfl
theorem ok27 : compFn Try.prog false Try.f27 = some m27 := by kernel_rfl
theorem ok35 : compFn Try.prog false Try.f35 = some m35 := by kernel_rfl
theorem ok37 : compFn Try.prog true Try.f37 = some m37 := by kernel_rfl
theorem ok38 : compFn Try.prog false Try.f38 = some m38 := by kernel_rfl
theorem ok40 : compFn Try.prog false Try.f40 = some m40 := by kernel_rfl
theorem ok41 : compFn Try.prog false Try.f41 = some m41 := by kernel_rfl
theorem ok42 : compFn Try.prog true Try.f42 = some m42 := by kernel_rfl
theorem ok43 : compFn Try.prog false Try.f43 = some m43 := by kernel_rfl
theorem ok52 : compFn Try.prog false Try.f52 = some m52 := by kernel_rfl
theorem ok53 : compFn Try.prog false Try.f53 = some m53 := by kernel_rfl
theorem ok54 : compFn Try.prog false Try.f54 = some m54 := by kernel_rfl
theorem ok56 : compFn Try.prog false Try.f56 = some m56 := by kernel_rfl
theorem ok70 : compFn Try.prog false Try.f70 = some m70 := by kernel_rfl
theorem ok76 : compFn Try.prog false Try.f76 = some m76 := by kernel_rfl
section
variable {sp : FuncId → Option (List AV → Option AV)} {L n d : Nat} {π : List Nat} {args : List AV} {H : Heap}
theorem r6 : runF ⟨fnOf, sp, L⟩ (n + 1) d π 6 args H = runOut (evC ⟨fnOf, sp, L⟩ (runF ⟨fnOf, sp, L⟩ n) d m6.code π ⟨argEnv 0 args, H, 0⟩) m6.res := runF_fn rfl
theorem r12 : runF ⟨fnOf, sp, L⟩ (n + 1) d π 12 args H = runOut (evC ⟨fnOf, sp, L⟩ (runF ⟨fnOf, sp, L⟩ n) d m12.code π ⟨argEnv 0 args, H, 0⟩) m12.res := runF_fn rfl
theorem r13 : runF ⟨fnOf, sp, L⟩ (n + 1) d π 13 args H = runOut (evC ⟨fnOf, sp, L⟩ (runF ⟨fnOf, sp, L⟩ n) d m13.code π ⟨argEnv 0 args, H, 0⟩) m13.res := runF_fn rfl
theorem r14 : runF ⟨fnOf, sp, L⟩ (n + 1) d π 14 args H = runOut (evC ⟨fnOf, sp, L⟩ (runF ⟨fnOf, sp, L⟩ n) d m14.code π ⟨argEnv 0 args, H, 0⟩) m14.res := runF_fn rfl
theorem r23 : runF ⟨fnOf, sp, L⟩ (n + 1) d π 23 args H = runOut (evC ⟨fnOf, sp, L⟩ (runF ⟨fnOf, sp, L⟩ n) d m23.code π ⟨argEnv 0 args, H, 0⟩) m23.res := runF_fn rfl
theorem r24 : runF ⟨fnOf, sp, L⟩ (n + 1) d π 24 args H = runOut (evC ⟨fnOf, sp, L⟩ (runF ⟨fnOf, sp, L⟩ n) d m24.code π ⟨argEnv 0 args, H, 0⟩) m24.res := runF_fn rfl
theorem r25 : runF ⟨fnOf, sp, L⟩ (n + 1) d π 25 args H = runOut (evC ⟨fnOf, sp, L⟩ (runF ⟨fnOf, sp, L⟩ n) d m25.code π ⟨argEnv 0 args, H, 0⟩) m25.res := runF_fn rfl
theorem r26 : runF ⟨fnOf, sp, L⟩ (n + 1) d π 26 args H = runOut (evC ⟨fnOf, sp, L⟩ (runF ⟨fnOf, sp, L⟩ n) d m26.code π ⟨argEnv 0 args, H, 0⟩) m26.res := runF_fn rfl
theorem r27 : runF ⟨fnOf, sp, L⟩ (n + 1) d π 27 args H = runOut (evC ⟨fnOf, sp, L⟩ (runF ⟨fnOf, sp, L⟩ n) d m27.code π ⟨argEnv 0 args, H, 0⟩) m27.res := runF_fn rfl
theorem r35 : runF ⟨fnOf, sp, L⟩ (n + 1) d π 35 args H = runOut (evC ⟨fnOf, sp, L⟩ (runF ⟨fnOf, sp, L⟩ n) d m35.code π ⟨argEnv 0 args, H, 0⟩) m35.res := runF_fn rfl
theorem r37 : runF ⟨fnOf, sp, L⟩ (n + 1) d π 37 args H = runOut (evC ⟨fnOf, sp, L⟩ (runF ⟨fnOf, sp, L⟩ n) d m37.code π ⟨argEnv 0 args, H, 0⟩) m37.res := runF_fn rfl
theorem r38 : runF ⟨fnOf, sp, L⟩ (n + 1) d π 38 args H = runOut (evC ⟨fnOf, sp, L⟩ (runF ⟨fnOf, sp, L⟩ n) d m38.code π ⟨argEnv 0 args, H, 0⟩) m38.res := runF_fn rfl
theorem r40 : runF ⟨fnOf, sp, L⟩ (n + 1) d π 40 args H = runOut (evC ⟨fnOf, sp, L⟩ (runF ⟨fnOf, sp, L⟩ n) d m40.code π ⟨argEnv 0 args, H, 0⟩) m40.res := runF_fn rfl
theorem r41 : runF ⟨fnOf, sp, L⟩ (n + 1) d π 41 args H = runOut (evC ⟨fnOf, sp, L⟩ (runF ⟨fnOf, sp, L⟩ n) d m41.code π ⟨argEnv 0 args, H, 0⟩) m41.res := runF_fn rfl
theorem r42 : runF ⟨fnOf, sp, L⟩ (n + 1) d π 42 args H = runOut (evC ⟨fnOf, sp, L⟩ (runF ⟨fnOf, sp, L⟩ n) d m42.code π ⟨argEnv 0 args, H, 0⟩) m42.res := runF_fn rfl
theorem r43 : runF ⟨fnOf, sp, L⟩ (n + 1) d π 43 args H = runOut (evC ⟨fnOf, sp, L⟩ (runF ⟨fnOf, sp, L⟩ n) d m43.code π ⟨argEnv 0 args, H, 0⟩) m43.res := runF_fn rfl
theorem r52 : runF ⟨fnOf, sp, L⟩ (n + 1) d π 52 args H = runOut (evC ⟨fnOf, sp, L⟩ (runF ⟨fnOf, sp, L⟩ n) d m52.code π ⟨argEnv 0 args, H, 0⟩) m52.res := runF_fn rfl
theorem r53 : runF ⟨fnOf, sp, L⟩ (n + 1) d π 53 args H = runOut (evC ⟨fnOf, sp, L⟩ (runF ⟨fnOf, sp, L⟩ n) d m53.code π ⟨argEnv 0 args, H, 0⟩) m53.res := runF_fn rfl
theorem r54 : runF ⟨fnOf, sp, L⟩ (n + 1) d π 54 args H = runOut (evC ⟨fnOf, sp, L⟩ (runF ⟨fnOf, sp, L⟩ n) d m54.code π ⟨argEnv 0 args, H, 0⟩) m54.res := runF_fn rfl
theorem r56 : runF ⟨fnOf, sp, L⟩ (n + 1) d π 56 args H = runOut (evC ⟨fnOf, sp, L⟩ (runF ⟨fnOf, sp, L⟩ n) d m56.code π ⟨argEnv 0 args, H, 0⟩) m56.res := runF_fn rfl
theorem r70 : runF ⟨fnOf, sp, L⟩ (n + 1) d π 70 args H = runOut (evC ⟨fnOf, sp, L⟩ (runF ⟨fnOf, sp, L⟩ n) d m70.code π ⟨argEnv 0 args, H, 0⟩) m70.res := runF_fn rfl
theorem r76 : runF ⟨fnOf, sp, L⟩ (n + 1) d π 76 args H = runOut (evC ⟨fnOf, sp, L⟩ (runF ⟨fnOf, sp, L⟩ n) d m76.code π ⟨argEnv 0 args, H, 0⟩) m76.res := runF_fn rfl
theorem c6 {t : Nat} {st : List Nat} (hs : sp 6 = none) : callIn ⟨fnOf, sp, L⟩ (runF ⟨fnOf, sp, L⟩ n) (inlOf ⟨fnOf, sp, L⟩ 6) d t st 6 args H = match optList (freeze H 8) args with | none => none | some avs => match den ⟨fnOf, sp, L⟩ n 6 avs with | some r => some (thawT d t st H r) | none => none := by
  rw [show inlOf ⟨fnOf, sp, L⟩ 6 = false by simp only [inlOf, hs]; rfl]
  exact callIn_den hs
theorem c12 {t : Nat} {st : List Nat} (hs : sp 12 = none) : callIn ⟨fnOf, sp, L⟩ (runF ⟨fnOf, sp, L⟩ n) (inlOf ⟨fnOf, sp, L⟩ 12) d t st 12 args H = match optList (freeze H 8) args with | none => none | some avs => match den ⟨fnOf, sp, L⟩ n 12 avs with | some r => some (thawT d t st H r) | none => none := by
  rw [show inlOf ⟨fnOf, sp, L⟩ 12 = false by simp only [inlOf, hs]; rfl]
  exact callIn_den hs
theorem c13 {t : Nat} {st : List Nat} (hs : sp 13 = none) : callIn ⟨fnOf, sp, L⟩ (runF ⟨fnOf, sp, L⟩ n) (inlOf ⟨fnOf, sp, L⟩ 13) d t st 13 args H = match optList (freeze H 8) args with | none => none | some avs => match den ⟨fnOf, sp, L⟩ n 13 avs with | some r => some (thawT d t st H r) | none => none := by
  rw [show inlOf ⟨fnOf, sp, L⟩ 13 = false by simp only [inlOf, hs]; rfl]
  exact callIn_den hs
theorem c14 {t : Nat} {st : List Nat} (hs : sp 14 = none) : callIn ⟨fnOf, sp, L⟩ (runF ⟨fnOf, sp, L⟩ n) (inlOf ⟨fnOf, sp, L⟩ 14) d t st 14 args H = match optList (freeze H 8) args with | none => none | some avs => match den ⟨fnOf, sp, L⟩ n 14 avs with | some r => some (thawT d t st H r) | none => none := by
  rw [show inlOf ⟨fnOf, sp, L⟩ 14 = false by simp only [inlOf, hs]; rfl]
  exact callIn_den hs
theorem c23 {t : Nat} {st : List Nat} (hs : sp 23 = none) : callIn ⟨fnOf, sp, L⟩ (runF ⟨fnOf, sp, L⟩ n) (inlOf ⟨fnOf, sp, L⟩ 23) d t st 23 args H = match optList (freeze H 8) args with | none => none | some avs => match den ⟨fnOf, sp, L⟩ n 23 avs with | some r => some (thawT d t st H r) | none => none := by
  rw [show inlOf ⟨fnOf, sp, L⟩ 23 = false by simp only [inlOf, hs]; rfl]
  exact callIn_den hs
theorem c24 {t : Nat} {st : List Nat} (hs : sp 24 = none) : callIn ⟨fnOf, sp, L⟩ (runF ⟨fnOf, sp, L⟩ n) (inlOf ⟨fnOf, sp, L⟩ 24) d t st 24 args H = match optList (freeze H 8) args with | none => none | some avs => match den ⟨fnOf, sp, L⟩ n 24 avs with | some r => some (thawT d t st H r) | none => none := by
  rw [show inlOf ⟨fnOf, sp, L⟩ 24 = false by simp only [inlOf, hs]; rfl]
  exact callIn_den hs
theorem c25 {t : Nat} {st : List Nat} (hs : sp 25 = none) : callIn ⟨fnOf, sp, L⟩ (runF ⟨fnOf, sp, L⟩ n) (inlOf ⟨fnOf, sp, L⟩ 25) d t st 25 args H = match optList (freeze H 8) args with | none => none | some avs => match den ⟨fnOf, sp, L⟩ n 25 avs with | some r => some (thawT d t st H r) | none => none := by
  rw [show inlOf ⟨fnOf, sp, L⟩ 25 = false by simp only [inlOf, hs]; rfl]
  exact callIn_den hs
theorem c26 {t : Nat} {st : List Nat} (hs : sp 26 = none) : callIn ⟨fnOf, sp, L⟩ (runF ⟨fnOf, sp, L⟩ n) (inlOf ⟨fnOf, sp, L⟩ 26) d t st 26 args H = match optList (freeze H 8) args with | none => none | some avs => match den ⟨fnOf, sp, L⟩ n 26 avs with | some r => some (thawT d t st H r) | none => none := by
  rw [show inlOf ⟨fnOf, sp, L⟩ 26 = false by simp only [inlOf, hs]; rfl]
  exact callIn_den hs
theorem c27 {t : Nat} {st : List Nat} (hs : sp 27 = none) : callIn ⟨fnOf, sp, L⟩ (runF ⟨fnOf, sp, L⟩ n) (inlOf ⟨fnOf, sp, L⟩ 27) d t st 27 args H = match optList (freeze H 8) args with | none => none | some avs => match den ⟨fnOf, sp, L⟩ n 27 avs with | some r => some (thawT d t st H r) | none => none := by
  rw [show inlOf ⟨fnOf, sp, L⟩ 27 = false by simp only [inlOf, hs]; rfl]
  exact callIn_den hs
theorem c35 {t : Nat} {st : List Nat} (hs : sp 35 = none) : callIn ⟨fnOf, sp, L⟩ (runF ⟨fnOf, sp, L⟩ n) (inlOf ⟨fnOf, sp, L⟩ 35) d t st 35 args H = match optList (freeze H 8) args with | none => none | some avs => match den ⟨fnOf, sp, L⟩ n 35 avs with | some r => some (thawT d t st H r) | none => none := by
  rw [show inlOf ⟨fnOf, sp, L⟩ 35 = false by simp only [inlOf, hs]; rfl]
  exact callIn_den hs
theorem c38 {t : Nat} {st : List Nat} (hs : sp 38 = none) : callIn ⟨fnOf, sp, L⟩ (runF ⟨fnOf, sp, L⟩ n) (inlOf ⟨fnOf, sp, L⟩ 38) d t st 38 args H = match optList (freeze H 8) args with | none => none | some avs => match den ⟨fnOf, sp, L⟩ n 38 avs with | some r => some (thawT d t st H r) | none => none := by
  rw [show inlOf ⟨fnOf, sp, L⟩ 38 = false by simp only [inlOf, hs]; rfl]
  exact callIn_den hs
theorem c40 {t : Nat} {st : List Nat} (hs : sp 40 = none) : callIn ⟨fnOf, sp, L⟩ (runF ⟨fnOf, sp, L⟩ n) (inlOf ⟨fnOf, sp, L⟩ 40) d t st 40 args H = match optList (freeze H 8) args with | none => none | some avs => match den ⟨fnOf, sp, L⟩ n 40 avs with | some r => some (thawT d t st H r) | none => none := by
  rw [show inlOf ⟨fnOf, sp, L⟩ 40 = false by simp only [inlOf, hs]; rfl]
  exact callIn_den hs
theorem c41 {t : Nat} {st : List Nat} (hs : sp 41 = none) : callIn ⟨fnOf, sp, L⟩ (runF ⟨fnOf, sp, L⟩ n) (inlOf ⟨fnOf, sp, L⟩ 41) d t st 41 args H = match optList (freeze H 8) args with | none => none | some avs => match den ⟨fnOf, sp, L⟩ n 41 avs with | some r => some (thawT d t st H r) | none => none := by
  rw [show inlOf ⟨fnOf, sp, L⟩ 41 = false by simp only [inlOf, hs]; rfl]
  exact callIn_den hs
theorem c43 {t : Nat} {st : List Nat} (hs : sp 43 = none) : callIn ⟨fnOf, sp, L⟩ (runF ⟨fnOf, sp, L⟩ n) (inlOf ⟨fnOf, sp, L⟩ 43) d t st 43 args H = match optList (freeze H 8) args with | none => none | some avs => match den ⟨fnOf, sp, L⟩ n 43 avs with | some r => some (thawT d t st H r) | none => none := by
  rw [show inlOf ⟨fnOf, sp, L⟩ 43 = false by simp only [inlOf, hs]; rfl]
  exact callIn_den hs
theorem c52 {t : Nat} {st : List Nat} (hs : sp 52 = none) : callIn ⟨fnOf, sp, L⟩ (runF ⟨fnOf, sp, L⟩ n) (inlOf ⟨fnOf, sp, L⟩ 52) d t st 52 args H = match optList (freeze H 8) args with | none => none | some avs => match den ⟨fnOf, sp, L⟩ n 52 avs with | some r => some (thawT d t st H r) | none => none := by
  rw [show inlOf ⟨fnOf, sp, L⟩ 52 = false by simp only [inlOf, hs]; rfl]
  exact callIn_den hs
theorem c53 {t : Nat} {st : List Nat} (hs : sp 53 = none) : callIn ⟨fnOf, sp, L⟩ (runF ⟨fnOf, sp, L⟩ n) (inlOf ⟨fnOf, sp, L⟩ 53) d t st 53 args H = match optList (freeze H 8) args with | none => none | some avs => match den ⟨fnOf, sp, L⟩ n 53 avs with | some r => some (thawT d t st H r) | none => none := by
  rw [show inlOf ⟨fnOf, sp, L⟩ 53 = false by simp only [inlOf, hs]; rfl]
  exact callIn_den hs
theorem c54 {t : Nat} {st : List Nat} (hs : sp 54 = none) : callIn ⟨fnOf, sp, L⟩ (runF ⟨fnOf, sp, L⟩ n) (inlOf ⟨fnOf, sp, L⟩ 54) d t st 54 args H = match optList (freeze H 8) args with | none => none | some avs => match den ⟨fnOf, sp, L⟩ n 54 avs with | some r => some (thawT d t st H r) | none => none := by
  rw [show inlOf ⟨fnOf, sp, L⟩ 54 = false by simp only [inlOf, hs]; rfl]
  exact callIn_den hs
theorem c56 {t : Nat} {st : List Nat} (hs : sp 56 = none) : callIn ⟨fnOf, sp, L⟩ (runF ⟨fnOf, sp, L⟩ n) (inlOf ⟨fnOf, sp, L⟩ 56) d t st 56 args H = match optList (freeze H 8) args with | none => none | some avs => match den ⟨fnOf, sp, L⟩ n 56 avs with | some r => some (thawT d t st H r) | none => none := by
  rw [show inlOf ⟨fnOf, sp, L⟩ 56 = false by simp only [inlOf, hs]; rfl]
  exact callIn_den hs
theorem c70 {t : Nat} {st : List Nat} (hs : sp 70 = none) : callIn ⟨fnOf, sp, L⟩ (runF ⟨fnOf, sp, L⟩ n) (inlOf ⟨fnOf, sp, L⟩ 70) d t st 70 args H = match optList (freeze H 8) args with | none => none | some avs => match den ⟨fnOf, sp, L⟩ n 70 avs with | some r => some (thawT d t st H r) | none => none := by
  rw [show inlOf ⟨fnOf, sp, L⟩ 70 = false by simp only [inlOf, hs]; rfl]
  exact callIn_den hs
theorem c76 {t : Nat} {st : List Nat} (hs : sp 76 = none) : callIn ⟨fnOf, sp, L⟩ (runF ⟨fnOf, sp, L⟩ n) (inlOf ⟨fnOf, sp, L⟩ 76) d t st 76 args H = match optList (freeze H 8) args with | none => none | some avs => match den ⟨fnOf, sp, L⟩ n 76 avs with | some r => some (thawT d t st H r) | none => none := by
  rw [show inlOf ⟨fnOf, sp, L⟩ 76 = false by simp only [inlOf, hs]; rfl]
  exact callIn_den hs
end
theorem fnsOk (spec : FuncId → Option (List AV → Option AV)) (L : Nat) : FnsOk Try.prog ⟨fnOf, spec, L⟩ := by
  intro f fm h
  simp only [fnOf] at h
  split at h
  · cases h; exact ⟨_, Try.func6, ne_of_beq_false (by kernel_rfl), ok6⟩
  · cases h; exact ⟨_, Try.func12, ne_of_beq_false (by kernel_rfl), ok12⟩
  · cases h; exact ⟨_, Try.func13, ne_of_beq_false (by kernel_rfl), ok13⟩
  · cases h; exact ⟨_, Try.func14, ne_of_beq_false (by kernel_rfl), ok14⟩
  · cases h; exact ⟨_, Try.func23, ne_of_beq_false (by kernel_rfl), ok23⟩
  · cases h; exact ⟨_, Try.func24, ne_of_beq_false (by kernel_rfl), ok24⟩
  · cases h; exact ⟨_, Try.func25, ne_of_beq_false (by kernel_rfl), ok25⟩
  · cases h; exact ⟨_, Try.func26, ne_of_beq_false (by kernel_rfl), ok26⟩
  · cases h; exact ⟨_, Try.func27, ne_of_beq_false (by kernel_rfl), ok27⟩
  · cases h; exact ⟨_, Try.func35, ne_of_beq_false (by kernel_rfl), ok35⟩
  · cases h; exact ⟨_, Try.func37, ne_of_beq_false (by kernel_rfl), ok37⟩
  · cases h; exact ⟨_, Try.func38, ne_of_beq_false (by kernel_rfl), ok38⟩
  · cases h; exact ⟨_, Try.func40, ne_of_beq_false (by kernel_rfl), ok40⟩
  · cases h; exact ⟨_, Try.func41, ne_of_beq_false (by kernel_rfl), ok41⟩
  · cases h; exact ⟨_, Try.func42, ne_of_beq_false (by kernel_rfl), ok42⟩
  · cases h; exact ⟨_, Try.func43, ne_of_beq_false (by kernel_rfl), ok43⟩
  · cases h; exact ⟨_, Try.func52, ne_of_beq_false (by kernel_rfl), ok52⟩
  · cases h; exact ⟨_, Try.func53, ne_of_beq_false (by kernel_rfl), ok53⟩
  · cases h; exact ⟨_, Try.func54, ne_of_beq_false (by kernel_rfl), ok54⟩
  · cases h; exact ⟨_, Try.func56, ne_of_beq_false (by kernel_rfl), ok56⟩
  · cases h; exact ⟨_, Try.func70, ne_of_beq_false (by kernel_rfl), ok70⟩
  · cases h; exact ⟨_, Try.func76, ne_of_beq_false (by kernel_rfl), ok76⟩
  · cases h
theorem follows : Try.prog.follows .mixedOrders = true := by kernel_rfl
theorem laidOut : laidOutB Try.prog = true := by kernel_rfl
theorem own : ownKnob Try.prog.godebug = none := by kernel_rfl
/-- what the evaluator answers, the program answers -/
theorem law {spec : FuncId → Option (List AV → Option AV)} {L k : Nat} {f : FuncId} {avs : List AV} {x : Value} (hS : SpecOk Try.prog ⟨fnOf, spec, L⟩) (h : den ⟨fnOf, spec, L⟩ k f avs = some (.v x)) {W : World} {args : Array Value} (hr : RelL (ρ0 fun _ => False) old0 W avs args.toList) :
    Calls Try.prog f args W fun e w' => e = .returned x ∧ RowKit.Below W.heap.size W w' :=
  den_calls hS (fnsOk _ _) (fun _ hC => draw_ok follows hC hS) h hr
end Go.Proofs.Ytnccnmeecngopaa.Fw
