/- Each small code is what 'compFn' gives. Written by gen.py. -/
import Derived.Test.YtldkgfbgndkbdaaFwZ
import Derived.Test.YtldkgfbgndkbdaaFwW
import Derived.Test.YtldkgfbgndkbdaaRows
import Derived.Test.YtldkgfbgndkbdaaProg
import Derived.KernelRfl
set_option maxRecDepth 100000
namespace Go.Proofs.Ytldkgfbgndkbdaa.Fw
open Go Go.Proofs
theorem ok3 : compFn Try.prog false [(1, none, 1, true), (1, some 0, 1, true), (3, none, 1, true), (3, some 0, 1, true), (4, none, 1, true), (4, some 0, 1, true), (6, none, 1, true), (6, some 0, 1, true), (8, none, 1, true), (8, some 0, 1, true)] Try.f3 = some m3 := by kernel_rfl
theorem ok4 : compFn Try.prog false [(8, none, 1, true), (8, some 0, 1, true), (10, none, 1, true), (10, some 0, 1, true), (12, none, 1, true), (12, some 0, 1, true)] Try.f4 = some m4 := by kernel_rfl
theorem ok5 : compFn Try.prog false [(7, none, 1, true), (7, some 0, 1, true), (8, none, 1, true), (8, some 0, 1, true), (10, none, 1, true), (10, some 0, 1, true), (11, none, 1, true), (11, some 0, 1, true), (13, none, 1, true), (13, some 0, 1, true), (14, none, 1, true), (14, some 0, 1, true), (18, none, 1, true), (18, some 0, 1, true), (20, none, 1, true), (20, some 0, 1, true), (22, none, 1, true), (22, some 0, 1, true)] Try.f5 = some m5 := by kernel_rfl
theorem ok6 : compFn Try.prog false [(1, none, 1, true), (1, some 0, 1, true), (3, none, 1, true), (3, some 0, 1, true)] Try.f6 = some m6 := by kernel_rfl
theorem ok7 : compFn Try.prog false [(14, none, 2, true), (14, some 0, 2, true), (15, none, 2, true), (15, some 0, 2, true), (16, none, 2, true), (16, some 0, 2, true), (17, none, 2, true), (17, some 0, 2, true), (18, none, 2, true), (18, some 0, 2, true), (21, none, 1, true), (21, some 0, 1, true), (23, none, 1, true), (23, some 0, 1, true), (25, none, 1, true), (25, some 0, 1, true), (27, none, 1, true), (27, some 0, 1, true), (29, none, 1, true), (29, some 0, 1, true)] Try.f7 = some m7 := by kernel_rfl
theorem ok8 : compFn Try.prog false [(13, none, 2, true), (13, some 0, 2, true), (14, none, 1, true), (14, some 0, 1, true), (21, none, 1, true), (21, some 0, 1, true), (23, none, 1, true), (23, some 0, 1, true), (25, none, 1, true), (25, some 0, 1, true), (27, none, 1, true), (27, some 0, 1, true), (29, none, 1, true), (29, some 0, 1, true)] Try.f8 = some m8 := by kernel_rfl
theorem ok9 : compFn Try.prog false [(9, none, 1, true), (9, some 0, 1, true), (12, none, 1, true), (12, some 0, 1, true), (14, none, 2, true), (14, some 0, 2, true), (16, none, 2, true), (16, some 0, 2, true), (19, none, 1, true), (19, some 0, 1, true), (21, none, 1, true), (21, some 0, 1, true)] Try.f9 = some m9 := by kernel_rfl
theorem ok10 : compFn Try.prog false [(1, none, 1, true), (1, some 0, 1, true), (2, none, 1, true), (2, some 0, 1, true), (4, none, 1, true), (4, some 0, 1, true), (6, none, 1, true), (6, some 0, 1, true)] Try.f10 = some m10 := by kernel_rfl
theorem ok11 : compFn Try.prog false [(2, none, 1, true), (2, some 0, 1, true), (3, none, 1, true), (3, some 0, 1, true)] Try.f11 = some m11 := by kernel_rfl
theorem ok12 : compFn Try.prog false [(2, none, 1, true), (2, some 0, 1, true), (4, none, 1, true), (4, some 0, 1, true)] Try.f12 = some m12 := by kernel_rfl
theorem ok13 : compFn Try.prog false [] Try.f13 = some m13 := by kernel_rfl
theorem ok14 : compFn Try.prog false [] Try.f14 = some m14 := by kernel_rfl
theorem ok15 : compFn Try.prog false [] Try.f15 = some m15 := by kernel_rfl
theorem ok16 : compFn Try.prog false [(2, none, 1, true), (2, some 0, 1, true), (4, none, 1, true), (4, some 0, 1, true), (5, none, 1, true), (5, some 0, 1, true), (7, none, 1, true), (7, some 0, 1, true)] Try.f16 = some m16 := by kernel_rfl
theorem ok17 : compFn Try.prog false [(1, none, 1, true), (1, some 0, 1, true), (3, none, 1, true), (3, some 0, 1, true), (4, none, 1, true), (4, some 0, 1, true), (5, none, 1, true), (5, some 0, 1, true)] Try.f17 = some m17 := by kernel_rfl
theorem ok18 : compFn Try.prog false [] Try.f18 = some m18 := by kernel_rfl
theorem ok19 : compFn Try.prog false [(2, none, 1, true), (2, some 0, 1, true), (3, none, 1, true), (3, some 0, 1, true), (5, none, 1, true), (5, some 0, 1, true), (6, none, 1, true), (6, some 0, 1, true), (8, none, 1, true), (8, some 0, 1, true), (9, none, 1, true), (9, some 0, 1, true)] Try.f19 = some m19 := by kernel_rfl
theorem ok20 : compFn Try.prog false [(2, none, 1, true), (2, some 0, 1, true), (4, none, 1, true), (4, some 0, 1, true)] Try.f20 = some m20 := by kernel_rfl
theorem ok21 : compFn Try.prog false [] Try.f21 = some m21 := by kernel_rfl
theorem ok23 : compFn Try.prog false [] Try.f23 = some m23 := by kernel_rfl
theorem ok24 : compFn Try.prog false [] Try.f24 = some m24 := by kernel_rfl
theorem ok25 : compFn Try.prog false [] Try.f25 = some m25 := by kernel_rfl
theorem ok26 : compFn Try.prog false [(2, none, 2, true), (2, some 0, 2, true), (3, none, 2, true), (3, some 0, 2, true)] Try.f26 = some m26 := by kernel_rfl
theorem ok27 : compFn Try.prog false [(7, none, 1, true), (7, some 0, 1, true), (11, none, 1, true), (11, some 0, 1, true), (12, none, 1, true), (12, some 0, 1, true), (14, none, 1, true), (14, some 0, 1, true)] Try.f27 = some m27 := by kernel_rfl
theorem ok28 : compFn Try.prog false [(2, none, 2, true), (2, some 0, 2, true), (3, none, 2, true), (3, some 0, 2, true)] Try.f28 = some m28 := by kernel_rfl
theorem ok29 : compFn Try.prog false [] Try.f29 = some m29 := by kernel_rfl
theorem ok30 : compFn Try.prog false [(8, none, 1, true), (8, some 0, 1, true), (10, none, 1, true), (10, some 0, 1, true), (11, none, 1, true), (11, some 0, 1, true), (14, none, 1, true), (14, some 0, 1, true)] Try.f30 = some m30 := by kernel_rfl
theorem ok31 : compFn Try.prog false [(8, none, 1, true), (8, some 0, 1, true), (10, none, 1, true), (10, some 0, 1, true), (12, none, 1, true), (12, some 0, 1, true)] Try.f31 = some m31 := by kernel_rfl
theorem ok32 : compFn Try.prog false [(7, none, 1, true), (7, some 0, 1, true), (9, none, 1, true), (9, some 0, 1, true)] Try.f32 = some m32 := by kernel_rfl
theorem ok33 : compFn Try.prog false [] Try.f33 = some m33 := by kernel_rfl
theorem ok34 : compFn Try.prog false [] Try.f34 = some m34 := by kernel_rfl
theorem ok35 : compFn Try.prog false [] Try.f35 = some m35 := by kernel_rfl
theorem ok36 : compFn Try.prog false [] Try.f36 = some m36 := by kernel_rfl
theorem ok37 : compFn Try.prog false [(2, none, 1, true), (2, some 0, 1, true), (3, none, 1, true), (3, some 0, 1, true), (4, none, 1, true), (4, some 0, 1, true), (5, none, 1, true), (5, some 0, 1, true)] Try.f37 = some m37 := by kernel_rfl
theorem ok38 : compFn Try.prog false [] Try.f38 = some m38 := by kernel_rfl
theorem ok39 : compFn Try.prog false [] Try.f39 = some m39 := by kernel_rfl
theorem ok40 : compFn Try.prog false [] Try.f40 = some m40 := by kernel_rfl
theorem ok42 : compFn Try.prog false [] Try.f42 = some m42 := by kernel_rfl
theorem ok43 : compFn Try.prog false [] Try.f43 = some m43 := by kernel_rfl
theorem ok44 : compFn Try.prog false [] Try.f44 = some m44 := by kernel_rfl
theorem ok45 : compFn Try.prog false [] Try.f45 = some m45 := by kernel_rfl
theorem ok46 : compFn Try.prog false [] Try.f46 = some m46 := by kernel_rfl
theorem ok47 : compFn Try.prog false [] Try.f47 = some m47 := by kernel_rfl
theorem ok48 : compFn Try.prog false [] Try.f48 = some m48 := by kernel_rfl
theorem ok49 : compFn Try.prog false [] Try.f49 = some m49 := by kernel_rfl
theorem ok50 : compFn Try.prog false [] Try.f50 = some m50 := by kernel_rfl
theorem ok51 : compFn Try.prog false [] Try.f51 = some m51 := by kernel_rfl
theorem ok53 : compFn Try.prog false [] Try.f53 = some m53 := by kernel_rfl
theorem ok54 : compFn Try.prog false [] Try.f54 = some m54 := by kernel_rfl
theorem ok55 : compFn Try.prog false [] Try.f55 = some m55 := by kernel_rfl
theorem ok56 : compFn Try.prog false [] Try.f56 = some m56 := by kernel_rfl
theorem ok57 : compFn Try.prog false [] Try.f57 = some m57 := by kernel_rfl
theorem ok59 : compFn Try.prog false [] Try.f59 = some m59 := by kernel_rfl
theorem ok60 : compFn Try.prog false [] Try.f60 = some m60 := by kernel_rfl
theorem ok61 : compFn Try.prog false [] Try.f61 = some m61 := by kernel_rfl
theorem ok62 : compFn Try.prog false [] Try.f62 = some m62 := by kernel_rfl
theorem ok63 : compFn Try.prog false [] Try.f63 = some m63 := by kernel_rfl
theorem ok64 : compFn Try.prog false [] Try.f64 = some m64 := by kernel_rfl
theorem ok66 : compFn Try.prog false [] Try.f66 = some m66 := by kernel_rfl
section
variable {sp : FuncId → Option (List AV → Option AV)} {L n d : Nat} {π : List Nat} {args : List AV} {H : Heap}
theorem r3 : runF ⟨fnOf, sp, L⟩ (n + 1) d π 3 args H = runOut (evC ⟨fnOf, sp, L⟩ (runF ⟨fnOf, sp, L⟩ n) d m3.code π ⟨argEnv 0 args, H, 0⟩) m3.res := runF_fn rfl
theorem r4 : runF ⟨fnOf, sp, L⟩ (n + 1) d π 4 args H = runOut (evC ⟨fnOf, sp, L⟩ (runF ⟨fnOf, sp, L⟩ n) d m4.code π ⟨argEnv 0 args, H, 0⟩) m4.res := runF_fn rfl
theorem r5 : runF ⟨fnOf, sp, L⟩ (n + 1) d π 5 args H = runOut (evC ⟨fnOf, sp, L⟩ (runF ⟨fnOf, sp, L⟩ n) d m5.code π ⟨argEnv 0 args, H, 0⟩) m5.res := runF_fn rfl
theorem r6 : runF ⟨fnOf, sp, L⟩ (n + 1) d π 6 args H = runOut (evC ⟨fnOf, sp, L⟩ (runF ⟨fnOf, sp, L⟩ n) d m6.code π ⟨argEnv 0 args, H, 0⟩) m6.res := runF_fn rfl
theorem r7 : runF ⟨fnOf, sp, L⟩ (n + 1) d π 7 args H = runOut (evC ⟨fnOf, sp, L⟩ (runF ⟨fnOf, sp, L⟩ n) d m7.code π ⟨argEnv 0 args, H, 0⟩) m7.res := runF_fn rfl
theorem r8 : runF ⟨fnOf, sp, L⟩ (n + 1) d π 8 args H = runOut (evC ⟨fnOf, sp, L⟩ (runF ⟨fnOf, sp, L⟩ n) d m8.code π ⟨argEnv 0 args, H, 0⟩) m8.res := runF_fn rfl
theorem r9 : runF ⟨fnOf, sp, L⟩ (n + 1) d π 9 args H = runOut (evC ⟨fnOf, sp, L⟩ (runF ⟨fnOf, sp, L⟩ n) d m9.code π ⟨argEnv 0 args, H, 0⟩) m9.res := runF_fn rfl
theorem r10 : runF ⟨fnOf, sp, L⟩ (n + 1) d π 10 args H = runOut (evC ⟨fnOf, sp, L⟩ (runF ⟨fnOf, sp, L⟩ n) d m10.code π ⟨argEnv 0 args, H, 0⟩) m10.res := runF_fn rfl
theorem r11 : runF ⟨fnOf, sp, L⟩ (n + 1) d π 11 args H = runOut (evC ⟨fnOf, sp, L⟩ (runF ⟨fnOf, sp, L⟩ n) d m11.code π ⟨argEnv 0 args, H, 0⟩) m11.res := runF_fn rfl
theorem r12 : runF ⟨fnOf, sp, L⟩ (n + 1) d π 12 args H = runOut (evC ⟨fnOf, sp, L⟩ (runF ⟨fnOf, sp, L⟩ n) d m12.code π ⟨argEnv 0 args, H, 0⟩) m12.res := runF_fn rfl
theorem r13 : runF ⟨fnOf, sp, L⟩ (n + 1) d π 13 args H = runOut (evC ⟨fnOf, sp, L⟩ (runF ⟨fnOf, sp, L⟩ n) d m13.code π ⟨argEnv 0 args, H, 0⟩) m13.res := runF_fn rfl
theorem r14 : runF ⟨fnOf, sp, L⟩ (n + 1) d π 14 args H = runOut (evC ⟨fnOf, sp, L⟩ (runF ⟨fnOf, sp, L⟩ n) d m14.code π ⟨argEnv 0 args, H, 0⟩) m14.res := runF_fn rfl
theorem r15 : runF ⟨fnOf, sp, L⟩ (n + 1) d π 15 args H = runOut (evC ⟨fnOf, sp, L⟩ (runF ⟨fnOf, sp, L⟩ n) d m15.code π ⟨argEnv 0 args, H, 0⟩) m15.res := runF_fn rfl
theorem r16 : runF ⟨fnOf, sp, L⟩ (n + 1) d π 16 args H = runOut (evC ⟨fnOf, sp, L⟩ (runF ⟨fnOf, sp, L⟩ n) d m16.code π ⟨argEnv 0 args, H, 0⟩) m16.res := runF_fn rfl
theorem r17 : runF ⟨fnOf, sp, L⟩ (n + 1) d π 17 args H = runOut (evC ⟨fnOf, sp, L⟩ (runF ⟨fnOf, sp, L⟩ n) d m17.code π ⟨argEnv 0 args, H, 0⟩) m17.res := runF_fn rfl
theorem r18 : runF ⟨fnOf, sp, L⟩ (n + 1) d π 18 args H = runOut (evC ⟨fnOf, sp, L⟩ (runF ⟨fnOf, sp, L⟩ n) d m18.code π ⟨argEnv 0 args, H, 0⟩) m18.res := runF_fn rfl
theorem r19 : runF ⟨fnOf, sp, L⟩ (n + 1) d π 19 args H = runOut (evC ⟨fnOf, sp, L⟩ (runF ⟨fnOf, sp, L⟩ n) d m19.code π ⟨argEnv 0 args, H, 0⟩) m19.res := runF_fn rfl
theorem r20 : runF ⟨fnOf, sp, L⟩ (n + 1) d π 20 args H = runOut (evC ⟨fnOf, sp, L⟩ (runF ⟨fnOf, sp, L⟩ n) d m20.code π ⟨argEnv 0 args, H, 0⟩) m20.res := runF_fn rfl
theorem r21 : runF ⟨fnOf, sp, L⟩ (n + 1) d π 21 args H = runOut (evC ⟨fnOf, sp, L⟩ (runF ⟨fnOf, sp, L⟩ n) d m21.code π ⟨argEnv 0 args, H, 0⟩) m21.res := runF_fn rfl
theorem r23 : runF ⟨fnOf, sp, L⟩ (n + 1) d π 23 args H = runOut (evC ⟨fnOf, sp, L⟩ (runF ⟨fnOf, sp, L⟩ n) d m23.code π ⟨argEnv 0 args, H, 0⟩) m23.res := runF_fn rfl
theorem r24 : runF ⟨fnOf, sp, L⟩ (n + 1) d π 24 args H = runOut (evC ⟨fnOf, sp, L⟩ (runF ⟨fnOf, sp, L⟩ n) d m24.code π ⟨argEnv 0 args, H, 0⟩) m24.res := runF_fn rfl
theorem r25 : runF ⟨fnOf, sp, L⟩ (n + 1) d π 25 args H = runOut (evC ⟨fnOf, sp, L⟩ (runF ⟨fnOf, sp, L⟩ n) d m25.code π ⟨argEnv 0 args, H, 0⟩) m25.res := runF_fn rfl
theorem r26 : runF ⟨fnOf, sp, L⟩ (n + 1) d π 26 args H = runOut (evC ⟨fnOf, sp, L⟩ (runF ⟨fnOf, sp, L⟩ n) d m26.code π ⟨argEnv 0 args, H, 0⟩) m26.res := runF_fn rfl
theorem r27 : runF ⟨fnOf, sp, L⟩ (n + 1) d π 27 args H = runOut (evC ⟨fnOf, sp, L⟩ (runF ⟨fnOf, sp, L⟩ n) d m27.code π ⟨argEnv 0 args, H, 0⟩) m27.res := runF_fn rfl
theorem r28 : runF ⟨fnOf, sp, L⟩ (n + 1) d π 28 args H = runOut (evC ⟨fnOf, sp, L⟩ (runF ⟨fnOf, sp, L⟩ n) d m28.code π ⟨argEnv 0 args, H, 0⟩) m28.res := runF_fn rfl
theorem r29 : runF ⟨fnOf, sp, L⟩ (n + 1) d π 29 args H = runOut (evC ⟨fnOf, sp, L⟩ (runF ⟨fnOf, sp, L⟩ n) d m29.code π ⟨argEnv 0 args, H, 0⟩) m29.res := runF_fn rfl
theorem r30 : runF ⟨fnOf, sp, L⟩ (n + 1) d π 30 args H = runOut (evC ⟨fnOf, sp, L⟩ (runF ⟨fnOf, sp, L⟩ n) d m30.code π ⟨argEnv 0 args, H, 0⟩) m30.res := runF_fn rfl
theorem r31 : runF ⟨fnOf, sp, L⟩ (n + 1) d π 31 args H = runOut (evC ⟨fnOf, sp, L⟩ (runF ⟨fnOf, sp, L⟩ n) d m31.code π ⟨argEnv 0 args, H, 0⟩) m31.res := runF_fn rfl
theorem r32 : runF ⟨fnOf, sp, L⟩ (n + 1) d π 32 args H = runOut (evC ⟨fnOf, sp, L⟩ (runF ⟨fnOf, sp, L⟩ n) d m32.code π ⟨argEnv 0 args, H, 0⟩) m32.res := runF_fn rfl
theorem r33 : runF ⟨fnOf, sp, L⟩ (n + 1) d π 33 args H = runOut (evC ⟨fnOf, sp, L⟩ (runF ⟨fnOf, sp, L⟩ n) d m33.code π ⟨argEnv 0 args, H, 0⟩) m33.res := runF_fn rfl
theorem r34 : runF ⟨fnOf, sp, L⟩ (n + 1) d π 34 args H = runOut (evC ⟨fnOf, sp, L⟩ (runF ⟨fnOf, sp, L⟩ n) d m34.code π ⟨argEnv 0 args, H, 0⟩) m34.res := runF_fn rfl
theorem r35 : runF ⟨fnOf, sp, L⟩ (n + 1) d π 35 args H = runOut (evC ⟨fnOf, sp, L⟩ (runF ⟨fnOf, sp, L⟩ n) d m35.code π ⟨argEnv 0 args, H, 0⟩) m35.res := runF_fn rfl
theorem r36 : runF ⟨fnOf, sp, L⟩ (n + 1) d π 36 args H = runOut (evC ⟨fnOf, sp, L⟩ (runF ⟨fnOf, sp, L⟩ n) d m36.code π ⟨argEnv 0 args, H, 0⟩) m36.res := runF_fn rfl
theorem r37 : runF ⟨fnOf, sp, L⟩ (n + 1) d π 37 args H = runOut (evC ⟨fnOf, sp, L⟩ (runF ⟨fnOf, sp, L⟩ n) d m37.code π ⟨argEnv 0 args, H, 0⟩) m37.res := runF_fn rfl
theorem r38 : runF ⟨fnOf, sp, L⟩ (n + 1) d π 38 args H = runOut (evC ⟨fnOf, sp, L⟩ (runF ⟨fnOf, sp, L⟩ n) d m38.code π ⟨argEnv 0 args, H, 0⟩) m38.res := runF_fn rfl
theorem r39 : runF ⟨fnOf, sp, L⟩ (n + 1) d π 39 args H = runOut (evC ⟨fnOf, sp, L⟩ (runF ⟨fnOf, sp, L⟩ n) d m39.code π ⟨argEnv 0 args, H, 0⟩) m39.res := runF_fn rfl
theorem r40 : runF ⟨fnOf, sp, L⟩ (n + 1) d π 40 args H = runOut (evC ⟨fnOf, sp, L⟩ (runF ⟨fnOf, sp, L⟩ n) d m40.code π ⟨argEnv 0 args, H, 0⟩) m40.res := runF_fn rfl
theorem r42 : runF ⟨fnOf, sp, L⟩ (n + 1) d π 42 args H = runOut (evC ⟨fnOf, sp, L⟩ (runF ⟨fnOf, sp, L⟩ n) d m42.code π ⟨argEnv 0 args, H, 0⟩) m42.res := runF_fn rfl
theorem r43 : runF ⟨fnOf, sp, L⟩ (n + 1) d π 43 args H = runOut (evC ⟨fnOf, sp, L⟩ (runF ⟨fnOf, sp, L⟩ n) d m43.code π ⟨argEnv 0 args, H, 0⟩) m43.res := runF_fn rfl
theorem r44 : runF ⟨fnOf, sp, L⟩ (n + 1) d π 44 args H = runOut (evC ⟨fnOf, sp, L⟩ (runF ⟨fnOf, sp, L⟩ n) d m44.code π ⟨argEnv 0 args, H, 0⟩) m44.res := runF_fn rfl
theorem r45 : runF ⟨fnOf, sp, L⟩ (n + 1) d π 45 args H = runOut (evC ⟨fnOf, sp, L⟩ (runF ⟨fnOf, sp, L⟩ n) d m45.code π ⟨argEnv 0 args, H, 0⟩) m45.res := runF_fn rfl
theorem r46 : runF ⟨fnOf, sp, L⟩ (n + 1) d π 46 args H = runOut (evC ⟨fnOf, sp, L⟩ (runF ⟨fnOf, sp, L⟩ n) d m46.code π ⟨argEnv 0 args, H, 0⟩) m46.res := runF_fn rfl
theorem r47 : runF ⟨fnOf, sp, L⟩ (n + 1) d π 47 args H = runOut (evC ⟨fnOf, sp, L⟩ (runF ⟨fnOf, sp, L⟩ n) d m47.code π ⟨argEnv 0 args, H, 0⟩) m47.res := runF_fn rfl
theorem r48 : runF ⟨fnOf, sp, L⟩ (n + 1) d π 48 args H = runOut (evC ⟨fnOf, sp, L⟩ (runF ⟨fnOf, sp, L⟩ n) d m48.code π ⟨argEnv 0 args, H, 0⟩) m48.res := runF_fn rfl
theorem r49 : runF ⟨fnOf, sp, L⟩ (n + 1) d π 49 args H = runOut (evC ⟨fnOf, sp, L⟩ (runF ⟨fnOf, sp, L⟩ n) d m49.code π ⟨argEnv 0 args, H, 0⟩) m49.res := runF_fn rfl
theorem r50 : runF ⟨fnOf, sp, L⟩ (n + 1) d π 50 args H = runOut (evC ⟨fnOf, sp, L⟩ (runF ⟨fnOf, sp, L⟩ n) d m50.code π ⟨argEnv 0 args, H, 0⟩) m50.res := runF_fn rfl
theorem r51 : runF ⟨fnOf, sp, L⟩ (n + 1) d π 51 args H = runOut (evC ⟨fnOf, sp, L⟩ (runF ⟨fnOf, sp, L⟩ n) d m51.code π ⟨argEnv 0 args, H, 0⟩) m51.res := runF_fn rfl
theorem r53 : runF ⟨fnOf, sp, L⟩ (n + 1) d π 53 args H = runOut (evC ⟨fnOf, sp, L⟩ (runF ⟨fnOf, sp, L⟩ n) d m53.code π ⟨argEnv 0 args, H, 0⟩) m53.res := runF_fn rfl
theorem r54 : runF ⟨fnOf, sp, L⟩ (n + 1) d π 54 args H = runOut (evC ⟨fnOf, sp, L⟩ (runF ⟨fnOf, sp, L⟩ n) d m54.code π ⟨argEnv 0 args, H, 0⟩) m54.res := runF_fn rfl
theorem r55 : runF ⟨fnOf, sp, L⟩ (n + 1) d π 55 args H = runOut (evC ⟨fnOf, sp, L⟩ (runF ⟨fnOf, sp, L⟩ n) d m55.code π ⟨argEnv 0 args, H, 0⟩) m55.res := runF_fn rfl
theorem r56 : runF ⟨fnOf, sp, L⟩ (n + 1) d π 56 args H = runOut (evC ⟨fnOf, sp, L⟩ (runF ⟨fnOf, sp, L⟩ n) d m56.code π ⟨argEnv 0 args, H, 0⟩) m56.res := runF_fn rfl
theorem r57 : runF ⟨fnOf, sp, L⟩ (n + 1) d π 57 args H = runOut (evC ⟨fnOf, sp, L⟩ (runF ⟨fnOf, sp, L⟩ n) d m57.code π ⟨argEnv 0 args, H, 0⟩) m57.res := runF_fn rfl
theorem r59 : runF ⟨fnOf, sp, L⟩ (n + 1) d π 59 args H = runOut (evC ⟨fnOf, sp, L⟩ (runF ⟨fnOf, sp, L⟩ n) d m59.code π ⟨argEnv 0 args, H, 0⟩) m59.res := runF_fn rfl
theorem r60 : runF ⟨fnOf, sp, L⟩ (n + 1) d π 60 args H = runOut (evC ⟨fnOf, sp, L⟩ (runF ⟨fnOf, sp, L⟩ n) d m60.code π ⟨argEnv 0 args, H, 0⟩) m60.res := runF_fn rfl
theorem r61 : runF ⟨fnOf, sp, L⟩ (n + 1) d π 61 args H = runOut (evC ⟨fnOf, sp, L⟩ (runF ⟨fnOf, sp, L⟩ n) d m61.code π ⟨argEnv 0 args, H, 0⟩) m61.res := runF_fn rfl
theorem r62 : runF ⟨fnOf, sp, L⟩ (n + 1) d π 62 args H = runOut (evC ⟨fnOf, sp, L⟩ (runF ⟨fnOf, sp, L⟩ n) d m62.code π ⟨argEnv 0 args, H, 0⟩) m62.res := runF_fn rfl
theorem r63 : runF ⟨fnOf, sp, L⟩ (n + 1) d π 63 args H = runOut (evC ⟨fnOf, sp, L⟩ (runF ⟨fnOf, sp, L⟩ n) d m63.code π ⟨argEnv 0 args, H, 0⟩) m63.res := runF_fn rfl
theorem r64 : runF ⟨fnOf, sp, L⟩ (n + 1) d π 64 args H = runOut (evC ⟨fnOf, sp, L⟩ (runF ⟨fnOf, sp, L⟩ n) d m64.code π ⟨argEnv 0 args, H, 0⟩) m64.res := runF_fn rfl
theorem r66 : runF ⟨fnOf, sp, L⟩ (n + 1) d π 66 args H = runOut (evC ⟨fnOf, sp, L⟩ (runF ⟨fnOf, sp, L⟩ n) d m66.code π ⟨argEnv 0 args, H, 0⟩) m66.res := runF_fn rfl
theorem c3 {t : Nat} {st : List Nat} (hs : sp 3 = none) : callIn ⟨fnOf, sp, L⟩ (runF ⟨fnOf, sp, L⟩ n) (inlOf ⟨fnOf, sp, L⟩ 3) d t st 3 args H = match optList (freeze H 8) args with | none => none | some avs => match den ⟨fnOf, sp, L⟩ n 3 avs with | some r => some (thawT d t st H r) | none => none := by
  rw [show inlOf ⟨fnOf, sp, L⟩ 3 = false by simp only [inlOf, hs]; rfl]
  exact callIn_den hs
theorem c4 {t : Nat} {st : List Nat} (hs : sp 4 = none) : callIn ⟨fnOf, sp, L⟩ (runF ⟨fnOf, sp, L⟩ n) (inlOf ⟨fnOf, sp, L⟩ 4) d t st 4 args H = match optList (freeze H 8) args with | none => none | some avs => match den ⟨fnOf, sp, L⟩ n 4 avs with | some r => some (thawT d t st H r) | none => none := by
  rw [show inlOf ⟨fnOf, sp, L⟩ 4 = false by simp only [inlOf, hs]; rfl]
  exact callIn_den hs
theorem c5 {t : Nat} {st : List Nat} (hs : sp 5 = none) : callIn ⟨fnOf, sp, L⟩ (runF ⟨fnOf, sp, L⟩ n) (inlOf ⟨fnOf, sp, L⟩ 5) d t st 5 args H = match optList (freeze H 8) args with | none => none | some avs => match den ⟨fnOf, sp, L⟩ n 5 avs with | some r => some (thawT d t st H r) | none => none := by
  rw [show inlOf ⟨fnOf, sp, L⟩ 5 = false by simp only [inlOf, hs]; rfl]
  exact callIn_den hs
theorem c6 {t : Nat} {st : List Nat} (hs : sp 6 = none) : callIn ⟨fnOf, sp, L⟩ (runF ⟨fnOf, sp, L⟩ n) (inlOf ⟨fnOf, sp, L⟩ 6) d t st 6 args H = match optList (freeze H 8) args with | none => none | some avs => match den ⟨fnOf, sp, L⟩ n 6 avs with | some r => some (thawT d t st H r) | none => none := by
  rw [show inlOf ⟨fnOf, sp, L⟩ 6 = false by simp only [inlOf, hs]; rfl]
  exact callIn_den hs
theorem c7 {t : Nat} {st : List Nat} (hs : sp 7 = none) : callIn ⟨fnOf, sp, L⟩ (runF ⟨fnOf, sp, L⟩ n) (inlOf ⟨fnOf, sp, L⟩ 7) d t st 7 args H = match optList (freeze H 8) args with | none => none | some avs => match den ⟨fnOf, sp, L⟩ n 7 avs with | some r => some (thawT d t st H r) | none => none := by
  rw [show inlOf ⟨fnOf, sp, L⟩ 7 = false by simp only [inlOf, hs]; rfl]
  exact callIn_den hs
theorem c8 {t : Nat} {st : List Nat} (hs : sp 8 = none) : callIn ⟨fnOf, sp, L⟩ (runF ⟨fnOf, sp, L⟩ n) (inlOf ⟨fnOf, sp, L⟩ 8) d t st 8 args H = match optList (freeze H 8) args with | none => none | some avs => match den ⟨fnOf, sp, L⟩ n 8 avs with | some r => some (thawT d t st H r) | none => none := by
  rw [show inlOf ⟨fnOf, sp, L⟩ 8 = false by simp only [inlOf, hs]; rfl]
  exact callIn_den hs
theorem c9 {t : Nat} {st : List Nat} (hs : sp 9 = none) : callIn ⟨fnOf, sp, L⟩ (runF ⟨fnOf, sp, L⟩ n) (inlOf ⟨fnOf, sp, L⟩ 9) d t st 9 args H = match optList (freeze H 8) args with | none => none | some avs => match den ⟨fnOf, sp, L⟩ n 9 avs with | some r => some (thawT d t st H r) | none => none := by
  rw [show inlOf ⟨fnOf, sp, L⟩ 9 = false by simp only [inlOf, hs]; rfl]
  exact callIn_den hs
theorem c10 {t : Nat} {st : List Nat} (hs : sp 10 = none) : callIn ⟨fnOf, sp, L⟩ (runF ⟨fnOf, sp, L⟩ n) (inlOf ⟨fnOf, sp, L⟩ 10) d t st 10 args H = match optList (freeze H 8) args with | none => none | some avs => match den ⟨fnOf, sp, L⟩ n 10 avs with | some r => some (thawT d t st H r) | none => none := by
  rw [show inlOf ⟨fnOf, sp, L⟩ 10 = false by simp only [inlOf, hs]; rfl]
  exact callIn_den hs
theorem c11 {t : Nat} {st : List Nat} (hs : sp 11 = none) : callIn ⟨fnOf, sp, L⟩ (runF ⟨fnOf, sp, L⟩ n) (inlOf ⟨fnOf, sp, L⟩ 11) d t st 11 args H = match optList (freeze H 8) args with | none => none | some avs => match den ⟨fnOf, sp, L⟩ n 11 avs with | some r => some (thawT d t st H r) | none => none := by
  rw [show inlOf ⟨fnOf, sp, L⟩ 11 = false by simp only [inlOf, hs]; rfl]
  exact callIn_den hs
theorem c12 {t : Nat} {st : List Nat} (hs : sp 12 = none) : callIn ⟨fnOf, sp, L⟩ (runF ⟨fnOf, sp, L⟩ n) (inlOf ⟨fnOf, sp, L⟩ 12) d t st 12 args H = match optList (freeze H 8) args with | none => none | some avs => match den ⟨fnOf, sp, L⟩ n 12 avs with | some r => some (thawT d t st H r) | none => none := by
  rw [show inlOf ⟨fnOf, sp, L⟩ 12 = false by simp only [inlOf, hs]; rfl]
  exact callIn_den hs
theorem c13 {t : Nat} {st : List Nat} (hs : sp 13 = none) : callIn ⟨fnOf, sp, L⟩ (runF ⟨fnOf, sp, L⟩ n) (inlOf ⟨fnOf, sp, L⟩ 13) d t st 13 args H = match optList (freeze H 8) args with | none => none | some avs => match den ⟨fnOf, sp, L⟩ n 13 avs with | some r => some (thawT d t st H r) | none => none := by
  rw [show inlOf ⟨fnOf, sp, L⟩ 13 = false by simp only [inlOf, hs]; rfl]
  exact callIn_den hs
theorem c14 {t : Nat} {st : List Nat} (hs : sp 14 = none) : callIn ⟨fnOf, sp, L⟩ (runF ⟨fnOf, sp, L⟩ n) (inlOf ⟨fnOf, sp, L⟩ 14) d t st 14 args H = match optList (freeze H 8) args with | none => none | some avs => match den ⟨fnOf, sp, L⟩ n 14 avs with | some r => some (thawT d t st H r) | none => none := by
  rw [show inlOf ⟨fnOf, sp, L⟩ 14 = false by simp only [inlOf, hs]; rfl]
  exact callIn_den hs
theorem c15 {t : Nat} {st : List Nat} (hs : sp 15 = none) : callIn ⟨fnOf, sp, L⟩ (runF ⟨fnOf, sp, L⟩ n) (inlOf ⟨fnOf, sp, L⟩ 15) d t st 15 args H = match optList (freeze H 8) args with | none => none | some avs => match den ⟨fnOf, sp, L⟩ n 15 avs with | some r => some (thawT d t st H r) | none => none := by
  rw [show inlOf ⟨fnOf, sp, L⟩ 15 = false by simp only [inlOf, hs]; rfl]
  exact callIn_den hs
theorem c16 {t : Nat} {st : List Nat} (hs : sp 16 = none) : callIn ⟨fnOf, sp, L⟩ (runF ⟨fnOf, sp, L⟩ n) (inlOf ⟨fnOf, sp, L⟩ 16) d t st 16 args H = match optList (freeze H 8) args with | none => none | some avs => match den ⟨fnOf, sp, L⟩ n 16 avs with | some r => some (thawT d t st H r) | none => none := by
  rw [show inlOf ⟨fnOf, sp, L⟩ 16 = false by simp only [inlOf, hs]; rfl]
  exact callIn_den hs
theorem c17 {t : Nat} {st : List Nat} (hs : sp 17 = none) : callIn ⟨fnOf, sp, L⟩ (runF ⟨fnOf, sp, L⟩ n) (inlOf ⟨fnOf, sp, L⟩ 17) d t st 17 args H = match optList (freeze H 8) args with | none => none | some avs => match den ⟨fnOf, sp, L⟩ n 17 avs with | some r => some (thawT d t st H r) | none => none := by
  rw [show inlOf ⟨fnOf, sp, L⟩ 17 = false by simp only [inlOf, hs]; rfl]
  exact callIn_den hs
theorem c18 {t : Nat} {st : List Nat} (hs : sp 18 = none) : callIn ⟨fnOf, sp, L⟩ (runF ⟨fnOf, sp, L⟩ n) (inlOf ⟨fnOf, sp, L⟩ 18) d t st 18 args H = match optList (freeze H 8) args with | none => none | some avs => match den ⟨fnOf, sp, L⟩ n 18 avs with | some r => some (thawT d t st H r) | none => none := by
  rw [show inlOf ⟨fnOf, sp, L⟩ 18 = false by simp only [inlOf, hs]; rfl]
  exact callIn_den hs
theorem c19 {t : Nat} {st : List Nat} (hs : sp 19 = none) : callIn ⟨fnOf, sp, L⟩ (runF ⟨fnOf, sp, L⟩ n) (inlOf ⟨fnOf, sp, L⟩ 19) d t st 19 args H = match optList (freeze H 8) args with | none => none | some avs => match den ⟨fnOf, sp, L⟩ n 19 avs with | some r => some (thawT d t st H r) | none => none := by
  rw [show inlOf ⟨fnOf, sp, L⟩ 19 = false by simp only [inlOf, hs]; rfl]
  exact callIn_den hs
theorem c20 {t : Nat} {st : List Nat} (hs : sp 20 = none) : callIn ⟨fnOf, sp, L⟩ (runF ⟨fnOf, sp, L⟩ n) (inlOf ⟨fnOf, sp, L⟩ 20) d t st 20 args H = match optList (freeze H 8) args with | none => none | some avs => match den ⟨fnOf, sp, L⟩ n 20 avs with | some r => some (thawT d t st H r) | none => none := by
  rw [show inlOf ⟨fnOf, sp, L⟩ 20 = false by simp only [inlOf, hs]; rfl]
  exact callIn_den hs
theorem c21 {t : Nat} {st : List Nat} (hs : sp 21 = none) : callIn ⟨fnOf, sp, L⟩ (runF ⟨fnOf, sp, L⟩ n) (inlOf ⟨fnOf, sp, L⟩ 21) d t st 21 args H = match optList (freeze H 8) args with | none => none | some avs => match den ⟨fnOf, sp, L⟩ n 21 avs with | some r => some (thawT d t st H r) | none => none := by
  rw [show inlOf ⟨fnOf, sp, L⟩ 21 = false by simp only [inlOf, hs]; rfl]
  exact callIn_den hs
theorem c23 {t : Nat} {st : List Nat} (hs : sp 23 = none) : callIn ⟨fnOf, sp, L⟩ (runF ⟨fnOf, sp, L⟩ n) (inlOf ⟨fnOf, sp, L⟩ 23) d t st 23 args H = match optList (freeze H 8) args with | none => none | some avs => match den ⟨fnOf, sp, L⟩ n 23 avs with | some r => some (thawT d t st H r) | none => none := by
  rw [show inlOf ⟨fnOf, sp, L⟩ 23 = false by simp only [inlOf, hs]; rfl]
  exact callIn_den hs
theorem c24 {t : Nat} {st : List Nat} (hs : sp 24 = none) : callIn ⟨fnOf, sp, L⟩ (runF ⟨fnOf, sp, L⟩ n) (inlOf ⟨fnOf, sp, L⟩ 24) d t st 24 args H = match optList (freeze H 8) args with | none => none | some avs => match den ⟨fnOf, sp, L⟩ n 24 avs with | some r => some (thawT d t st H r) | none => none := by
  rw [show inlOf ⟨fnOf, sp, L⟩ 24 = false by simp only [inlOf, hs]; rfl]
  exact callIn_den hs
theorem c25 {t : Nat} {st : List Nat} (hs : sp 25 = none) : callIn ⟨fnOf, sp, L⟩ (runF ⟨fnOf, sp, L⟩ n) (inlOf ⟨fnOf, sp, L⟩ 25) d t st 25 args H = match optList (freeze H 8) args with | none => none | some avs => match den ⟨fnOf, sp, L⟩ n 25 avs with | some r => some (thawT d t st H r) | none => none := by
  rw [show inlOf ⟨fnOf, sp, L⟩ 25 = false by simp only [inlOf, hs]; rfl]
  exact callIn_den hs
theorem c26 {t : Nat} {st : List Nat} (hs : sp 26 = none) : callIn ⟨fnOf, sp, L⟩ (runF ⟨fnOf, sp, L⟩ n) (inlOf ⟨fnOf, sp, L⟩ 26) d t st 26 args H = match optList (freeze H 8) args with | none => none | some avs => match den ⟨fnOf, sp, L⟩ n 26 avs with | some r => some (thawT d t st H r) | none => none := by
  rw [show inlOf ⟨fnOf, sp, L⟩ 26 = false by simp only [inlOf, hs]; rfl]
  exact callIn_den hs
theorem c27 {t : Nat} {st : List Nat} (hs : sp 27 = none) : callIn ⟨fnOf, sp, L⟩ (runF ⟨fnOf, sp, L⟩ n) (inlOf ⟨fnOf, sp, L⟩ 27) d t st 27 args H = match optList (freeze H 8) args with | none => none | some avs => match den ⟨fnOf, sp, L⟩ n 27 avs with | some r => some (thawT d t st H r) | none => none := by
  rw [show inlOf ⟨fnOf, sp, L⟩ 27 = false by simp only [inlOf, hs]; rfl]
  exact callIn_den hs
theorem c28 {t : Nat} {st : List Nat} (hs : sp 28 = none) : callIn ⟨fnOf, sp, L⟩ (runF ⟨fnOf, sp, L⟩ n) (inlOf ⟨fnOf, sp, L⟩ 28) d t st 28 args H = match optList (freeze H 8) args with | none => none | some avs => match den ⟨fnOf, sp, L⟩ n 28 avs with | some r => some (thawT d t st H r) | none => none := by
  rw [show inlOf ⟨fnOf, sp, L⟩ 28 = false by simp only [inlOf, hs]; rfl]
  exact callIn_den hs
theorem c29 {t : Nat} {st : List Nat} (hs : sp 29 = none) : callIn ⟨fnOf, sp, L⟩ (runF ⟨fnOf, sp, L⟩ n) (inlOf ⟨fnOf, sp, L⟩ 29) d t st 29 args H = match optList (freeze H 8) args with | none => none | some avs => match den ⟨fnOf, sp, L⟩ n 29 avs with | some r => some (thawT d t st H r) | none => none := by
  rw [show inlOf ⟨fnOf, sp, L⟩ 29 = false by simp only [inlOf, hs]; rfl]
  exact callIn_den hs
theorem c30 {t : Nat} {st : List Nat} (hs : sp 30 = none) : callIn ⟨fnOf, sp, L⟩ (runF ⟨fnOf, sp, L⟩ n) (inlOf ⟨fnOf, sp, L⟩ 30) d t st 30 args H = match optList (freeze H 8) args with | none => none | some avs => match den ⟨fnOf, sp, L⟩ n 30 avs with | some r => some (thawT d t st H r) | none => none := by
  rw [show inlOf ⟨fnOf, sp, L⟩ 30 = false by simp only [inlOf, hs]; rfl]
  exact callIn_den hs
theorem c31 {t : Nat} {st : List Nat} (hs : sp 31 = none) : callIn ⟨fnOf, sp, L⟩ (runF ⟨fnOf, sp, L⟩ n) (inlOf ⟨fnOf, sp, L⟩ 31) d t st 31 args H = match optList (freeze H 8) args with | none => none | some avs => match den ⟨fnOf, sp, L⟩ n 31 avs with | some r => some (thawT d t st H r) | none => none := by
  rw [show inlOf ⟨fnOf, sp, L⟩ 31 = false by simp only [inlOf, hs]; rfl]
  exact callIn_den hs
theorem c32 {t : Nat} {st : List Nat} (hs : sp 32 = none) : callIn ⟨fnOf, sp, L⟩ (runF ⟨fnOf, sp, L⟩ n) (inlOf ⟨fnOf, sp, L⟩ 32) d t st 32 args H = match optList (freeze H 8) args with | none => none | some avs => match den ⟨fnOf, sp, L⟩ n 32 avs with | some r => some (thawT d t st H r) | none => none := by
  rw [show inlOf ⟨fnOf, sp, L⟩ 32 = false by simp only [inlOf, hs]; rfl]
  exact callIn_den hs
theorem c33 {t : Nat} {st : List Nat} (hs : sp 33 = none) : callIn ⟨fnOf, sp, L⟩ (runF ⟨fnOf, sp, L⟩ n) (inlOf ⟨fnOf, sp, L⟩ 33) d t st 33 args H = match optList (freeze H 8) args with | none => none | some avs => match den ⟨fnOf, sp, L⟩ n 33 avs with | some r => some (thawT d t st H r) | none => none := by
  rw [show inlOf ⟨fnOf, sp, L⟩ 33 = false by simp only [inlOf, hs]; rfl]
  exact callIn_den hs
theorem c34 {t : Nat} {st : List Nat} (hs : sp 34 = none) : callIn ⟨fnOf, sp, L⟩ (runF ⟨fnOf, sp, L⟩ n) (inlOf ⟨fnOf, sp, L⟩ 34) d t st 34 args H = match optList (freeze H 8) args with | none => none | some avs => match den ⟨fnOf, sp, L⟩ n 34 avs with | some r => some (thawT d t st H r) | none => none := by
  rw [show inlOf ⟨fnOf, sp, L⟩ 34 = false by simp only [inlOf, hs]; rfl]
  exact callIn_den hs
theorem c35 {t : Nat} {st : List Nat} (hs : sp 35 = none) : callIn ⟨fnOf, sp, L⟩ (runF ⟨fnOf, sp, L⟩ n) (inlOf ⟨fnOf, sp, L⟩ 35) d t st 35 args H = match optList (freeze H 8) args with | none => none | some avs => match den ⟨fnOf, sp, L⟩ n 35 avs with | some r => some (thawT d t st H r) | none => none := by
  rw [show inlOf ⟨fnOf, sp, L⟩ 35 = false by simp only [inlOf, hs]; rfl]
  exact callIn_den hs
theorem c36 {t : Nat} {st : List Nat} (hs : sp 36 = none) : callIn ⟨fnOf, sp, L⟩ (runF ⟨fnOf, sp, L⟩ n) (inlOf ⟨fnOf, sp, L⟩ 36) d t st 36 args H = match optList (freeze H 8) args with | none => none | some avs => match den ⟨fnOf, sp, L⟩ n 36 avs with | some r => some (thawT d t st H r) | none => none := by
  rw [show inlOf ⟨fnOf, sp, L⟩ 36 = false by simp only [inlOf, hs]; rfl]
  exact callIn_den hs
theorem c37 {t : Nat} {st : List Nat} (hs : sp 37 = none) : callIn ⟨fnOf, sp, L⟩ (runF ⟨fnOf, sp, L⟩ n) (inlOf ⟨fnOf, sp, L⟩ 37) d t st 37 args H = match optList (freeze H 8) args with | none => none | some avs => match den ⟨fnOf, sp, L⟩ n 37 avs with | some r => some (thawT d t st H r) | none => none := by
  rw [show inlOf ⟨fnOf, sp, L⟩ 37 = false by simp only [inlOf, hs]; rfl]
  exact callIn_den hs
theorem c38 {t : Nat} {st : List Nat} (hs : sp 38 = none) : callIn ⟨fnOf, sp, L⟩ (runF ⟨fnOf, sp, L⟩ n) (inlOf ⟨fnOf, sp, L⟩ 38) d t st 38 args H = match optList (freeze H 8) args with | none => none | some avs => match den ⟨fnOf, sp, L⟩ n 38 avs with | some r => some (thawT d t st H r) | none => none := by
  rw [show inlOf ⟨fnOf, sp, L⟩ 38 = false by simp only [inlOf, hs]; rfl]
  exact callIn_den hs
theorem c39 {t : Nat} {st : List Nat} (hs : sp 39 = none) : callIn ⟨fnOf, sp, L⟩ (runF ⟨fnOf, sp, L⟩ n) (inlOf ⟨fnOf, sp, L⟩ 39) d t st 39 args H = match optList (freeze H 8) args with | none => none | some avs => match den ⟨fnOf, sp, L⟩ n 39 avs with | some r => some (thawT d t st H r) | none => none := by
  rw [show inlOf ⟨fnOf, sp, L⟩ 39 = false by simp only [inlOf, hs]; rfl]
  exact callIn_den hs
theorem c40 {t : Nat} {st : List Nat} (hs : sp 40 = none) : callIn ⟨fnOf, sp, L⟩ (runF ⟨fnOf, sp, L⟩ n) (inlOf ⟨fnOf, sp, L⟩ 40) d t st 40 args H = match optList (freeze H 8) args with | none => none | some avs => match den ⟨fnOf, sp, L⟩ n 40 avs with | some r => some (thawT d t st H r) | none => none := by
  rw [show inlOf ⟨fnOf, sp, L⟩ 40 = false by simp only [inlOf, hs]; rfl]
  exact callIn_den hs
theorem c42 {t : Nat} {st : List Nat} (hs : sp 42 = none) : callIn ⟨fnOf, sp, L⟩ (runF ⟨fnOf, sp, L⟩ n) (inlOf ⟨fnOf, sp, L⟩ 42) d t st 42 args H = match optList (freeze H 8) args with | none => none | some avs => match den ⟨fnOf, sp, L⟩ n 42 avs with | some r => some (thawT d t st H r) | none => none := by
  rw [show inlOf ⟨fnOf, sp, L⟩ 42 = false by simp only [inlOf, hs]; rfl]
  exact callIn_den hs
theorem c43 {t : Nat} {st : List Nat} (hs : sp 43 = none) : callIn ⟨fnOf, sp, L⟩ (runF ⟨fnOf, sp, L⟩ n) (inlOf ⟨fnOf, sp, L⟩ 43) d t st 43 args H = match optList (freeze H 8) args with | none => none | some avs => match den ⟨fnOf, sp, L⟩ n 43 avs with | some r => some (thawT d t st H r) | none => none := by
  rw [show inlOf ⟨fnOf, sp, L⟩ 43 = false by simp only [inlOf, hs]; rfl]
  exact callIn_den hs
theorem c44 {t : Nat} {st : List Nat} (hs : sp 44 = none) : callIn ⟨fnOf, sp, L⟩ (runF ⟨fnOf, sp, L⟩ n) (inlOf ⟨fnOf, sp, L⟩ 44) d t st 44 args H = match optList (freeze H 8) args with | none => none | some avs => match den ⟨fnOf, sp, L⟩ n 44 avs with | some r => some (thawT d t st H r) | none => none := by
  rw [show inlOf ⟨fnOf, sp, L⟩ 44 = false by simp only [inlOf, hs]; rfl]
  exact callIn_den hs
theorem c45 {t : Nat} {st : List Nat} (hs : sp 45 = none) : callIn ⟨fnOf, sp, L⟩ (runF ⟨fnOf, sp, L⟩ n) (inlOf ⟨fnOf, sp, L⟩ 45) d t st 45 args H = match optList (freeze H 8) args with | none => none | some avs => match den ⟨fnOf, sp, L⟩ n 45 avs with | some r => some (thawT d t st H r) | none => none := by
  rw [show inlOf ⟨fnOf, sp, L⟩ 45 = false by simp only [inlOf, hs]; rfl]
  exact callIn_den hs
theorem c46 {t : Nat} {st : List Nat} (hs : sp 46 = none) : callIn ⟨fnOf, sp, L⟩ (runF ⟨fnOf, sp, L⟩ n) (inlOf ⟨fnOf, sp, L⟩ 46) d t st 46 args H = match optList (freeze H 8) args with | none => none | some avs => match den ⟨fnOf, sp, L⟩ n 46 avs with | some r => some (thawT d t st H r) | none => none := by
  rw [show inlOf ⟨fnOf, sp, L⟩ 46 = false by simp only [inlOf, hs]; rfl]
  exact callIn_den hs
theorem c47 {t : Nat} {st : List Nat} (hs : sp 47 = none) : callIn ⟨fnOf, sp, L⟩ (runF ⟨fnOf, sp, L⟩ n) (inlOf ⟨fnOf, sp, L⟩ 47) d t st 47 args H = match optList (freeze H 8) args with | none => none | some avs => match den ⟨fnOf, sp, L⟩ n 47 avs with | some r => some (thawT d t st H r) | none => none := by
  rw [show inlOf ⟨fnOf, sp, L⟩ 47 = false by simp only [inlOf, hs]; rfl]
  exact callIn_den hs
theorem c48 {t : Nat} {st : List Nat} (hs : sp 48 = none) : callIn ⟨fnOf, sp, L⟩ (runF ⟨fnOf, sp, L⟩ n) (inlOf ⟨fnOf, sp, L⟩ 48) d t st 48 args H = match optList (freeze H 8) args with | none => none | some avs => match den ⟨fnOf, sp, L⟩ n 48 avs with | some r => some (thawT d t st H r) | none => none := by
  rw [show inlOf ⟨fnOf, sp, L⟩ 48 = false by simp only [inlOf, hs]; rfl]
  exact callIn_den hs
theorem c49 {t : Nat} {st : List Nat} (hs : sp 49 = none) : callIn ⟨fnOf, sp, L⟩ (runF ⟨fnOf, sp, L⟩ n) (inlOf ⟨fnOf, sp, L⟩ 49) d t st 49 args H = match optList (freeze H 8) args with | none => none | some avs => match den ⟨fnOf, sp, L⟩ n 49 avs with | some r => some (thawT d t st H r) | none => none := by
  rw [show inlOf ⟨fnOf, sp, L⟩ 49 = false by simp only [inlOf, hs]; rfl]
  exact callIn_den hs
theorem c50 {t : Nat} {st : List Nat} (hs : sp 50 = none) : callIn ⟨fnOf, sp, L⟩ (runF ⟨fnOf, sp, L⟩ n) (inlOf ⟨fnOf, sp, L⟩ 50) d t st 50 args H = match optList (freeze H 8) args with | none => none | some avs => match den ⟨fnOf, sp, L⟩ n 50 avs with | some r => some (thawT d t st H r) | none => none := by
  rw [show inlOf ⟨fnOf, sp, L⟩ 50 = false by simp only [inlOf, hs]; rfl]
  exact callIn_den hs
theorem c51 {t : Nat} {st : List Nat} (hs : sp 51 = none) : callIn ⟨fnOf, sp, L⟩ (runF ⟨fnOf, sp, L⟩ n) (inlOf ⟨fnOf, sp, L⟩ 51) d t st 51 args H = match optList (freeze H 8) args with | none => none | some avs => match den ⟨fnOf, sp, L⟩ n 51 avs with | some r => some (thawT d t st H r) | none => none := by
  rw [show inlOf ⟨fnOf, sp, L⟩ 51 = false by simp only [inlOf, hs]; rfl]
  exact callIn_den hs
theorem c53 {t : Nat} {st : List Nat} (hs : sp 53 = none) : callIn ⟨fnOf, sp, L⟩ (runF ⟨fnOf, sp, L⟩ n) (inlOf ⟨fnOf, sp, L⟩ 53) d t st 53 args H = match optList (freeze H 8) args with | none => none | some avs => match den ⟨fnOf, sp, L⟩ n 53 avs with | some r => some (thawT d t st H r) | none => none := by
  rw [show inlOf ⟨fnOf, sp, L⟩ 53 = false by simp only [inlOf, hs]; rfl]
  exact callIn_den hs
theorem c54 {t : Nat} {st : List Nat} (hs : sp 54 = none) : callIn ⟨fnOf, sp, L⟩ (runF ⟨fnOf, sp, L⟩ n) (inlOf ⟨fnOf, sp, L⟩ 54) d t st 54 args H = match optList (freeze H 8) args with | none => none | some avs => match den ⟨fnOf, sp, L⟩ n 54 avs with | some r => some (thawT d t st H r) | none => none := by
  rw [show inlOf ⟨fnOf, sp, L⟩ 54 = false by simp only [inlOf, hs]; rfl]
  exact callIn_den hs
theorem c55 {t : Nat} {st : List Nat} (hs : sp 55 = none) : callIn ⟨fnOf, sp, L⟩ (runF ⟨fnOf, sp, L⟩ n) (inlOf ⟨fnOf, sp, L⟩ 55) d t st 55 args H = match optList (freeze H 8) args with | none => none | some avs => match den ⟨fnOf, sp, L⟩ n 55 avs with | some r => some (thawT d t st H r) | none => none := by
  rw [show inlOf ⟨fnOf, sp, L⟩ 55 = false by simp only [inlOf, hs]; rfl]
  exact callIn_den hs
theorem c56 {t : Nat} {st : List Nat} (hs : sp 56 = none) : callIn ⟨fnOf, sp, L⟩ (runF ⟨fnOf, sp, L⟩ n) (inlOf ⟨fnOf, sp, L⟩ 56) d t st 56 args H = match optList (freeze H 8) args with | none => none | some avs => match den ⟨fnOf, sp, L⟩ n 56 avs with | some r => some (thawT d t st H r) | none => none := by
  rw [show inlOf ⟨fnOf, sp, L⟩ 56 = false by simp only [inlOf, hs]; rfl]
  exact callIn_den hs
theorem c57 {t : Nat} {st : List Nat} (hs : sp 57 = none) : callIn ⟨fnOf, sp, L⟩ (runF ⟨fnOf, sp, L⟩ n) (inlOf ⟨fnOf, sp, L⟩ 57) d t st 57 args H = match optList (freeze H 8) args with | none => none | some avs => match den ⟨fnOf, sp, L⟩ n 57 avs with | some r => some (thawT d t st H r) | none => none := by
  rw [show inlOf ⟨fnOf, sp, L⟩ 57 = false by simp only [inlOf, hs]; rfl]
  exact callIn_den hs
theorem c59 {t : Nat} {st : List Nat} (hs : sp 59 = none) : callIn ⟨fnOf, sp, L⟩ (runF ⟨fnOf, sp, L⟩ n) (inlOf ⟨fnOf, sp, L⟩ 59) d t st 59 args H = match optList (freeze H 8) args with | none => none | some avs => match den ⟨fnOf, sp, L⟩ n 59 avs with | some r => some (thawT d t st H r) | none => none := by
  rw [show inlOf ⟨fnOf, sp, L⟩ 59 = false by simp only [inlOf, hs]; rfl]
  exact callIn_den hs
theorem c60 {t : Nat} {st : List Nat} (hs : sp 60 = none) : callIn ⟨fnOf, sp, L⟩ (runF ⟨fnOf, sp, L⟩ n) (inlOf ⟨fnOf, sp, L⟩ 60) d t st 60 args H = match optList (freeze H 8) args with | none => none | some avs => match den ⟨fnOf, sp, L⟩ n 60 avs with | some r => some (thawT d t st H r) | none => none := by
  rw [show inlOf ⟨fnOf, sp, L⟩ 60 = false by simp only [inlOf, hs]; rfl]
  exact callIn_den hs
theorem c61 {t : Nat} {st : List Nat} (hs : sp 61 = none) : callIn ⟨fnOf, sp, L⟩ (runF ⟨fnOf, sp, L⟩ n) (inlOf ⟨fnOf, sp, L⟩ 61) d t st 61 args H = match optList (freeze H 8) args with | none => none | some avs => match den ⟨fnOf, sp, L⟩ n 61 avs with | some r => some (thawT d t st H r) | none => none := by
  rw [show inlOf ⟨fnOf, sp, L⟩ 61 = false by simp only [inlOf, hs]; rfl]
  exact callIn_den hs
theorem c62 {t : Nat} {st : List Nat} (hs : sp 62 = none) : callIn ⟨fnOf, sp, L⟩ (runF ⟨fnOf, sp, L⟩ n) (inlOf ⟨fnOf, sp, L⟩ 62) d t st 62 args H = match optList (freeze H 8) args with | none => none | some avs => match den ⟨fnOf, sp, L⟩ n 62 avs with | some r => some (thawT d t st H r) | none => none := by
  rw [show inlOf ⟨fnOf, sp, L⟩ 62 = false by simp only [inlOf, hs]; rfl]
  exact callIn_den hs
theorem c63 {t : Nat} {st : List Nat} (hs : sp 63 = none) : callIn ⟨fnOf, sp, L⟩ (runF ⟨fnOf, sp, L⟩ n) (inlOf ⟨fnOf, sp, L⟩ 63) d t st 63 args H = match optList (freeze H 8) args with | none => none | some avs => match den ⟨fnOf, sp, L⟩ n 63 avs with | some r => some (thawT d t st H r) | none => none := by
  rw [show inlOf ⟨fnOf, sp, L⟩ 63 = false by simp only [inlOf, hs]; rfl]
  exact callIn_den hs
theorem c64 {t : Nat} {st : List Nat} (hs : sp 64 = none) : callIn ⟨fnOf, sp, L⟩ (runF ⟨fnOf, sp, L⟩ n) (inlOf ⟨fnOf, sp, L⟩ 64) d t st 64 args H = match optList (freeze H 8) args with | none => none | some avs => match den ⟨fnOf, sp, L⟩ n 64 avs with | some r => some (thawT d t st H r) | none => none := by
  rw [show inlOf ⟨fnOf, sp, L⟩ 64 = false by simp only [inlOf, hs]; rfl]
  exact callIn_den hs
theorem c66 {t : Nat} {st : List Nat} (hs : sp 66 = none) : callIn ⟨fnOf, sp, L⟩ (runF ⟨fnOf, sp, L⟩ n) (inlOf ⟨fnOf, sp, L⟩ 66) d t st 66 args H = match optList (freeze H 8) args with | none => none | some avs => match den ⟨fnOf, sp, L⟩ n 66 avs with | some r => some (thawT d t st H r) | none => none := by
  rw [show inlOf ⟨fnOf, sp, L⟩ 66 = false by simp only [inlOf, hs]; rfl]
  exact callIn_den hs
end
theorem fnsOk (spec : FuncId → Option (List AV → Option AV)) (L : Nat) : FnsOk Try.prog ⟨fnOf, spec, L⟩ := by
  intro f fm h
  simp only [fnOf] at h
  split at h
  · cases h; exact ⟨_, Try.func3, ne_of_beq_false (by kernel_rfl), ok3⟩
  · cases h; exact ⟨_, Try.func4, ne_of_beq_false (by kernel_rfl), ok4⟩
  · cases h; exact ⟨_, Try.func5, ne_of_beq_false (by kernel_rfl), ok5⟩
  · cases h; exact ⟨_, Try.func6, ne_of_beq_false (by kernel_rfl), ok6⟩
  · cases h; exact ⟨_, Try.func7, ne_of_beq_false (by kernel_rfl), ok7⟩
  · cases h; exact ⟨_, Try.func8, ne_of_beq_false (by kernel_rfl), ok8⟩
  · cases h; exact ⟨_, Try.func9, ne_of_beq_false (by kernel_rfl), ok9⟩
  · cases h; exact ⟨_, Try.func10, ne_of_beq_false (by kernel_rfl), ok10⟩
  · cases h; exact ⟨_, Try.func11, ne_of_beq_false (by kernel_rfl), ok11⟩
  · cases h; exact ⟨_, Try.func12, ne_of_beq_false (by kernel_rfl), ok12⟩
  · cases h; exact ⟨_, Try.func13, ne_of_beq_false (by kernel_rfl), ok13⟩
  · cases h; exact ⟨_, Try.func14, ne_of_beq_false (by kernel_rfl), ok14⟩
  · cases h; exact ⟨_, Try.func15, ne_of_beq_false (by kernel_rfl), ok15⟩
  · cases h; exact ⟨_, Try.func16, ne_of_beq_false (by kernel_rfl), ok16⟩
  · cases h; exact ⟨_, Try.func17, ne_of_beq_false (by kernel_rfl), ok17⟩
  · cases h; exact ⟨_, Try.func18, ne_of_beq_false (by kernel_rfl), ok18⟩
  · cases h; exact ⟨_, Try.func19, ne_of_beq_false (by kernel_rfl), ok19⟩
  · cases h; exact ⟨_, Try.func20, ne_of_beq_false (by kernel_rfl), ok20⟩
  · cases h; exact ⟨_, Try.func21, ne_of_beq_false (by kernel_rfl), ok21⟩
  · cases h; exact ⟨_, Try.func23, ne_of_beq_false (by kernel_rfl), ok23⟩
  · cases h; exact ⟨_, Try.func24, ne_of_beq_false (by kernel_rfl), ok24⟩
  · cases h; exact ⟨_, Try.func25, ne_of_beq_false (by kernel_rfl), ok25⟩
  · cases h; exact ⟨_, Try.func26, ne_of_beq_false (by kernel_rfl), ok26⟩
  · cases h; exact ⟨_, Try.func27, ne_of_beq_false (by kernel_rfl), ok27⟩
  · cases h; exact ⟨_, Try.func28, ne_of_beq_false (by kernel_rfl), ok28⟩
  · cases h; exact ⟨_, Try.func29, ne_of_beq_false (by kernel_rfl), ok29⟩
  · cases h; exact ⟨_, Try.func30, ne_of_beq_false (by kernel_rfl), ok30⟩
  · cases h; exact ⟨_, Try.func31, ne_of_beq_false (by kernel_rfl), ok31⟩
  · cases h; exact ⟨_, Try.func32, ne_of_beq_false (by kernel_rfl), ok32⟩
  · cases h; exact ⟨_, Try.func33, ne_of_beq_false (by kernel_rfl), ok33⟩
  · cases h; exact ⟨_, Try.func34, ne_of_beq_false (by kernel_rfl), ok34⟩
  · cases h; exact ⟨_, Try.func35, ne_of_beq_false (by kernel_rfl), ok35⟩
  · cases h; exact ⟨_, Try.func36, ne_of_beq_false (by kernel_rfl), ok36⟩
  · cases h; exact ⟨_, Try.func37, ne_of_beq_false (by kernel_rfl), ok37⟩
  · cases h; exact ⟨_, Try.func38, ne_of_beq_false (by kernel_rfl), ok38⟩
  · cases h; exact ⟨_, Try.func39, ne_of_beq_false (by kernel_rfl), ok39⟩
  · cases h; exact ⟨_, Try.func40, ne_of_beq_false (by kernel_rfl), ok40⟩
  · cases h; exact ⟨_, Try.func42, ne_of_beq_false (by kernel_rfl), ok42⟩
  · cases h; exact ⟨_, Try.func43, ne_of_beq_false (by kernel_rfl), ok43⟩
  · cases h; exact ⟨_, Try.func44, ne_of_beq_false (by kernel_rfl), ok44⟩
  · cases h; exact ⟨_, Try.func45, ne_of_beq_false (by kernel_rfl), ok45⟩
  · cases h; exact ⟨_, Try.func46, ne_of_beq_false (by kernel_rfl), ok46⟩
  · cases h; exact ⟨_, Try.func47, ne_of_beq_false (by kernel_rfl), ok47⟩
  · cases h; exact ⟨_, Try.func48, ne_of_beq_false (by kernel_rfl), ok48⟩
  · cases h; exact ⟨_, Try.func49, ne_of_beq_false (by kernel_rfl), ok49⟩
  · cases h; exact ⟨_, Try.func50, ne_of_beq_false (by kernel_rfl), ok50⟩
  · cases h; exact ⟨_, Try.func51, ne_of_beq_false (by kernel_rfl), ok51⟩
  · cases h; exact ⟨_, Try.func53, ne_of_beq_false (by kernel_rfl), ok53⟩
  · cases h; exact ⟨_, Try.func54, ne_of_beq_false (by kernel_rfl), ok54⟩
  · cases h; exact ⟨_, Try.func55, ne_of_beq_false (by kernel_rfl), ok55⟩
  · cases h; exact ⟨_, Try.func56, ne_of_beq_false (by kernel_rfl), ok56⟩
  · cases h; exact ⟨_, Try.func57, ne_of_beq_false (by kernel_rfl), ok57⟩
  · cases h; exact ⟨_, Try.func59, ne_of_beq_false (by kernel_rfl), ok59⟩
  · cases h; exact ⟨_, Try.func60, ne_of_beq_false (by kernel_rfl), ok60⟩
  · cases h; exact ⟨_, Try.func61, ne_of_beq_false (by kernel_rfl), ok61⟩
  · cases h; exact ⟨_, Try.func62, ne_of_beq_false (by kernel_rfl), ok62⟩
  · cases h; exact ⟨_, Try.func63, ne_of_beq_false (by kernel_rfl), ok63⟩
  · cases h; exact ⟨_, Try.func64, ne_of_beq_false (by kernel_rfl), ok64⟩
  · cases h; exact ⟨_, Try.func66, ne_of_beq_false (by kernel_rfl), ok66⟩
  · cases h
theorem follows : Try.prog.follows .mixedOrders = true := by kernel_rfl
theorem laidOut : laidOutB Try.prog = true := by kernel_rfl
theorem own : ownKnob Try.prog.godebug = none := by kernel_rfl
/-- what the evaluator answers, the program answers -/
theorem law {spec : FuncId → Option (List AV → Option AV)} {L k : Nat} {f : FuncId} {avs : List AV} {x : Value} (hS : SpecOk Try.prog ⟨fnOf, spec, L⟩) (h : den ⟨fnOf, spec, L⟩ k f avs = some (.v x)) {W : World} {args : Array Value} (hr : RelL (ρ0 fun _ => False) old0 W avs args.toList) :
    Calls Try.prog f args W fun e w' => e = .returned x ∧ RowKit.Below W.heap.size W w' :=
  den_calls hS (fnsOk _ _) (fun _ hC => draw_ok follows hC hS) h hr
end Go.Proofs.Ytldkgfbgndkbdaa.Fw
