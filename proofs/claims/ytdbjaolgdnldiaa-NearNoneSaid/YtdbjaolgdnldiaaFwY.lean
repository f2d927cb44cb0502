/- Each small code is what 'compFn' gives. Written by gen.py. -/
import Derived.Test.YtdbjaolgdnldiaaFwZ
import Derived.Test.YtdbjaolgdnldiaaFwW
import Derived.Test.YtdbjaolgdnldiaaRows
import Derived.Test.YtdbjaolgdnldiaaProg
import Derived.KernelRfl
set_option maxRecDepth 100000
namespace Go.Proofs.Ytdbjaolgdnldiaa.Fw
open Go Go.Proofs
theorem ok3 : compFn Try.prog false [(3, none, 1, true), (3, some 0, 1, true), (4, none, 1, true), (4, some 0, 1, true), (5, none, 1, true), (5, some 0, 1, true), (6, none, 2, true), (6, some 0, 2, true), (8, none, 2, true), (8, some 0, 2, true), (10, none, 2, true), (10, some 0, 2, true), (12, none, 2, true), (12, some 0, 2, true), (14, none, 2, true), (14, some 0, 2, true)] Try.f3 = some m3 := by kernel_rfl
theorem ok4 : compFn Try.prog false [(5, none, 1, true), (5, some 0, 1, true), (6, none, 1, true), (6, some 0, 1, true)] Try.f4 = some m4 := by kernel_rfl
theorem ok5 : compFn Try.prog false [(3, none, 2, true), (3, some 0, 2, true), (4, none, 1, true), (4, some 0, 1, true), (5, none, 1, true), (5, some 0, 1, true), (6, none, 2, true), (6, some 0, 2, true), (7, none, 1, true), (7, some 0, 1, true), (8, none, 1, true), (8, some 0, 1, true)] Try.f5 = some m5 := by kernel_rfl
theorem ok6 : compFn Try.prog false [(5, none, 2, true), (5, some 0, 2, true), (6, none, 1, true), (6, some 0, 1, true), (8, none, 1, true), (8, some 0, 1, true)] Try.f6 = some m6 := by kernel_rfl
theorem ok7 : compFn Try.prog false [(3, none, 2, true), (3, some 0, 2, true), (4, none, 1, true), (4, some 0, 1, true), (6, none, 1, true), (6, some 0, 1, true), (9, none, 1, true), (9, some 0, 1, true), (12, none, 2, true), (12, some 0, 2, true), (15, none, 1, true), (15, some 0, 1, true), (18, none, 2, true), (18, some 0, 2, true)] Try.f7 = some m7 := by kernel_rfl
theorem ok8 : compFn Try.prog false [(5, none, 1, true), (5, some 0, 1, true), (7, none, 1, true), (7, some 0, 1, true), (9, none, 1, true), (9, some 0, 1, true), (11, none, 1, true), (11, some 0, 1, true), (13, none, 1, true), (13, some 0, 1, true), (15, none, 1, true), (15, some 0, 1, true), (17, none, 1, true), (17, some 0, 1, true), (19, none, 1, true), (19, some 0, 1, true), (21, none, 2, true), (21, some 0, 2, true), (23, none, 2, true), (23, some 0, 2, true), (25, none, 1, true), (25, some 0, 1, true), (32, none, 2, true), (32, some 0, 2, true)] Try.f8 = some m8 := by kernel_rfl
theorem ok9 : compFn Try.prog false [(4, none, 1, true), (4, some 0, 1, true), (5, none, 1, true), (5, some 0, 1, true)] Try.f9 = some m9 := by kernel_rfl
theorem ok10 : compFn Try.prog false [(4, none, 1, true), (4, some 0, 1, true), (5, none, 1, true), (5, some 0, 1, true)] Try.f10 = some m10 := by kernel_rfl
theorem ok11 : compFn Try.prog false [(2, none, 1, true), (2, some 0, 1, true), (3, none, 1, true), (3, some 0, 1, true)] Try.f11 = some m11 := by kernel_rfl
theorem ok12 : compFn Try.prog false [(6, none, 2, true), (6, some 0, 2, true)] Try.f12 = some m12 := by kernel_rfl
theorem ok13 : compFn Try.prog false [(6, none, 2, true), (6, some 0, 2, true)] Try.f13 = some m13 := by kernel_rfl
theorem ok14 : compFn Try.prog false [] Try.f14 = some m14 := by kernel_rfl
theorem ok15 : compFn Try.prog false [] Try.f15 = some m15 := by kernel_rfl
theorem ok16 : compFn Try.prog true [] Try.f16 = some m16 := by kernel_rfl
theorem ok17 : compFn Try.prog false [] Try.f17 = some m17 := by kernel_rfl
theorem ok18 : compFn Try.prog false [(1, none, 1, true), (1, some 0, 1, true), (3, none, 2, true), (3, some 0, 2, true)] Try.f18 = some m18 := by kernel_rfl
theorem ok19 : compFn Try.prog false [(2, none, 1, true), (2, some 0, 1, true), (3, none, 1, true), (3, some 0, 1, true)] Try.f19 = some m19 := by kernel_rfl
theorem ok20 : compFn Try.prog false [(2, none, 1, true), (2, some 0, 1, true)] Try.f20 = some m20 := by kernel_rfl
theorem ok21 : compFn Try.prog false [] Try.f21 = some m21 := by kernel_rfl
theorem ok22 : compFn Try.prog false [] Try.f22 = some m22 := by kernel_rfl
theorem ok23 : compFn Try.prog true [] Try.f23 = some m23 := by kernel_rfl
theorem ok24 : compFn Try.prog true [] Try.f24 = some m24 := by kernel_rfl
theorem ok25 : compFn Try.prog false [] Try.f25 = some m25 := by kernel_rfl
theorem ok26 : compFn Try.prog false [] Try.f26 = some m26 := by kernel_rfl
theorem ok27 : compFn Try.prog false [(2, none, 2, true), (2, some 0, 2, true), (3, none, 2, true), (3, some 0, 2, true)] Try.f27 = some m27 := by kernel_rfl
theorem ok28 : compFn Try.prog false [(15, none, 1, true), (15, some 0, 1, true), (17, none, 1, true), (17, some 0, 1, true), (20, none, 2, true), (20, some 0, 2, true), (21, none, 2, true), (21, some 0, 2, true), (23, none, 2, true), (23, some 0, 2, true), (24, none, 2, true), (24, some 0, 2, true), (29, none, 1, true), (29, some 0, 1, true)] Try.f28 = some m28 := by kernel_rfl
theorem ok29 : compFn Try.prog false [(8, none, 1, true), (8, some 0, 1, true)] Try.f29 = some m29 := by kernel_rfl
theorem ok30 : compFn Try.prog false [(8, none, 1, true), (8, some 0, 1, true)] Try.f30 = some m30 := by kernel_rfl
theorem ok31 : compFn Try.prog false [] Try.f31 = some m31 := by kernel_rfl
theorem ok32 : compFn Try.prog false [(1, none, 1, true), (1, some 0, 1, true), (3, none, 1, true), (3, some 0, 1, true), (4, none, 1, true), (4, some 0, 1, true), (5, none, 1, true), (5, some 0, 1, true)] Try.f32 = some m32 := by kernel_rfl
theorem ok33 : compFn Try.prog false [(6, none, 1, true), (6, some 0, 1, true), (8, none, 1, true), (8, some 0, 1, true)] Try.f33 = some m33 := by kernel_rfl
theorem ok34 : compFn Try.prog false [] Try.f34 = some m34 := by kernel_rfl
theorem ok35 : compFn Try.prog false [] Try.f35 = some m35 := by kernel_rfl
theorem ok36 : compFn Try.prog false [(8, none, 2, true), (8, some 0, 2, true), (12, none, 1, true), (12, some 0, 1, true), (14, none, 2, true), (14, some 0, 2, true)] Try.f36 = some m36 := by kernel_rfl
theorem ok37 : compFn Try.prog false [] Try.f37 = some m37 := by kernel_rfl
theorem ok38 : compFn Try.prog false [] Try.f38 = some m38 := by kernel_rfl
theorem ok39 : compFn Try.prog false [] Try.f39 = some m39 := by kernel_rfl
theorem ok40 : compFn Try.prog false [] Try.f40 = some m40 := by kernel_rfl
theorem ok41 : compFn Try.prog false [] Try.f41 = some m41 := by kernel_rfl
theorem ok42 : compFn Try.prog false [] Try.f42 = some m42 := by kernel_rfl
theorem ok43 : compFn Try.prog false [] Try.f43 = some m43 := by kernel_rfl
theorem ok44 : compFn Try.prog false [] Try.f44 = some m44 := by kernel_rfl
theorem ok45 : compFn Try.prog false [] Try.f45 = some m45 := by kernel_rfl
theorem ok46 : compFn Try.prog false [] Try.f46 = some m46 := by kernel_rfl
theorem ok47 : compFn Try.prog false [] Try.f47 = some m47 := by kernel_rfl
theorem ok48 : compFn Try.prog false [] Try.f48 = some m48 := by kernel_rfl
theorem ok49 : compFn Try.prog false [] Try.f49 = some m49 := by kernel_rfl
theorem ok50 : compFn Try.prog false [(6, none, 1, true), (6, some 0, 1, true), (8, none, 1, true), (8, some 0, 1, true)] Try.f50 = some m50 := by kernel_rfl
theorem ok51 : compFn Try.prog false [(6, none, 2, true), (6, some 0, 2, true)] Try.f51 = some m51 := by kernel_rfl
theorem ok52 : compFn Try.prog false [(6, none, 2, true), (6, some 0, 2, true)] Try.f52 = some m52 := by kernel_rfl
theorem ok53 : compFn Try.prog false [] Try.f53 = some m53 := by kernel_rfl
theorem ok54 : compFn Try.prog false [(7, none, 1, true), (7, some 0, 1, true), (9, none, 1, true), (9, some 0, 1, true)] Try.f54 = some m54 := by kernel_rfl
theorem ok55 : compFn Try.prog false [(8, none, 1, true), (8, some 0, 1, true), (10, none, 1, true), (10, some 0, 1, true), (12, none, 1, true), (12, some 0, 1, true)] Try.f55 = some m55 := by kernel_rfl
theorem ok56 : compFn Try.prog false [] Try.f56 = some m56 := by kernel_rfl
theorem ok57 : compFn Try.prog false [(2, none, 1, true), (2, some 0, 1, true), (3, none, 1, true), (3, some 0, 1, true), (4, none, 1, true), (4, some 0, 1, true), (5, none, 1, true), (5, some 0, 1, true)] Try.f57 = some m57 := by kernel_rfl
theorem ok58 : compFn Try.prog false [] Try.f58 = some m58 := by kernel_rfl
theorem ok59 : compFn Try.prog false [] Try.f59 = some m59 := by kernel_rfl
theorem ok60 : compFn Try.prog false [] Try.f60 = some m60 := by kernel_rfl
theorem ok61 : compFn Try.prog false [] Try.f61 = some m61 := by kernel_rfl
theorem ok62 : compFn Try.prog false [] Try.f62 = some m62 := by kernel_rfl
theorem ok63 : compFn Try.prog false [] Try.f63 = some m63 := by kernel_rfl
theorem ok64 : compFn Try.prog false [] Try.f64 = some m64 := by kernel_rfl
theorem ok65 : compFn Try.prog false [] Try.f65 = some m65 := by kernel_rfl
theorem ok66 : compFn Try.prog false [] Try.f66 = some m66 := by kernel_rfl
theorem ok67 : compFn Try.prog false [] Try.f67 = some m67 := by kernel_rfl
theorem ok68 : compFn Try.prog false [] Try.f68 = some m68 := by kernel_rfl
theorem ok69 : compFn Try.prog false [] Try.f69 = some m69 := by kernel_rfl
theorem ok70 : compFn Try.prog false [(8, none, 2, true), (8, some 0, 2, true), (10, none, 2, true), (10, some 0, 2, true)] Try.f70 = some m70 := by kernel_rfl
theorem ok71 : compFn Try.prog false [] Try.f71 = some m71 := by kernel_rfl
theorem ok72 : compFn Try.prog false [] Try.f72 = some m72 := by kernel_rfl
theorem ok73 : compFn Try.prog false [(7, none, 1, true), (7, some 0, 1, true), (11, none, 1, true), (11, some 0, 1, true), (12, none, 1, true), (12, some 0, 1, true), (14, none, 1, true), (14, some 0, 1, true)] Try.f73 = some m73 := by kernel_rfl
theorem ok74 : compFn Try.prog false [] Try.f74 = some m74 := by kernel_rfl
theorem ok75 : compFn Try.prog false [(8, none, 1, true), (8, some 0, 1, true), (10, none, 1, true), (10, some 0, 1, true), (11, none, 1, true), (11, some 0, 1, true), (14, none, 1, true), (14, some 0, 1, true)] Try.f75 = some m75 := by kernel_rfl
theorem ok76 : compFn Try.prog false [] Try.f76 = some m76 := by kernel_rfl
theorem ok79 : compFn Try.prog false [] Try.f79 = some m79 := by kernel_rfl
theorem ok80 : compFn Try.prog false [] Try.f80 = some m80 := by kernel_rfl
theorem ok81 : compFn Try.prog false [] Try.f81 = some m81 := by kernel_rfl
theorem ok82 : compFn Try.prog false [] Try.f82 = some m82 := by kernel_rfl
theorem ok84 : compFn Try.prog false [] Try.f84 = some m84 := by kernel_rfl
theorem ok85 : compFn Try.prog false [] Try.f85 = some m85 := by kernel_rfl
theorem ok87 : compFn Try.prog false [] Try.f87 = some m87 := by kernel_rfl
theorem ok88 : compFn Try.prog false [] Try.f88 = some m88 := by kernel_rfl
theorem ok89 : compFn Try.prog false [] Try.f89 = some m89 := by kernel_rfl
theorem ok90 : compFn Try.prog false [(2, none, 1, true), (2, some 0, 1, true), (3, none, 1, true), (3, some 0, 1, true), (5, none, 1, true), (5, some 0, 1, true), (6, none, 1, true), (6, some 0, 1, true), (8, none, 1, true), (8, some 0, 1, true), (9, none, 1, true), (9, some 0, 1, true)] Try.f90 = some m90 := by kernel_rfl
theorem ok91 : compFn Try.prog false [] Try.f91 = some m91 := by kernel_rfl
theorem ok92 : compFn Try.prog false [] Try.f92 = some m92 := by kernel_rfl
theorem ok94 : compFn Try.prog false [] Try.f94 = some m94 := by kernel_rfl
theorem ok96 : compFn Try.prog false [] Try.f96 = some m96 := by kernel_rfl
theorem ok97 : compFn Try.prog false [] Try.f97 = some m97 := by kernel_rfl
theorem ok98 : compFn Try.prog false [] Try.f98 = some m98 := by kernel_rfl
theorem ok99 : compFn Try.prog false [] Try.f99 = some m99 := by kernel_rfl
theorem ok100 : compFn Try.prog false [] Try.f100 = some m100 := by kernel_rfl
theorem ok101 : compFn Try.prog false [] Try.f101 = some m101 := by kernel_rfl
theorem ok102 : compFn Try.prog false [] Try.f102 = some m102 := by kernel_rfl
theorem ok103 : compFn Try.prog false [] Try.f103 = some m103 := by kernel_rfl
section
variable {sp : FuncId → Option (List AV → Option AV)} {L n d : Nat} {π : List Nat} {args : List AV} {H : Heap}
theorem r3 : runF ⟨fnOf, sp, L⟩ (n + 1) d π 3 args H = runOut (evC ⟨fnOf, sp, L⟩ (runF ⟨fnOf, sp, L⟩ n) d m3.code π ⟨argEnv 0 args, H, 0⟩) m3.res := runF_fn rfl
theorem r4 : runF ⟨fnOf, sp, L⟩ (n + 1) d π 4 args H = runOut (evC ⟨fnOf, sp, L⟩ (runF ⟨fnOf, sp, L⟩ n) d m4.code π ⟨argEnv 0 args, H, 0⟩) m4.res := runF_fn rfl
theorem r5 : runF ⟨fnOf, sp, L⟩ (n + 1) d π 5 args H = runOut (evC ⟨fnOf, sp, L⟩ (runF ⟨fnOf, sp, L⟩ n) d m5.code π ⟨argEnv 0 args, H, 0⟩) m5.res := runF_fn rfl
theorem r6 : runF ⟨fnOf, sp, L⟩ (n + 1) d π 6 args H = runOut (evC ⟨fnOf, sp, L⟩ (runF ⟨fnOf, sp, L⟩ n) d m6.code π ⟨argEnv 0 args, H, 0⟩) m6.res := runF_fn rfl
theorem r7 : runF ⟨fnOf, sp, L⟩ (n + 1) d π 7 args H = runOut (evC ⟨fnOf, sp, L⟩ (runF ⟨fnOf, sp, L⟩ n) d m7.code π ⟨argEnv 0 args, H, 0⟩) m7.res := runF_fn rfl
theorem r8 : runF ⟨fnOf, sp, L⟩ (n + 1) d π 8 args H = runOut (evC ⟨fnOf, sp, L⟩ (runF ⟨fnOf, sp, L⟩ n) d m8.code π ⟨argEnv 0 args, H, 0⟩) m8.res := runF_fn rfl
theorem r9 : runF ⟨fnOf, sp, L⟩ (n + 1) d π 9 args H = runOut (evC ⟨fnOf, sp, L⟩ (runF ⟨fnOf, sp, L⟩ n) d m9.code π ⟨argEnv 0 args, H, 0⟩) m9.res := runF_fn rfl
theorem r10 : runF ⟨fnOf, sp, L⟩ (n + 1) d π 10 args H = runOut (evC ⟨fnOf, sp, L⟩ (runF ⟨fnOf, sp, L⟩ n) d m10.code π ⟨argEnv 0 args, H, 0⟩) m10.res := runF_fn rfl
theorem r11 : runF ⟨fnOf, sp, L⟩ (n + 1) d π 11 args H = runOut (evC ⟨fnOf, sp, L⟩ (runF ⟨fnOf, sp, L⟩ n) d m11.code π ⟨argEnv 0 args, H, 0⟩) m11.res := runF_fn rfl
theorem r12 : runF ⟨fnOf, sp, L⟩ (n + 1) d π 12 args H = runOut (evC ⟨fnOf, sp, L⟩ (runF ⟨fnOf, sp, L⟩ n) d m12.code π ⟨argEnv 0 args, H, 0⟩) m12.res := runF_fn rfl
theorem r13 : runF ⟨fnOf, sp, L⟩ (n + 1) d π 13 args H = runOut (evC ⟨fnOf, sp, L⟩ (runF ⟨fnOf, sp, L⟩ n) d m13.code π ⟨argEnv 0 args, H, 0⟩) m13.res := runF_fn rfl
theorem r14 : runF ⟨fnOf, sp, L⟩ (n + 1) d π 14 args H = runOut (evC ⟨fnOf, sp, L⟩ (runF ⟨fnOf, sp, L⟩ n) d m14.code π ⟨argEnv 0 args, H, 0⟩) m14.res := runF_fn rfl
theorem r15 : runF ⟨fnOf, sp, L⟩ (n + 1) d π 15 args H = runOut (evC ⟨fnOf, sp, L⟩ (runF ⟨fnOf, sp, L⟩ n) d m15.code π ⟨argEnv 0 args, H, 0⟩) m15.res := runF_fn rfl
theorem r16 : runF ⟨fnOf, sp, L⟩ (n + 1) d π 16 args H = runOut (evC ⟨fnOf, sp, L⟩ (runF ⟨fnOf, sp, L⟩ n) d m16.code π ⟨argEnv 0 args, H, 0⟩) m16.res := runF_fn rfl
theorem r17 : runF ⟨fnOf, sp, L⟩ (n + 1) d π 17 args H = runOut (evC ⟨fnOf, sp, L⟩ (runF ⟨fnOf, sp, L⟩ n) d m17.code π ⟨argEnv 0 args, H, 0⟩) m17.res := runF_fn rfl
theorem r18 : runF ⟨fnOf, sp, L⟩ (n + 1) d π 18 args H = runOut (evC ⟨fnOf, sp, L⟩ (runF ⟨fnOf, sp, L⟩ n) d m18.code π ⟨argEnv 0 args, H, 0⟩) m18.res := runF_fn rfl
theorem r19 : runF ⟨fnOf, sp, L⟩ (n + 1) d π 19 args H = runOut (evC ⟨fnOf, sp, L⟩ (runF ⟨fnOf, sp, L⟩ n) d m19.code π ⟨argEnv 0 args, H, 0⟩) m19.res := runF_fn rfl
theorem r20 : runF ⟨fnOf, sp, L⟩ (n + 1) d π 20 args H = runOut (evC ⟨fnOf, sp, L⟩ (runF ⟨fnOf, sp, L⟩ n) d m20.code π ⟨argEnv 0 args, H, 0⟩) m20.res := runF_fn rfl
theorem r21 : runF ⟨fnOf, sp, L⟩ (n + 1) d π 21 args H = runOut (evC ⟨fnOf, sp, L⟩ (runF ⟨fnOf, sp, L⟩ n) d m21.code π ⟨argEnv 0 args, H, 0⟩) m21.res := runF_fn rfl
theorem r22 : runF ⟨fnOf, sp, L⟩ (n + 1) d π 22 args H = runOut (evC ⟨fnOf, sp, L⟩ (runF ⟨fnOf, sp, L⟩ n) d m22.code π ⟨argEnv 0 args, H, 0⟩) m22.res := runF_fn rfl
theorem r23 : runF ⟨fnOf, sp, L⟩ (n + 1) d π 23 args H = runOut (evC ⟨fnOf, sp, L⟩ (runF ⟨fnOf, sp, L⟩ n) d m23.code π ⟨argEnv 0 args, H, 0⟩) m23.res := runF_fn rfl
theorem r24 : runF ⟨fnOf, sp, L⟩ (n + 1) d π 24 args H = runOut (evC ⟨fnOf, sp, L⟩ (runF ⟨fnOf, sp, L⟩ n) d m24.code π ⟨argEnv 0 args, H, 0⟩) m24.res := runF_fn rfl
theorem r25 : runF ⟨fnOf, sp, L⟩ (n + 1) d π 25 args H = runOut (evC ⟨fnOf, sp, L⟩ (runF ⟨fnOf, sp, L⟩ n) d m25.code π ⟨argEnv 0 args, H, 0⟩) m25.res := runF_fn rfl
theorem r26 : runF ⟨fnOf, sp, L⟩ (n + 1) d π 26 args H = runOut (evC ⟨fnOf, sp, L⟩ (runF ⟨fnOf, sp, L⟩ n) d m26.code π ⟨argEnv 0 args, H, 0⟩) m26.res := runF_fn rfl
theorem r27 : runF ⟨fnOf, sp, L⟩ (n + 1) d π 27 args H = runOut (evC ⟨fnOf, sp, L⟩ (runF ⟨fnOf, sp, L⟩ n) d m27.code π ⟨argEnv 0 args, H, 0⟩) m27.res := runF_fn rfl
theorem r28 : runF ⟨fnOf, sp, L⟩ (n + 1) d π 28 args H = runOut (evC ⟨fnOf, sp, L⟩ (runF ⟨fnOf, sp, L⟩ n) d m28.code π ⟨argEnv 0 args, H, 0⟩) m28.res := runF_fn rfl
theorem r29 : runF ⟨fnOf, sp, L⟩ (n + 1) d π 29 args H = runOut (evC ⟨fnOf, sp, L⟩ (runF ⟨fnOf, sp, L⟩ n) d m29.code π ⟨argEnv 0 args, H, 0⟩) m29.res := runF_fn rfl
theorem r30 : runF ⟨fnOf, sp, L⟩ (n + 1) d π 30 args H = runOut (evC ⟨fnOf, sp, L⟩ (runF ⟨fnOf, sp, L⟩ n) d m30.code π ⟨argEnv 0 args, H, 0⟩) m30.res := runF_fn rfl
theorem r31 : runF ⟨fnOf, sp, L⟩ (n + 1) d π 31 args H = runOut (evC ⟨fnOf, sp, L⟩ (runF ⟨fnOf, sp, L⟩ n) d m31.code π ⟨argEnv 0 args, H, 0⟩) m31.res := runF_fn rfl
theorem r32 : runF ⟨fnOf, sp, L⟩ (n + 1) d π 32 args H = runOut (evC ⟨fnOf, sp, L⟩ (runF ⟨fnOf, sp, L⟩ n) d m32.code π ⟨argEnv 0 args, H, 0⟩) m32.res := runF_fn rfl
theorem r33 : runF ⟨fnOf, sp, L⟩ (n + 1) d π 33 args H = runOut (evC ⟨fnOf, sp, L⟩ (runF ⟨fnOf, sp, L⟩ n) d m33.code π ⟨argEnv 0 args, H, 0⟩) m33.res := runF_fn rfl
theorem r34 : runF ⟨fnOf, sp, L⟩ (n + 1) d π 34 args H = runOut (evC ⟨fnOf, sp, L⟩ (runF ⟨fnOf, sp, L⟩ n) d m34.code π ⟨argEnv 0 args, H, 0⟩) m34.res := runF_fn rfl
theorem r35 : runF ⟨fnOf, sp, L⟩ (n + 1) d π 35 args H = runOut (evC ⟨fnOf, sp, L⟩ (runF ⟨fnOf, sp, L⟩ n) d m35.code π ⟨argEnv 0 args, H, 0⟩) m35.res := runF_fn rfl
theorem r36 : runF ⟨fnOf, sp, L⟩ (n + 1) d π 36 args H = runOut (evC ⟨fnOf, sp, L⟩ (runF ⟨fnOf, sp, L⟩ n) d m36.code π ⟨argEnv 0 args, H, 0⟩) m36.res := runF_fn rfl
theorem r37 : runF ⟨fnOf, sp, L⟩ (n + 1) d π 37 args H = runOut (evC ⟨fnOf, sp, L⟩ (runF ⟨fnOf, sp, L⟩ n) d m37.code π ⟨argEnv 0 args, H, 0⟩) m37.res := runF_fn rfl
theorem r38 : runF ⟨fnOf, sp, L⟩ (n + 1) d π 38 args H = runOut (evC ⟨fnOf, sp, L⟩ (runF ⟨fnOf, sp, L⟩ n) d m38.code π ⟨argEnv 0 args, H, 0⟩) m38.res := runF_fn rfl
theorem r39 : runF ⟨fnOf, sp, L⟩ (n + 1) d π 39 args H = runOut (evC ⟨fnOf, sp, L⟩ (runF ⟨fnOf, sp, L⟩ n) d m39.code π ⟨argEnv 0 args, H, 0⟩) m39.res := runF_fn rfl
theorem r40 : runF ⟨fnOf, sp, L⟩ (n + 1) d π 40 args H = runOut (evC ⟨fnOf, sp, L⟩ (runF ⟨fnOf, sp, L⟩ n) d m40.code π ⟨argEnv 0 args, H, 0⟩) m40.res := runF_fn rfl
theorem r41 : runF ⟨fnOf, sp, L⟩ (n + 1) d π 41 args H = runOut (evC ⟨fnOf, sp, L⟩ (runF ⟨fnOf, sp, L⟩ n) d m41.code π ⟨argEnv 0 args, H, 0⟩) m41.res := runF_fn rfl
theorem r42 : runF ⟨fnOf, sp, L⟩ (n + 1) d π 42 args H = runOut (evC ⟨fnOf, sp, L⟩ (runF ⟨fnOf, sp, L⟩ n) d m42.code π ⟨argEnv 0 args, H, 0⟩) m42.res := runF_fn rfl
theorem r43 : runF ⟨fnOf, sp, L⟩ (n + 1) d π 43 args H = runOut (evC ⟨fnOf, sp, L⟩ (runF ⟨fnOf, sp, L⟩ n) d m43.code π ⟨argEnv 0 args, H, 0⟩) m43.res := runF_fn rfl
theorem r44 : runF ⟨fnOf, sp, L⟩ (n + 1) d π 44 args H = runOut (evC ⟨fnOf, sp, L⟩ (runF ⟨fnOf, sp, L⟩ n) d m44.code π ⟨argEnv 0 args, H, 0⟩) m44.res := runF_fn rfl
theorem r45 : runF ⟨fnOf, sp, L⟩ (n + 1) d π 45 args H = runOut (evC ⟨fnOf, sp, L⟩ (runF ⟨fnOf, sp, L⟩ n) d m45.code π ⟨argEnv 0 args, H, 0⟩) m45.res := runF_fn rfl
theorem r46 : runF ⟨fnOf, sp, L⟩ (n + 1) d π 46 args H = runOut (evC ⟨fnOf, sp, L⟩ (runF ⟨fnOf, sp, L⟩ n) d m46.code π ⟨argEnv 0 args, H, 0⟩) m46.res := runF_fn rfl
theorem r47 : runF ⟨fnOf, sp, L⟩ (n + 1) d π 47 args H = runOut (evC ⟨fnOf, sp, L⟩ (runF ⟨fnOf, sp, L⟩ n) d m47.code π ⟨argEnv 0 args, H, 0⟩) m47.res := runF_fn rfl
theorem r48 : runF ⟨fnOf, sp, L⟩ (n + 1) d π 48 args H = runOut (evC ⟨fnOf, sp, L⟩ (runF ⟨fnOf, sp, L⟩ n) d m48.code π ⟨argEnv 0 args, H, 0⟩) m48.res := runF_fn rfl
theorem r49 : runF ⟨fnOf, sp, L⟩ (n + 1) d π 49 args H = runOut (evC ⟨fnOf, sp, L⟩ (runF ⟨fnOf, sp, L⟩ n) d m49.code π ⟨argEnv 0 args, H, 0⟩) m49.res := runF_fn rfl
theorem r50 : runF ⟨fnOf, sp, L⟩ (n + 1) d π 50 args H = runOut (evC ⟨fnOf, sp, L⟩ (runF ⟨fnOf, sp, L⟩ n) d m50.code π ⟨argEnv 0 args, H, 0⟩) m50.res := runF_fn rfl
theorem r51 : runF ⟨fnOf, sp, L⟩ (n + 1) d π 51 args H = runOut (evC ⟨fnOf, sp, L⟩ (runF ⟨fnOf, sp, L⟩ n) d m51.code π ⟨argEnv 0 args, H, 0⟩) m51.res := runF_fn rfl
theorem r52 : runF ⟨fnOf, sp, L⟩ (n + 1) d π 52 args H = runOut (evC ⟨fnOf, sp, L⟩ (runF ⟨fnOf, sp, L⟩ n) d m52.code π ⟨argEnv 0 args, H, 0⟩) m52.res := runF_fn rfl
theorem r53 : runF ⟨fnOf, sp, L⟩ (n + 1) d π 53 args H = runOut (evC ⟨fnOf, sp, L⟩ (runF ⟨fnOf, sp, L⟩ n) d m53.code π ⟨argEnv 0 args, H, 0⟩) m53.res := runF_fn rfl
theorem r54 : runF ⟨fnOf, sp, L⟩ (n + 1) d π 54 args H = runOut (evC ⟨fnOf, sp, L⟩ (runF ⟨fnOf, sp, L⟩ n) d m54.code π ⟨argEnv 0 args, H, 0⟩) m54.res := runF_fn rfl
theorem r55 : runF ⟨fnOf, sp, L⟩ (n + 1) d π 55 args H = runOut (evC ⟨fnOf, sp, L⟩ (runF ⟨fnOf, sp, L⟩ n) d m55.code π ⟨argEnv 0 args, H, 0⟩) m55.res := runF_fn rfl
theorem r56 : runF ⟨fnOf, sp, L⟩ (n + 1) d π 56 args H = runOut (evC ⟨fnOf, sp, L⟩ (runF ⟨fnOf, sp, L⟩ n) d m56.code π ⟨argEnv 0 args, H, 0⟩) m56.res := runF_fn rfl
theorem r57 : runF ⟨fnOf, sp, L⟩ (n + 1) d π 57 args H = runOut (evC ⟨fnOf, sp, L⟩ (runF ⟨fnOf, sp, L⟩ n) d m57.code π ⟨argEnv 0 args, H, 0⟩) m57.res := runF_fn rfl
theorem r58 : runF ⟨fnOf, sp, L⟩ (n + 1) d π 58 args H = runOut (evC ⟨fnOf, sp, L⟩ (runF ⟨fnOf, sp, L⟩ n) d m58.code π ⟨argEnv 0 args, H, 0⟩) m58.res := runF_fn rfl
theorem r59 : runF ⟨fnOf, sp, L⟩ (n + 1) d π 59 args H = runOut (evC ⟨fnOf, sp, L⟩ (runF ⟨fnOf, sp, L⟩ n) d m59.code π ⟨argEnv 0 args, H, 0⟩) m59.res := runF_fn rfl
theorem r60 : runF ⟨fnOf, sp, L⟩ (n + 1) d π 60 args H = runOut (evC ⟨fnOf, sp, L⟩ (runF ⟨fnOf, sp, L⟩ n) d m60.code π ⟨argEnv 0 args, H, 0⟩) m60.res := runF_fn rfl
theorem r61 : runF ⟨fnOf, sp, L⟩ (n + 1) d π 61 args H = runOut (evC ⟨fnOf, sp, L⟩ (runF ⟨fnOf, sp, L⟩ n) d m61.code π ⟨argEnv 0 args, H, 0⟩) m61.res := runF_fn rfl
theorem r62 : runF ⟨fnOf, sp, L⟩ (n + 1) d π 62 args H = runOut (evC ⟨fnOf, sp, L⟩ (runF ⟨fnOf, sp, L⟩ n) d m62.code π ⟨argEnv 0 args, H, 0⟩) m62.res := runF_fn rfl
theorem r63 : runF ⟨fnOf, sp, L⟩ (n + 1) d π 63 args H = runOut (evC ⟨fnOf, sp, L⟩ (runF ⟨fnOf, sp, L⟩ n) d m63.code π ⟨argEnv 0 args, H, 0⟩) m63.res := runF_fn rfl
theorem r64 : runF ⟨fnOf, sp, L⟩ (n + 1) d π 64 args H = runOut (evC ⟨fnOf, sp, L⟩ (runF ⟨fnOf, sp, L⟩ n) d m64.code π ⟨argEnv 0 args, H, 0⟩) m64.res := runF_fn rfl
theorem r65 : runF ⟨fnOf, sp, L⟩ (n + 1) d π 65 args H = runOut (evC ⟨fnOf, sp, L⟩ (runF ⟨fnOf, sp, L⟩ n) d m65.code π ⟨argEnv 0 args, H, 0⟩) m65.res := runF_fn rfl
theorem r66 : runF ⟨fnOf, sp, L⟩ (n + 1) d π 66 args H = runOut (evC ⟨fnOf, sp, L⟩ (runF ⟨fnOf, sp, L⟩ n) d m66.code π ⟨argEnv 0 args, H, 0⟩) m66.res := runF_fn rfl
theorem r67 : runF ⟨fnOf, sp, L⟩ (n + 1) d π 67 args H = runOut (evC ⟨fnOf, sp, L⟩ (runF ⟨fnOf, sp, L⟩ n) d m67.code π ⟨argEnv 0 args, H, 0⟩) m67.res := runF_fn rfl
theorem r68 : runF ⟨fnOf, sp, L⟩ (n + 1) d π 68 args H = runOut (evC ⟨fnOf, sp, L⟩ (runF ⟨fnOf, sp, L⟩ n) d m68.code π ⟨argEnv 0 args, H, 0⟩) m68.res := runF_fn rfl
theorem r69 : runF ⟨fnOf, sp, L⟩ (n + 1) d π 69 args H = runOut (evC ⟨fnOf, sp, L⟩ (runF ⟨fnOf, sp, L⟩ n) d m69.code π ⟨argEnv 0 args, H, 0⟩) m69.res := runF_fn rfl
theorem r70 : runF ⟨fnOf, sp, L⟩ (n + 1) d π 70 args H = runOut (evC ⟨fnOf, sp, L⟩ (runF ⟨fnOf, sp, L⟩ n) d m70.code π ⟨argEnv 0 args, H, 0⟩) m70.res := runF_fn rfl
theorem r71 : runF ⟨fnOf, sp, L⟩ (n + 1) d π 71 args H = runOut (evC ⟨fnOf, sp, L⟩ (runF ⟨fnOf, sp, L⟩ n) d m71.code π ⟨argEnv 0 args, H, 0⟩) m71.res := runF_fn rfl
theorem r72 : runF ⟨fnOf, sp, L⟩ (n + 1) d π 72 args H = runOut (evC ⟨fnOf, sp, L⟩ (runF ⟨fnOf, sp, L⟩ n) d m72.code π ⟨argEnv 0 args, H, 0⟩) m72.res := runF_fn rfl
theorem r73 : runF ⟨fnOf, sp, L⟩ (n + 1) d π 73 args H = runOut (evC ⟨fnOf, sp, L⟩ (runF ⟨fnOf, sp, L⟩ n) d m73.code π ⟨argEnv 0 args, H, 0⟩) m73.res := runF_fn rfl
theorem r74 : runF ⟨fnOf, sp, L⟩ (n + 1) d π 74 args H = runOut (evC ⟨fnOf, sp, L⟩ (runF ⟨fnOf, sp, L⟩ n) d m74.code π ⟨argEnv 0 args, H, 0⟩) m74.res := runF_fn rfl
theorem r75 : runF ⟨fnOf, sp, L⟩ (n + 1) d π 75 args H = runOut (evC ⟨fnOf, sp, L⟩ (runF ⟨fnOf, sp, L⟩ n) d m75.code π ⟨argEnv 0 args, H, 0⟩) m75.res := runF_fn rfl
theorem r76 : runF ⟨fnOf, sp, L⟩ (n + 1) d π 76 args H = runOut (evC ⟨fnOf, sp, L⟩ (runF ⟨fnOf, sp, L⟩ n) d m76.code π ⟨argEnv 0 args, H, 0⟩) m76.res := runF_fn rfl
theorem r79 : runF ⟨fnOf, sp, L⟩ (n + 1) d π 79 args H = runOut (evC ⟨fnOf, sp, L⟩ (runF ⟨fnOf, sp, L⟩ n) d m79.code π ⟨argEnv 0 args, H, 0⟩) m79.res := runF_fn rfl
theorem r80 : runF ⟨fnOf, sp, L⟩ (n + 1) d π 80 args H = runOut (evC ⟨fnOf, sp, L⟩ (runF ⟨fnOf, sp, L⟩ n) d m80.code π ⟨argEnv 0 args, H, 0⟩) m80.res := runF_fn rfl
theorem r81 : runF ⟨fnOf, sp, L⟩ (n + 1) d π 81 args H = runOut (evC ⟨fnOf, sp, L⟩ (runF ⟨fnOf, sp, L⟩ n) d m81.code π ⟨argEnv 0 args, H, 0⟩) m81.res := runF_fn rfl
theorem r82 : runF ⟨fnOf, sp, L⟩ (n + 1) d π 82 args H = runOut (evC ⟨fnOf, sp, L⟩ (runF ⟨fnOf, sp, L⟩ n) d m82.code π ⟨argEnv 0 args, H, 0⟩) m82.res := runF_fn rfl
theorem r84 : runF ⟨fnOf, sp, L⟩ (n + 1) d π 84 args H = runOut (evC ⟨fnOf, sp, L⟩ (runF ⟨fnOf, sp, L⟩ n) d m84.code π ⟨argEnv 0 args, H, 0⟩) m84.res := runF_fn rfl
theorem r85 : runF ⟨fnOf, sp, L⟩ (n + 1) d π 85 args H = runOut (evC ⟨fnOf, sp, L⟩ (runF ⟨fnOf, sp, L⟩ n) d m85.code π ⟨argEnv 0 args, H, 0⟩) m85.res := runF_fn rfl
theorem r87 : runF ⟨fnOf, sp, L⟩ (n + 1) d π 87 args H = runOut (evC ⟨fnOf, sp, L⟩ (runF ⟨fnOf, sp, L⟩ n) d m87.code π ⟨argEnv 0 args, H, 0⟩) m87.res := runF_fn rfl
theorem r88 : runF ⟨fnOf, sp, L⟩ (n + 1) d π 88 args H = runOut (evC ⟨fnOf, sp, L⟩ (runF ⟨fnOf, sp, L⟩ n) d m88.code π ⟨argEnv 0 args, H, 0⟩) m88.res := runF_fn rfl
theorem r89 : runF ⟨fnOf, sp, L⟩ (n + 1) d π 89 args H = runOut (evC ⟨fnOf, sp, L⟩ (runF ⟨fnOf, sp, L⟩ n) d m89.code π ⟨argEnv 0 args, H, 0⟩) m89.res := runF_fn rfl
theorem r90 : runF ⟨fnOf, sp, L⟩ (n + 1) d π 90 args H = runOut (evC ⟨fnOf, sp, L⟩ (runF ⟨fnOf, sp, L⟩ n) d m90.code π ⟨argEnv 0 args, H, 0⟩) m90.res := runF_fn rfl
theorem r91 : runF ⟨fnOf, sp, L⟩ (n + 1) d π 91 args H = runOut (evC ⟨fnOf, sp, L⟩ (runF ⟨fnOf, sp, L⟩ n) d m91.code π ⟨argEnv 0 args, H, 0⟩) m91.res := runF_fn rfl
theorem r92 : runF ⟨fnOf, sp, L⟩ (n + 1) d π 92 args H = runOut (evC ⟨fnOf, sp, L⟩ (runF ⟨fnOf, sp, L⟩ n) d m92.code π ⟨argEnv 0 args, H, 0⟩) m92.res := runF_fn rfl
theorem r94 : runF ⟨fnOf, sp, L⟩ (n + 1) d π 94 args H = runOut (evC ⟨fnOf, sp, L⟩ (runF ⟨fnOf, sp, L⟩ n) d m94.code π ⟨argEnv 0 args, H, 0⟩) m94.res := runF_fn rfl
theorem r96 : runF ⟨fnOf, sp, L⟩ (n + 1) d π 96 args H = runOut (evC ⟨fnOf, sp, L⟩ (runF ⟨fnOf, sp, L⟩ n) d m96.code π ⟨argEnv 0 args, H, 0⟩) m96.res := runF_fn rfl
theorem r97 : runF ⟨fnOf, sp, L⟩ (n + 1) d π 97 args H = runOut (evC ⟨fnOf, sp, L⟩ (runF ⟨fnOf, sp, L⟩ n) d m97.code π ⟨argEnv 0 args, H, 0⟩) m97.res := runF_fn rfl
theorem r98 : runF ⟨fnOf, sp, L⟩ (n + 1) d π 98 args H = runOut (evC ⟨fnOf, sp, L⟩ (runF ⟨fnOf, sp, L⟩ n) d m98.code π ⟨argEnv 0 args, H, 0⟩) m98.res := runF_fn rfl
theorem r99 : runF ⟨fnOf, sp, L⟩ (n + 1) d π 99 args H = runOut (evC ⟨fnOf, sp, L⟩ (runF ⟨fnOf, sp, L⟩ n) d m99.code π ⟨argEnv 0 args, H, 0⟩) m99.res := runF_fn rfl
theorem r100 : runF ⟨fnOf, sp, L⟩ (n + 1) d π 100 args H = runOut (evC ⟨fnOf, sp, L⟩ (runF ⟨fnOf, sp, L⟩ n) d m100.code π ⟨argEnv 0 args, H, 0⟩) m100.res := runF_fn rfl
theorem r101 : runF ⟨fnOf, sp, L⟩ (n + 1) d π 101 args H = runOut (evC ⟨fnOf, sp, L⟩ (runF ⟨fnOf, sp, L⟩ n) d m101.code π ⟨argEnv 0 args, H, 0⟩) m101.res := runF_fn rfl
theorem r102 : runF ⟨fnOf, sp, L⟩ (n + 1) d π 102 args H = runOut (evC ⟨fnOf, sp, L⟩ (runF ⟨fnOf, sp, L⟩ n) d m102.code π ⟨argEnv 0 args, H, 0⟩) m102.res := runF_fn rfl
theorem r103 : runF ⟨fnOf, sp, L⟩ (n + 1) d π 103 args H = runOut (evC ⟨fnOf, sp, L⟩ (runF ⟨fnOf, sp, L⟩ n) d m103.code π ⟨argEnv 0 args, H, 0⟩) m103.res := runF_fn rfl
theorem c3 {t : Nat} {st : List Nat} (hs : sp 3 = none) : callIn ⟨fnOf, sp, L⟩ (runF ⟨fnOf, sp, L⟩ n) (inlOf ⟨fnOf, sp, L⟩ 3) d t st 3 args H = match optList (freeze H 8) args with | none => none | some avs => match den ⟨fnOf, sp, L⟩ n 3 avs with | some r => some (thawT d t st H r) | none => none := by
  rw [show inlOf ⟨fnOf, sp, L⟩ 3 = false by simp only [inlOf, hs]; rfl]
  exact callIn_den hs
theorem c4 {t : Nat} {st : List Nat} (hs : sp 4 = none) : callIn ⟨fnOf, sp, L⟩ (runF ⟨fnOf, sp, L⟩ n) (inlOf ⟨fnOf, sp, L⟩ 4) d t st 4 args H = match optList (freeze H 8) args with | none => none | some avs => match den ⟨fnOf, sp, L⟩ n 4 avs with | some r => some (thawT d t st H r) | none => none := by
  rw [show inlOf ⟨fnOf, sp, L⟩ 4 = false by simp only [inlOf, hs]; rfl]
  exact callIn_den hs
theorem c5 {t : Nat} {st : List Nat} (hs : sp 5 = none) : callIn ⟨fnOf, sp, L⟩ (runF ⟨fnOf, sp, L⟩ n) (inlOf ⟨fnOf, sp, L⟩ 5) d t st 5 args H = match optList (freeze H 8) args with | none => none | some avs => match den ⟨fnOf, sp, L⟩ n 5 avs with | some r => some (thawT d t st H r) | none => none := by
  rw [show inlOf ⟨fnOf, sp, L⟩ 5 = false by simp only [inlOf, hs]; rfl]
  exact callIn_den hs
theorem c6 {t : Nat} {st : List Nat} (hs : sp 6 = none) : callIn ⟨fnOf, sp, L⟩ (runF ⟨fnOf, sp, L⟩ n) (inlOf ⟨fnOf, sp, L⟩ 6) d t st 6 args H = match optList (freeze H 8) args with | none => none | some avs => match den ⟨fnOf, sp, L⟩ n 6 avs with | some r => some (thawT d t st H r) | none => none := by
  rw [show inlOf ⟨fnOf, sp, L⟩ 6 = false by simp only [inlOf, hs]; rfl]
  exact callIn_den hs
theorem c7 {t : Nat} {st : List Nat} (hs : sp 7 = none) : callIn ⟨fnOf, sp, L⟩ (runF ⟨fnOf, sp, L⟩ n) (inlOf ⟨fnOf, sp, L⟩ 7) d t st 7 args H = match optList (freeze H 8) args with | none => none | some avs => match den ⟨fnOf, sp, L⟩ n 7 avs with | some r => some (thawT d t st H r) | none => none := by
  rw [show inlOf ⟨fnOf, sp, L⟩ 7 = false by simp only [inlOf, hs]; rfl]
  exact callIn_den hs
theorem c8 {t : Nat} {st : List Nat} (hs : sp 8 = none) : callIn ⟨fnOf, sp, L⟩ (runF ⟨fnOf, sp, L⟩ n) (inlOf ⟨fnOf, sp, L⟩ 8) d t st 8 args H = match optList (freeze H 8) args with | none => none | some avs => match den ⟨fnOf, sp, L⟩ n 8 avs with | some r => some (thawT d t st H r) | none => none := by
  rw [show inlOf ⟨fnOf, sp, L⟩ 8 = false by simp only [inlOf, hs]; rfl]
  exact callIn_den hs
theorem c9 {t : Nat} {st : List Nat} (hs : sp 9 = none) : callIn ⟨fnOf, sp, L⟩ (runF ⟨fnOf, sp, L⟩ n) (inlOf ⟨fnOf, sp, L⟩ 9) d t st 9 args H = match optList (freeze H 8) args with | none => none | some avs => match den ⟨fnOf, sp, L⟩ n 9 avs with | some r => some (thawT d t st H r) | none => none := by
  rw [show inlOf ⟨fnOf, sp, L⟩ 9 = false by simp only [inlOf, hs]; rfl]
  exact callIn_den hs
theorem c10 {t : Nat} {st : List Nat} (hs : sp 10 = none) : callIn ⟨fnOf, sp, L⟩ (runF ⟨fnOf, sp, L⟩ n) (inlOf ⟨fnOf, sp, L⟩ 10) d t st 10 args H = match optList (freeze H 8) args with | none => none | some avs => match den ⟨fnOf, sp, L⟩ n 10 avs with | some r => some (thawT d t st H r) | none => none := by
  rw [show inlOf ⟨fnOf, sp, L⟩ 10 = false by simp only [inlOf, hs]; rfl]
  exact callIn_den hs
theorem c11 {t : Nat} {st : List Nat} (hs : sp 11 = none) : callIn ⟨fnOf, sp, L⟩ (runF ⟨fnOf, sp, L⟩ n) (inlOf ⟨fnOf, sp, L⟩ 11) d t st 11 args H = match optList (freeze H 8) args with | none => none | some avs => match den ⟨fnOf, sp, L⟩ n 11 avs with | some r => some (thawT d t st H r) | none => none := by
  rw [show inlOf ⟨fnOf, sp, L⟩ 11 = false by simp only [inlOf, hs]; rfl]
  exact callIn_den hs
theorem c12 {t : Nat} {st : List Nat} (hs : sp 12 = none) : callIn ⟨fnOf, sp, L⟩ (runF ⟨fnOf, sp, L⟩ n) (inlOf ⟨fnOf, sp, L⟩ 12) d t st 12 args H = match optList (freeze H 8) args with | none => none | some avs => match den ⟨fnOf, sp, L⟩ n 12 avs with | some r => some (thawT d t st H r) | none => none := by
  rw [show inlOf ⟨fnOf, sp, L⟩ 12 = false by simp only [inlOf, hs]; rfl]
  exact callIn_den hs
theorem c13 {t : Nat} {st : List Nat} (hs : sp 13 = none) : callIn ⟨fnOf, sp, L⟩ (runF ⟨fnOf, sp, L⟩ n) (inlOf ⟨fnOf, sp, L⟩ 13) d t st 13 args H = match optList (freeze H 8) args with | none => none | some avs => match den ⟨fnOf, sp, L⟩ n 13 avs with | some r => some (thawT d t st H r) | none => none := by
  rw [show inlOf ⟨fnOf, sp, L⟩ 13 = false by simp only [inlOf, hs]; rfl]
  exact callIn_den hs
theorem c14 {t : Nat} {st : List Nat} (hs : sp 14 = none) : callIn ⟨fnOf, sp, L⟩ (runF ⟨fnOf, sp, L⟩ n) (inlOf ⟨fnOf, sp, L⟩ 14) d t st 14 args H = match optList (freeze H 8) args with | none => none | some avs => match den ⟨fnOf, sp, L⟩ n 14 avs with | some r => some (thawT d t st H r) | none => none := by
  rw [show inlOf ⟨fnOf, sp, L⟩ 14 = false by simp only [inlOf, hs]; rfl]
  exact callIn_den hs
theorem c15 {t : Nat} {st : List Nat} (hs : sp 15 = none) : callIn ⟨fnOf, sp, L⟩ (runF ⟨fnOf, sp, L⟩ n) (inlOf ⟨fnOf, sp, L⟩ 15) d t st 15 args H = match optList (freeze H 8) args with | none => none | some avs => match den ⟨fnOf, sp, L⟩ n 15 avs with | some r => some (thawT d t st H r) | none => none := by
  rw [show inlOf ⟨fnOf, sp, L⟩ 15 = false by simp only [inlOf, hs]; rfl]
  exact callIn_den hs
theorem c17 {t : Nat} {st : List Nat} (hs : sp 17 = none) : callIn ⟨fnOf, sp, L⟩ (runF ⟨fnOf, sp, L⟩ n) (inlOf ⟨fnOf, sp, L⟩ 17) d t st 17 args H = match optList (freeze H 8) args with | none => none | some avs => match den ⟨fnOf, sp, L⟩ n 17 avs with | some r => some (thawT d t st H r) | none => none := by
  rw [show inlOf ⟨fnOf, sp, L⟩ 17 = false by simp only [inlOf, hs]; rfl]
  exact callIn_den hs
theorem c18 {t : Nat} {st : List Nat} (hs : sp 18 = none) : callIn ⟨fnOf, sp, L⟩ (runF ⟨fnOf, sp, L⟩ n) (inlOf ⟨fnOf, sp, L⟩ 18) d t st 18 args H = match optList (freeze H 8) args with | none => none | some avs => match den ⟨fnOf, sp, L⟩ n 18 avs with | some r => some (thawT d t st H r) | none => none := by
  rw [show inlOf ⟨fnOf, sp, L⟩ 18 = false by simp only [inlOf, hs]; rfl]
  exact callIn_den hs
theorem c19 {t : Nat} {st : List Nat} (hs : sp 19 = none) : callIn ⟨fnOf, sp, L⟩ (runF ⟨fnOf, sp, L⟩ n) (inlOf ⟨fnOf, sp, L⟩ 19) d t st 19 args H = match optList (freeze H 8) args with | none => none | some avs => match den ⟨fnOf, sp, L⟩ n 19 avs with | some r => some (thawT d t st H r) | none => none := by
  rw [show inlOf ⟨fnOf, sp, L⟩ 19 = false by simp only [inlOf, hs]; rfl]
  exact callIn_den hs
theorem c20 {t : Nat} {st : List Nat} (hs : sp 20 = none) : callIn ⟨fnOf, sp, L⟩ (runF ⟨fnOf, sp, L⟩ n) (inlOf ⟨fnOf, sp, L⟩ 20) d t st 20 args H = match optList (freeze H 8) args with | none => none | some avs => match den ⟨fnOf, sp, L⟩ n 20 avs with | some r => some (thawT d t st H r) | none => none := by
  rw [show inlOf ⟨fnOf, sp, L⟩ 20 = false by simp only [inlOf, hs]; rfl]
  exact callIn_den hs
theorem c21 {t : Nat} {st : List Nat} (hs : sp 21 = none) : callIn ⟨fnOf, sp, L⟩ (runF ⟨fnOf, sp, L⟩ n) (inlOf ⟨fnOf, sp, L⟩ 21) d t st 21 args H = match optList (freeze H 8) args with | none => none | some avs => match den ⟨fnOf, sp, L⟩ n 21 avs with | some r => some (thawT d t st H r) | none => none := by
  rw [show inlOf ⟨fnOf, sp, L⟩ 21 = false by simp only [inlOf, hs]; rfl]
  exact callIn_den hs
theorem c22 {t : Nat} {st : List Nat} (hs : sp 22 = none) : callIn ⟨fnOf, sp, L⟩ (runF ⟨fnOf, sp, L⟩ n) (inlOf ⟨fnOf, sp, L⟩ 22) d t st 22 args H = match optList (freeze H 8) args with | none => none | some avs => match den ⟨fnOf, sp, L⟩ n 22 avs with | some r => some (thawT d t st H r) | none => none := by
  rw [show inlOf ⟨fnOf, sp, L⟩ 22 = false by simp only [inlOf, hs]; rfl]
  exact callIn_den hs
theorem c25 {t : Nat} {st : List Nat} (hs : sp 25 = none) : callIn ⟨fnOf, sp, L⟩ (runF ⟨fnOf, sp, L⟩ n) (inlOf ⟨fnOf, sp, L⟩ 25) d t st 25 args H = match optList (freeze H 8) args with | none => none | some avs => match den ⟨fnOf, sp, L⟩ n 25 avs with | some r => some (thawT d t st H r) | none => none := by
  rw [show inlOf ⟨fnOf, sp, L⟩ 25 = false by simp only [inlOf, hs]; rfl]
  exact callIn_den hs
theorem c26 {t : Nat} {st : List Nat} (hs : sp 26 = none) : callIn ⟨fnOf, sp, L⟩ (runF ⟨fnOf, sp, L⟩ n) (inlOf ⟨fnOf, sp, L⟩ 26) d t st 26 args H = match optList (freeze H 8) args with | none => none | some avs => match den ⟨fnOf, sp, L⟩ n 26 avs with | some r => some (thawT d t st H r) | none => none := by
  rw [show inlOf ⟨fnOf, sp, L⟩ 26 = false by simp only [inlOf, hs]; rfl]
  exact callIn_den hs
theorem c27 {t : Nat} {st : List Nat} (hs : sp 27 = none) : callIn ⟨fnOf, sp, L⟩ (runF ⟨fnOf, sp, L⟩ n) (inlOf ⟨fnOf, sp, L⟩ 27) d t st 27 args H = match optList (freeze H 8) args with | none => none | some avs => match den ⟨fnOf, sp, L⟩ n 27 avs with | some r => some (thawT d t st H r) | none => none := by
  rw [show inlOf ⟨fnOf, sp, L⟩ 27 = false by simp only [inlOf, hs]; rfl]
  exact callIn_den hs
theorem c28 {t : Nat} {st : List Nat} (hs : sp 28 = none) : callIn ⟨fnOf, sp, L⟩ (runF ⟨fnOf, sp, L⟩ n) (inlOf ⟨fnOf, sp, L⟩ 28) d t st 28 args H = match optList (freeze H 8) args with | none => none | some avs => match den ⟨fnOf, sp, L⟩ n 28 avs with | some r => some (thawT d t st H r) | none => none := by
  rw [show inlOf ⟨fnOf, sp, L⟩ 28 = false by simp only [inlOf, hs]; rfl]
  exact callIn_den hs
theorem c29 {t : Nat} {st : List Nat} (hs : sp 29 = none) : callIn ⟨fnOf, sp, L⟩ (runF ⟨fnOf, sp, L⟩ n) (inlOf ⟨fnOf, sp, L⟩ 29) d t st 29 args H = match optList (freeze H 8) args with | none => none | some avs => match den ⟨fnOf, sp, L⟩ n 29 avs with | some r => some (thawT d t st H r) | none => none := by
  rw [show inlOf ⟨fnOf, sp, L⟩ 29 = false by simp only [inlOf, hs]; rfl]
  exact callIn_den hs
theorem c30 {t : Nat} {st : List Nat} (hs : sp 30 = none) : callIn ⟨fnOf, sp, L⟩ (runF ⟨fnOf, sp, L⟩ n) (inlOf ⟨fnOf, sp, L⟩ 30) d t st 30 args H = match optList (freeze H 8) args with | none => none | some avs => match den ⟨fnOf, sp, L⟩ n 30 avs with | some r => some (thawT d t st H r) | none => none := by
  rw [show inlOf ⟨fnOf, sp, L⟩ 30 = false by simp only [inlOf, hs]; rfl]
  exact callIn_den hs
theorem c31 {t : Nat} {st : List Nat} (hs : sp 31 = none) : callIn ⟨fnOf, sp, L⟩ (runF ⟨fnOf, sp, L⟩ n) (inlOf ⟨fnOf, sp, L⟩ 31) d t st 31 args H = match optList (freeze H 8) args with | none => none | some avs => match den ⟨fnOf, sp, L⟩ n 31 avs with | some r => some (thawT d t st H r) | none => none := by
  rw [show inlOf ⟨fnOf, sp, L⟩ 31 = false by simp only [inlOf, hs]; rfl]
  exact callIn_den hs
theorem c32 {t : Nat} {st : List Nat} (hs : sp 32 = none) : callIn ⟨fnOf, sp, L⟩ (runF ⟨fnOf, sp, L⟩ n) (inlOf ⟨fnOf, sp, L⟩ 32) d t st 32 args H = match optList (freeze H 8) args with | none => none | some avs => match den ⟨fnOf, sp, L⟩ n 32 avs with | some r => some (thawT d t st H r) | none => none := by
  rw [show inlOf ⟨fnOf, sp, L⟩ 32 = false by simp only [inlOf, hs]; rfl]
  exact callIn_den hs
theorem c33 {t : Nat} {st : List Nat} (hs : sp 33 = none) : callIn ⟨fnOf, sp, L⟩ (runF ⟨fnOf, sp, L⟩ n) (inlOf ⟨fnOf, sp, L⟩ 33) d t st 33 args H = match optList (freeze H 8) args with | none => none | some avs => match den ⟨fnOf, sp, L⟩ n 33 avs with | some r => some (thawT d t st H r) | none => none := by
  rw [show inlOf ⟨fnOf, sp, L⟩ 33 = false by simp only [inlOf, hs]; rfl]
  exact callIn_den hs
theorem c34 {t : Nat} {st : List Nat} (hs : sp 34 = none) : callIn ⟨fnOf, sp, L⟩ (runF ⟨fnOf, sp, L⟩ n) (inlOf ⟨fnOf, sp, L⟩ 34) d t st 34 args H = match optList (freeze H 8) args with | none => none | some avs => match den ⟨fnOf, sp, L⟩ n 34 avs with | some r => some (thawT d t st H r) | none => none := by
  rw [show inlOf ⟨fnOf, sp, L⟩ 34 = false by simp only [inlOf, hs]; rfl]
  exact callIn_den hs
theorem c35 {t : Nat} {st : List Nat} (hs : sp 35 = none) : callIn ⟨fnOf, sp, L⟩ (runF ⟨fnOf, sp, L⟩ n) (inlOf ⟨fnOf, sp, L⟩ 35) d t st 35 args H = match optList (freeze H 8) args with | none => none | some avs => match den ⟨fnOf, sp, L⟩ n 35 avs with | some r => some (thawT d t st H r) | none => none := by
  rw [show inlOf ⟨fnOf, sp, L⟩ 35 = false by simp only [inlOf, hs]; rfl]
  exact callIn_den hs
theorem c36 {t : Nat} {st : List Nat} (hs : sp 36 = none) : callIn ⟨fnOf, sp, L⟩ (runF ⟨fnOf, sp, L⟩ n) (inlOf ⟨fnOf, sp, L⟩ 36) d t st 36 args H = match optList (freeze H 8) args with | none => none | some avs => match den ⟨fnOf, sp, L⟩ n 36 avs with | some r => some (thawT d t st H r) | none => none := by
  rw [show inlOf ⟨fnOf, sp, L⟩ 36 = false by simp only [inlOf, hs]; rfl]
  exact callIn_den hs
theorem c37 {t : Nat} {st : List Nat} (hs : sp 37 = none) : callIn ⟨fnOf, sp, L⟩ (runF ⟨fnOf, sp, L⟩ n) (inlOf ⟨fnOf, sp, L⟩ 37) d t st 37 args H = match optList (freeze H 8) args with | none => none | some avs => match den ⟨fnOf, sp, L⟩ n 37 avs with | some r => some (thawT d t st H r) | none => none := by
  rw [show inlOf ⟨fnOf, sp, L⟩ 37 = false by simp only [inlOf, hs]; rfl]
  exact callIn_den hs
theorem c38 {t : Nat} {st : List Nat} (hs : sp 38 = none) : callIn ⟨fnOf, sp, L⟩ (runF ⟨fnOf, sp, L⟩ n) (inlOf ⟨fnOf, sp, L⟩ 38) d t st 38 args H = match optList (freeze H 8) args with | none => none | some avs => match den ⟨fnOf, sp, L⟩ n 38 avs with | some r => some (thawT d t st H r) | none => none := by
  rw [show inlOf ⟨fnOf, sp, L⟩ 38 = false by simp only [inlOf, hs]; rfl]
  exact callIn_den hs
theorem c39 {t : Nat} {st : List Nat} (hs : sp 39 = none) : callIn ⟨fnOf, sp, L⟩ (runF ⟨fnOf, sp, L⟩ n) (inlOf ⟨fnOf, sp, L⟩ 39) d t st 39 args H = match optList (freeze H 8) args with | none => none | some avs => match den ⟨fnOf, sp, L⟩ n 39 avs with | some r => some (thawT d t st H r) | none => none := by
  rw [show inlOf ⟨fnOf, sp, L⟩ 39 = false by simp only [inlOf, hs]; rfl]
  exact callIn_den hs
theorem c40 {t : Nat} {st : List Nat} (hs : sp 40 = none) : callIn ⟨fnOf, sp, L⟩ (runF ⟨fnOf, sp, L⟩ n) (inlOf ⟨fnOf, sp, L⟩ 40) d t st 40 args H = match optList (freeze H 8) args with | none => none | some avs => match den ⟨fnOf, sp, L⟩ n 40 avs with | some r => some (thawT d t st H r) | none => none := by
  rw [show inlOf ⟨fnOf, sp, L⟩ 40 = false by simp only [inlOf, hs]; rfl]
  exact callIn_den hs
theorem c41 {t : Nat} {st : List Nat} (hs : sp 41 = none) : callIn ⟨fnOf, sp, L⟩ (runF ⟨fnOf, sp, L⟩ n) (inlOf ⟨fnOf, sp, L⟩ 41) d t st 41 args H = match optList (freeze H 8) args with | none => none | some avs => match den ⟨fnOf, sp, L⟩ n 41 avs with | some r => some (thawT d t st H r) | none => none := by
  rw [show inlOf ⟨fnOf, sp, L⟩ 41 = false by simp only [inlOf, hs]; rfl]
  exact callIn_den hs
theorem c42 {t : Nat} {st : List Nat} (hs : sp 42 = none) : callIn ⟨fnOf, sp, L⟩ (runF ⟨fnOf, sp, L⟩ n) (inlOf ⟨fnOf, sp, L⟩ 42) d t st 42 args H = match optList (freeze H 8) args with | none => none | some avs => match den ⟨fnOf, sp, L⟩ n 42 avs with | some r => some (thawT d t st H r) | none => none := by
  rw [show inlOf ⟨fnOf, sp, L⟩ 42 = false by simp only [inlOf, hs]; rfl]
  exact callIn_den hs
theorem c43 {t : Nat} {st : List Nat} (hs : sp 43 = none) : callIn ⟨fnOf, sp, L⟩ (runF ⟨fnOf, sp, L⟩ n) (inlOf ⟨fnOf, sp, L⟩ 43) d t st 43 args H = match optList (freeze H 8) args with | none => none | some avs => match den ⟨fnOf, sp, L⟩ n 43 avs with | some r => some (thawT d t st H r) | none => none := by
  rw [show inlOf ⟨fnOf, sp, L⟩ 43 = false by simp only [inlOf, hs]; rfl]
  exact callIn_den hs
theorem c44 {t : Nat} {st : List Nat} (hs : sp 44 = none) : callIn ⟨fnOf, sp, L⟩ (runF ⟨fnOf, sp, L⟩ n) (inlOf ⟨fnOf, sp, L⟩ 44) d t st 44 args H = match optList (freeze H 8) args with | none => none | some avs => match den ⟨fnOf, sp, L⟩ n 44 avs with | some r => some (thawT d t st H r) | none => none := by
  rw [show inlOf ⟨fnOf, sp, L⟩ 44 = false by simp only [inlOf, hs]; rfl]
  exact callIn_den hs
theorem c45 {t : Nat} {st : List Nat} (hs : sp 45 = none) : callIn ⟨fnOf, sp, L⟩ (runF ⟨fnOf, sp, L⟩ n) (inlOf ⟨fnOf, sp, L⟩ 45) d t st 45 args H = match optList (freeze H 8) args with | none => none | some avs => match den ⟨fnOf, sp, L⟩ n 45 avs with | some r => some (thawT d t st H r) | none => none := by
  rw [show inlOf ⟨fnOf, sp, L⟩ 45 = false by simp only [inlOf, hs]; rfl]
  exact callIn_den hs
theorem c46 {t : Nat} {st : List Nat} (hs : sp 46 = none) : callIn ⟨fnOf, sp, L⟩ (runF ⟨fnOf, sp, L⟩ n) (inlOf ⟨fnOf, sp, L⟩ 46) d t st 46 args H = match optList (freeze H 8) args with | none => none | some avs => match den ⟨fnOf, sp, L⟩ n 46 avs with | some r => some (thawT d t st H r) | none => none := by
  rw [show inlOf ⟨fnOf, sp, L⟩ 46 = false by simp only [inlOf, hs]; rfl]
  exact callIn_den hs
theorem c47 {t : Nat} {st : List Nat} (hs : sp 47 = none) : callIn ⟨fnOf, sp, L⟩ (runF ⟨fnOf, sp, L⟩ n) (inlOf ⟨fnOf, sp, L⟩ 47) d t st 47 args H = match optList (freeze H 8) args with | none => none | some avs => match den ⟨fnOf, sp, L⟩ n 47 avs with | some r => some (thawT d t st H r) | none => none := by
  rw [show inlOf ⟨fnOf, sp, L⟩ 47 = false by simp only [inlOf, hs]; rfl]
  exact callIn_den hs
theorem c48 {t : Nat} {st : List Nat} (hs : sp 48 = none) : callIn ⟨fnOf, sp, L⟩ (runF ⟨fnOf, sp, L⟩ n) (inlOf ⟨fnOf, sp, L⟩ 48) d t st 48 args H = match optList (freeze H 8) args with | none => none | some avs => match den ⟨fnOf, sp, L⟩ n 48 avs with | some r => some (thawT d t st H r) | none => none := by
  rw [show inlOf ⟨fnOf, sp, L⟩ 48 = false by simp only [inlOf, hs]; rfl]
  exact callIn_den hs
theorem c49 {t : Nat} {st : List Nat} (hs : sp 49 = none) : callIn ⟨fnOf, sp, L⟩ (runF ⟨fnOf, sp, L⟩ n) (inlOf ⟨fnOf, sp, L⟩ 49) d t st 49 args H = match optList (freeze H 8) args with | none => none | some avs => match den ⟨fnOf, sp, L⟩ n 49 avs with | some r => some (thawT d t st H r) | none => none := by
  rw [show inlOf ⟨fnOf, sp, L⟩ 49 = false by simp only [inlOf, hs]; rfl]
  exact callIn_den hs
theorem c50 {t : Nat} {st : List Nat} (hs : sp 50 = none) : callIn ⟨fnOf, sp, L⟩ (runF ⟨fnOf, sp, L⟩ n) (inlOf ⟨fnOf, sp, L⟩ 50) d t st 50 args H = match optList (freeze H 8) args with | none => none | some avs => match den ⟨fnOf, sp, L⟩ n 50 avs with | some r => some (thawT d t st H r) | none => none := by
  rw [show inlOf ⟨fnOf, sp, L⟩ 50 = false by simp only [inlOf, hs]; rfl]
  exact callIn_den hs
theorem c51 {t : Nat} {st : List Nat} (hs : sp 51 = none) : callIn ⟨fnOf, sp, L⟩ (runF ⟨fnOf, sp, L⟩ n) (inlOf ⟨fnOf, sp, L⟩ 51) d t st 51 args H = match optList (freeze H 8) args with | none => none | some avs => match den ⟨fnOf, sp, L⟩ n 51 avs with | some r => some (thawT d t st H r) | none => none := by
  rw [show inlOf ⟨fnOf, sp, L⟩ 51 = false by simp only [inlOf, hs]; rfl]
  exact callIn_den hs
theorem c52 {t : Nat} {st : List Nat} (hs : sp 52 = none) : callIn ⟨fnOf, sp, L⟩ (runF ⟨fnOf, sp, L⟩ n) (inlOf ⟨fnOf, sp, L⟩ 52) d t st 52 args H = match optList (freeze H 8) args with | none => none | some avs => match den ⟨fnOf, sp, L⟩ n 52 avs with | some r => some (thawT d t st H r) | none => none := by
  rw [show inlOf ⟨fnOf, sp, L⟩ 52 = false by simp only [inlOf, hs]; rfl]
  exact callIn_den hs
theorem c53 {t : Nat} {st : List Nat} (hs : sp 53 = none) : callIn ⟨fnOf, sp, L⟩ (runF ⟨fnOf, sp, L⟩ n) (inlOf ⟨fnOf, sp, L⟩ 53) d t st 53 args H = match optList (freeze H 8) args with | none => none | some avs => match den ⟨fnOf, sp, L⟩ n 53 avs with | some r => some (thawT d t st H r) | none => none := by
  rw [show inlOf ⟨fnOf, sp, L⟩ 53 = false by simp only [inlOf, hs]; rfl]
  exact callIn_den hs
theorem c54 {t : Nat} {st : List Nat} (hs : sp 54 = none) : callIn ⟨fnOf, sp, L⟩ (runF ⟨fnOf, sp, L⟩ n) (inlOf ⟨fnOf, sp, L⟩ 54) d t st 54 args H = match optList (freeze H 8) args with | none => none | some avs => match den ⟨fnOf, sp, L⟩ n 54 avs with | some r => some (thawT d t st H r) | none => none := by
  rw [show inlOf ⟨fnOf, sp, L⟩ 54 = false by simp only [inlOf, hs]; rfl]
  exact callIn_den hs
theorem c55 {t : Nat} {st : List Nat} (hs : sp 55 = none) : callIn ⟨fnOf, sp, L⟩ (runF ⟨fnOf, sp, L⟩ n) (inlOf ⟨fnOf, sp, L⟩ 55) d t st 55 args H = match optList (freeze H 8) args with | none => none | some avs => match den ⟨fnOf, sp, L⟩ n 55 avs with | some r => some (thawT d t st H r) | none => none := by
  rw [show inlOf ⟨fnOf, sp, L⟩ 55 = false by simp only [inlOf, hs]; rfl]
  exact callIn_den hs
theorem c56 {t : Nat} {st : List Nat} (hs : sp 56 = none) : callIn ⟨fnOf, sp, L⟩ (runF ⟨fnOf, sp, L⟩ n) (inlOf ⟨fnOf, sp, L⟩ 56) d t st 56 args H = match optList (freeze H 8) args with | none => none | some avs => match den ⟨fnOf, sp, L⟩ n 56 avs with | some r => some (thawT d t st H r) | none => none := by
  rw [show inlOf ⟨fnOf, sp, L⟩ 56 = false by simp only [inlOf, hs]; rfl]
  exact callIn_den hs
theorem c57 {t : Nat} {st : List Nat} (hs : sp 57 = none) : callIn ⟨fnOf, sp, L⟩ (runF ⟨fnOf, sp, L⟩ n) (inlOf ⟨fnOf, sp, L⟩ 57) d t st 57 args H = match optList (freeze H 8) args with | none => none | some avs => match den ⟨fnOf, sp, L⟩ n 57 avs with | some r => some (thawT d t st H r) | none => none := by
  rw [show inlOf ⟨fnOf, sp, L⟩ 57 = false by simp only [inlOf, hs]; rfl]
  exact callIn_den hs
theorem c58 {t : Nat} {st : List Nat} (hs : sp 58 = none) : callIn ⟨fnOf, sp, L⟩ (runF ⟨fnOf, sp, L⟩ n) (inlOf ⟨fnOf, sp, L⟩ 58) d t st 58 args H = match optList (freeze H 8) args with | none => none | some avs => match den ⟨fnOf, sp, L⟩ n 58 avs with | some r => some (thawT d t st H r) | none => none := by
  rw [show inlOf ⟨fnOf, sp, L⟩ 58 = false by simp only [inlOf, hs]; rfl]
  exact callIn_den hs
theorem c59 {t : Nat} {st : List Nat} (hs : sp 59 = none) : callIn ⟨fnOf, sp, L⟩ (runF ⟨fnOf, sp, L⟩ n) (inlOf ⟨fnOf, sp, L⟩ 59) d t st 59 args H = match optList (freeze H 8) args with | none => none | some avs => match den ⟨fnOf, sp, L⟩ n 59 avs with | some r => some (thawT d t st H r) | none => none := by
  rw [show inlOf ⟨fnOf, sp, L⟩ 59 = false by simp only [inlOf, hs]; rfl]
  exact callIn_den hs
theorem c60 {t : Nat} {st : List Nat} (hs : sp 60 = none) : callIn ⟨fnOf, sp, L⟩ (runF ⟨fnOf, sp, L⟩ n) (inlOf ⟨fnOf, sp, L⟩ 60) d t st 60 args H = match optList (freeze H 8) args with | none => none | some avs => match den ⟨fnOf, sp, L⟩ n 60 avs with | some r => some (thawT d t st H r) | none => none := by
  rw [show inlOf ⟨fnOf, sp, L⟩ 60 = false by simp only [inlOf, hs]; rfl]
  exact callIn_den hs
theorem c61 {t : Nat} {st : List Nat} (hs : sp 61 = none) : callIn ⟨fnOf, sp, L⟩ (runF ⟨fnOf, sp, L⟩ n) (inlOf ⟨fnOf, sp, L⟩ 61) d t st 61 args H = match optList (freeze H 8) args with | none => none | some avs => match den ⟨fnOf, sp, L⟩ n 61 avs with | some r => some (thawT d t st H r) | none => none := by
  rw [show inlOf ⟨fnOf, sp, L⟩ 61 = false by simp only [inlOf, hs]; rfl]
  exact callIn_den hs
theorem c62 {t : Nat} {st : List Nat} (hs : sp 62 = none) : callIn ⟨fnOf, sp, L⟩ (runF ⟨fnOf, sp, L⟩ n) (inlOf ⟨fnOf, sp, L⟩ 62) d t st 62 args H = match optList (freeze H 8) args with | none => none | some avs => match den ⟨fnOf, sp, L⟩ n 62 avs with | some r => some (thawT d t st H r) | none => none := by
  rw [show inlOf ⟨fnOf, sp, L⟩ 62 = false by simp only [inlOf, hs]; rfl]
  exact callIn_den hs
theorem c63 {t : Nat} {st : List Nat} (hs : sp 63 = none) : callIn ⟨fnOf, sp, L⟩ (runF ⟨fnOf, sp, L⟩ n) (inlOf ⟨fnOf, sp, L⟩ 63) d t st 63 args H = match optList (freeze H 8) args with | none => none | some avs => match den ⟨fnOf, sp, L⟩ n 63 avs with | some r => some (thawT d t st H r) | none => none := by
  rw [show inlOf ⟨fnOf, sp, L⟩ 63 = false by simp only [inlOf, hs]; rfl]
  exact callIn_den hs
theorem c64 {t : Nat} {st : List Nat} (hs : sp 64 = none) : callIn ⟨fnOf, sp, L⟩ (runF ⟨fnOf, sp, L⟩ n) (inlOf ⟨fnOf, sp, L⟩ 64) d t st 64 args H = match optList (freeze H 8) args with | none => none | some avs => match den ⟨fnOf, sp, L⟩ n 64 avs with | some r => some (thawT d t st H r) | none => none := by
  rw [show inlOf ⟨fnOf, sp, L⟩ 64 = false by simp only [inlOf, hs]; rfl]
  exact callIn_den hs
theorem c65 {t : Nat} {st : List Nat} (hs : sp 65 = none) : callIn ⟨fnOf, sp, L⟩ (runF ⟨fnOf, sp, L⟩ n) (inlOf ⟨fnOf, sp, L⟩ 65) d t st 65 args H = match optList (freeze H 8) args with | none => none | some avs => match den ⟨fnOf, sp, L⟩ n 65 avs with | some r => some (thawT d t st H r) | none => none := by
  rw [show inlOf ⟨fnOf, sp, L⟩ 65 = false by simp only [inlOf, hs]; rfl]
  exact callIn_den hs
theorem c66 {t : Nat} {st : List Nat} (hs : sp 66 = none) : callIn ⟨fnOf, sp, L⟩ (runF ⟨fnOf, sp, L⟩ n) (inlOf ⟨fnOf, sp, L⟩ 66) d t st 66 args H = match optList (freeze H 8) args with | none => none | some avs => match den ⟨fnOf, sp, L⟩ n 66 avs with | some r => some (thawT d t st H r) | none => none := by
  rw [show inlOf ⟨fnOf, sp, L⟩ 66 = false by simp only [inlOf, hs]; rfl]
  exact callIn_den hs
theorem c67 {t : Nat} {st : List Nat} (hs : sp 67 = none) : callIn ⟨fnOf, sp, L⟩ (runF ⟨fnOf, sp, L⟩ n) (inlOf ⟨fnOf, sp, L⟩ 67) d t st 67 args H = match optList (freeze H 8) args with | none => none | some avs => match den ⟨fnOf, sp, L⟩ n 67 avs with | some r => some (thawT d t st H r) | none => none := by
  rw [show inlOf ⟨fnOf, sp, L⟩ 67 = false by simp only [inlOf, hs]; rfl]
  exact callIn_den hs
theorem c68 {t : Nat} {st : List Nat} (hs : sp 68 = none) : callIn ⟨fnOf, sp, L⟩ (runF ⟨fnOf, sp, L⟩ n) (inlOf ⟨fnOf, sp, L⟩ 68) d t st 68 args H = match optList (freeze H 8) args with | none => none | some avs => match den ⟨fnOf, sp, L⟩ n 68 avs with | some r => some (thawT d t st H r) | none => none := by
  rw [show inlOf ⟨fnOf, sp, L⟩ 68 = false by simp only [inlOf, hs]; rfl]
  exact callIn_den hs
theorem c69 {t : Nat} {st : List Nat} (hs : sp 69 = none) : callIn ⟨fnOf, sp, L⟩ (runF ⟨fnOf, sp, L⟩ n) (inlOf ⟨fnOf, sp, L⟩ 69) d t st 69 args H = match optList (freeze H 8) args with | none => none | some avs => match den ⟨fnOf, sp, L⟩ n 69 avs with | some r => some (thawT d t st H r) | none => none := by
  rw [show inlOf ⟨fnOf, sp, L⟩ 69 = false by simp only [inlOf, hs]; rfl]
  exact callIn_den hs
theorem c70 {t : Nat} {st : List Nat} (hs : sp 70 = none) : callIn ⟨fnOf, sp, L⟩ (runF ⟨fnOf, sp, L⟩ n) (inlOf ⟨fnOf, sp, L⟩ 70) d t st 70 args H = match optList (freeze H 8) args with | none => none | some avs => match den ⟨fnOf, sp, L⟩ n 70 avs with | some r => some (thawT d t st H r) | none => none := by
  rw [show inlOf ⟨fnOf, sp, L⟩ 70 = false by simp only [inlOf, hs]; rfl]
  exact callIn_den hs
theorem c71 {t : Nat} {st : List Nat} (hs : sp 71 = none) : callIn ⟨fnOf, sp, L⟩ (runF ⟨fnOf, sp, L⟩ n) (inlOf ⟨fnOf, sp, L⟩ 71) d t st 71 args H = match optList (freeze H 8) args with | none => none | some avs => match den ⟨fnOf, sp, L⟩ n 71 avs with | some r => some (thawT d t st H r) | none => none := by
  rw [show inlOf ⟨fnOf, sp, L⟩ 71 = false by simp only [inlOf, hs]; rfl]
  exact callIn_den hs
theorem c72 {t : Nat} {st : List Nat} (hs : sp 72 = none) : callIn ⟨fnOf, sp, L⟩ (runF ⟨fnOf, sp, L⟩ n) (inlOf ⟨fnOf, sp, L⟩ 72) d t st 72 args H = match optList (freeze H 8) args with | none => none | some avs => match den ⟨fnOf, sp, L⟩ n 72 avs with | some r => some (thawT d t st H r) | none => none := by
  rw [show inlOf ⟨fnOf, sp, L⟩ 72 = false by simp only [inlOf, hs]; rfl]
  exact callIn_den hs
theorem c73 {t : Nat} {st : List Nat} (hs : sp 73 = none) : callIn ⟨fnOf, sp, L⟩ (runF ⟨fnOf, sp, L⟩ n) (inlOf ⟨fnOf, sp, L⟩ 73) d t st 73 args H = match optList (freeze H 8) args with | none => none | some avs => match den ⟨fnOf, sp, L⟩ n 73 avs with | some r => some (thawT d t st H r) | none => none := by
  rw [show inlOf ⟨fnOf, sp, L⟩ 73 = false by simp only [inlOf, hs]; rfl]
  exact callIn_den hs
theorem c74 {t : Nat} {st : List Nat} (hs : sp 74 = none) : callIn ⟨fnOf, sp, L⟩ (runF ⟨fnOf, sp, L⟩ n) (inlOf ⟨fnOf, sp, L⟩ 74) d t st 74 args H = match optList (freeze H 8) args with | none => none | some avs => match den ⟨fnOf, sp, L⟩ n 74 avs with | some r => some (thawT d t st H r) | none => none := by
  rw [show inlOf ⟨fnOf, sp, L⟩ 74 = false by simp only [inlOf, hs]; rfl]
  exact callIn_den hs
theorem c75 {t : Nat} {st : List Nat} (hs : sp 75 = none) : callIn ⟨fnOf, sp, L⟩ (runF ⟨fnOf, sp, L⟩ n) (inlOf ⟨fnOf, sp, L⟩ 75) d t st 75 args H = match optList (freeze H 8) args with | none => none | some avs => match den ⟨fnOf, sp, L⟩ n 75 avs with | some r => some (thawT d t st H r) | none => none := by
  rw [show inlOf ⟨fnOf, sp, L⟩ 75 = false by simp only [inlOf, hs]; rfl]
  exact callIn_den hs
theorem c76 {t : Nat} {st : List Nat} (hs : sp 76 = none) : callIn ⟨fnOf, sp, L⟩ (runF ⟨fnOf, sp, L⟩ n) (inlOf ⟨fnOf, sp, L⟩ 76) d t st 76 args H = match optList (freeze H 8) args with | none => none | some avs => match den ⟨fnOf, sp, L⟩ n 76 avs with | some r => some (thawT d t st H r) | none => none := by
  rw [show inlOf ⟨fnOf, sp, L⟩ 76 = false by simp only [inlOf, hs]; rfl]
  exact callIn_den hs
theorem c79 {t : Nat} {st : List Nat} (hs : sp 79 = none) : callIn ⟨fnOf, sp, L⟩ (runF ⟨fnOf, sp, L⟩ n) (inlOf ⟨fnOf, sp, L⟩ 79) d t st 79 args H = match optList (freeze H 8) args with | none => none | some avs => match den ⟨fnOf, sp, L⟩ n 79 avs with | some r => some (thawT d t st H r) | none => none := by
  rw [show inlOf ⟨fnOf, sp, L⟩ 79 = false by simp only [inlOf, hs]; rfl]
  exact callIn_den hs
theorem c80 {t : Nat} {st : List Nat} (hs : sp 80 = none) : callIn ⟨fnOf, sp, L⟩ (runF ⟨fnOf, sp, L⟩ n) (inlOf ⟨fnOf, sp, L⟩ 80) d t st 80 args H = match optList (freeze H 8) args with | none => none | some avs => match den ⟨fnOf, sp, L⟩ n 80 avs with | some r => some (thawT d t st H r) | none => none := by
  rw [show inlOf ⟨fnOf, sp, L⟩ 80 = false by simp only [inlOf, hs]; rfl]
  exact callIn_den hs
theorem c81 {t : Nat} {st : List Nat} (hs : sp 81 = none) : callIn ⟨fnOf, sp, L⟩ (runF ⟨fnOf, sp, L⟩ n) (inlOf ⟨fnOf, sp, L⟩ 81) d t st 81 args H = match optList (freeze H 8) args with | none => none | some avs => match den ⟨fnOf, sp, L⟩ n 81 avs with | some r => some (thawT d t st H r) | none => none := by
  rw [show inlOf ⟨fnOf, sp, L⟩ 81 = false by simp only [inlOf, hs]; rfl]
  exact callIn_den hs
theorem c82 {t : Nat} {st : List Nat} (hs : sp 82 = none) : callIn ⟨fnOf, sp, L⟩ (runF ⟨fnOf, sp, L⟩ n) (inlOf ⟨fnOf, sp, L⟩ 82) d t st 82 args H = match optList (freeze H 8) args with | none => none | some avs => match den ⟨fnOf, sp, L⟩ n 82 avs with | some r => some (thawT d t st H r) | none => none := by
  rw [show inlOf ⟨fnOf, sp, L⟩ 82 = false by simp only [inlOf, hs]; rfl]
  exact callIn_den hs
theorem c84 {t : Nat} {st : List Nat} (hs : sp 84 = none) : callIn ⟨fnOf, sp, L⟩ (runF ⟨fnOf, sp, L⟩ n) (inlOf ⟨fnOf, sp, L⟩ 84) d t st 84 args H = match optList (freeze H 8) args with | none => none | some avs => match den ⟨fnOf, sp, L⟩ n 84 avs with | some r => some (thawT d t st H r) | none => none := by
  rw [show inlOf ⟨fnOf, sp, L⟩ 84 = false by simp only [inlOf, hs]; rfl]
  exact callIn_den hs
theorem c85 {t : Nat} {st : List Nat} (hs : sp 85 = none) : callIn ⟨fnOf, sp, L⟩ (runF ⟨fnOf, sp, L⟩ n) (inlOf ⟨fnOf, sp, L⟩ 85) d t st 85 args H = match optList (freeze H 8) args with | none => none | some avs => match den ⟨fnOf, sp, L⟩ n 85 avs with | some r => some (thawT d t st H r) | none => none := by
  rw [show inlOf ⟨fnOf, sp, L⟩ 85 = false by simp only [inlOf, hs]; rfl]
  exact callIn_den hs
theorem c87 {t : Nat} {st : List Nat} (hs : sp 87 = none) : callIn ⟨fnOf, sp, L⟩ (runF ⟨fnOf, sp, L⟩ n) (inlOf ⟨fnOf, sp, L⟩ 87) d t st 87 args H = match optList (freeze H 8) args with | none => none | some avs => match den ⟨fnOf, sp, L⟩ n 87 avs with | some r => some (thawT d t st H r) | none => none := by
  rw [show inlOf ⟨fnOf, sp, L⟩ 87 = false by simp only [inlOf, hs]; rfl]
  exact callIn_den hs
theorem c88 {t : Nat} {st : List Nat} (hs : sp 88 = none) : callIn ⟨fnOf, sp, L⟩ (runF ⟨fnOf, sp, L⟩ n) (inlOf ⟨fnOf, sp, L⟩ 88) d t st 88 args H = match optList (freeze H 8) args with | none => none | some avs => match den ⟨fnOf, sp, L⟩ n 88 avs with | some r => some (thawT d t st H r) | none => none := by
  rw [show inlOf ⟨fnOf, sp, L⟩ 88 = false by simp only [inlOf, hs]; rfl]
  exact callIn_den hs
theorem c89 {t : Nat} {st : List Nat} (hs : sp 89 = none) : callIn ⟨fnOf, sp, L⟩ (runF ⟨fnOf, sp, L⟩ n) (inlOf ⟨fnOf, sp, L⟩ 89) d t st 89 args H = match optList (freeze H 8) args with | none => none | some avs => match den ⟨fnOf, sp, L⟩ n 89 avs with | some r => some (thawT d t st H r) | none => none := by
  rw [show inlOf ⟨fnOf, sp, L⟩ 89 = false by simp only [inlOf, hs]; rfl]
  exact callIn_den hs
theorem c90 {t : Nat} {st : List Nat} (hs : sp 90 = none) : callIn ⟨fnOf, sp, L⟩ (runF ⟨fnOf, sp, L⟩ n) (inlOf ⟨fnOf, sp, L⟩ 90) d t st 90 args H = match optList (freeze H 8) args with | none => none | some avs => match den ⟨fnOf, sp, L⟩ n 90 avs with | some r => some (thawT d t st H r) | none => none := by
  rw [show inlOf ⟨fnOf, sp, L⟩ 90 = false by simp only [inlOf, hs]; rfl]
  exact callIn_den hs
theorem c91 {t : Nat} {st : List Nat} (hs : sp 91 = none) : callIn ⟨fnOf, sp, L⟩ (runF ⟨fnOf, sp, L⟩ n) (inlOf ⟨fnOf, sp, L⟩ 91) d t st 91 args H = match optList (freeze H 8) args with | none => none | some avs => match den ⟨fnOf, sp, L⟩ n 91 avs with | some r => some (thawT d t st H r) | none => none := by
  rw [show inlOf ⟨fnOf, sp, L⟩ 91 = false by simp only [inlOf, hs]; rfl]
  exact callIn_den hs
theorem c92 {t : Nat} {st : List Nat} (hs : sp 92 = none) : callIn ⟨fnOf, sp, L⟩ (runF ⟨fnOf, sp, L⟩ n) (inlOf ⟨fnOf, sp, L⟩ 92) d t st 92 args H = match optList (freeze H 8) args with | none => none | some avs => match den ⟨fnOf, sp, L⟩ n 92 avs with | some r => some (thawT d t st H r) | none => none := by
  rw [show inlOf ⟨fnOf, sp, L⟩ 92 = false by simp only [inlOf, hs]; rfl]
  exact callIn_den hs
theorem c94 {t : Nat} {st : List Nat} (hs : sp 94 = none) : callIn ⟨fnOf, sp, L⟩ (runF ⟨fnOf, sp, L⟩ n) (inlOf ⟨fnOf, sp, L⟩ 94) d t st 94 args H = match optList (freeze H 8) args with | none => none | some avs => match den ⟨fnOf, sp, L⟩ n 94 avs with | some r => some (thawT d t st H r) | none => none := by
  rw [show inlOf ⟨fnOf, sp, L⟩ 94 = false by simp only [inlOf, hs]; rfl]
  exact callIn_den hs
theorem c96 {t : Nat} {st : List Nat} (hs : sp 96 = none) : callIn ⟨fnOf, sp, L⟩ (runF ⟨fnOf, sp, L⟩ n) (inlOf ⟨fnOf, sp, L⟩ 96) d t st 96 args H = match optList (freeze H 8) args with | none => none | some avs => match den ⟨fnOf, sp, L⟩ n 96 avs with | some r => some (thawT d t st H r) | none => none := by
  rw [show inlOf ⟨fnOf, sp, L⟩ 96 = false by simp only [inlOf, hs]; rfl]
  exact callIn_den hs
theorem c97 {t : Nat} {st : List Nat} (hs : sp 97 = none) : callIn ⟨fnOf, sp, L⟩ (runF ⟨fnOf, sp, L⟩ n) (inlOf ⟨fnOf, sp, L⟩ 97) d t st 97 args H = match optList (freeze H 8) args with | none => none | some avs => match den ⟨fnOf, sp, L⟩ n 97 avs with | some r => some (thawT d t st H r) | none => none := by
  rw [show inlOf ⟨fnOf, sp, L⟩ 97 = false by simp only [inlOf, hs]; rfl]
  exact callIn_den hs
theorem c98 {t : Nat} {st : List Nat} (hs : sp 98 = none) : callIn ⟨fnOf, sp, L⟩ (runF ⟨fnOf, sp, L⟩ n) (inlOf ⟨fnOf, sp, L⟩ 98) d t st 98 args H = match optList (freeze H 8) args with | none => none | some avs => match den ⟨fnOf, sp, L⟩ n 98 avs with | some r => some (thawT d t st H r) | none => none := by
  rw [show inlOf ⟨fnOf, sp, L⟩ 98 = false by simp only [inlOf, hs]; rfl]
  exact callIn_den hs
theorem c99 {t : Nat} {st : List Nat} (hs : sp 99 = none) : callIn ⟨fnOf, sp, L⟩ (runF ⟨fnOf, sp, L⟩ n) (inlOf ⟨fnOf, sp, L⟩ 99) d t st 99 args H = match optList (freeze H 8) args with | none => none | some avs => match den ⟨fnOf, sp, L⟩ n 99 avs with | some r => some (thawT d t st H r) | none => none := by
  rw [show inlOf ⟨fnOf, sp, L⟩ 99 = false by simp only [inlOf, hs]; rfl]
  exact callIn_den hs
theorem c100 {t : Nat} {st : List Nat} (hs : sp 100 = none) : callIn ⟨fnOf, sp, L⟩ (runF ⟨fnOf, sp, L⟩ n) (inlOf ⟨fnOf, sp, L⟩ 100) d t st 100 args H = match optList (freeze H 8) args with | none => none | some avs => match den ⟨fnOf, sp, L⟩ n 100 avs with | some r => some (thawT d t st H r) | none => none := by
  rw [show inlOf ⟨fnOf, sp, L⟩ 100 = false by simp only [inlOf, hs]; rfl]
  exact callIn_den hs
theorem c101 {t : Nat} {st : List Nat} (hs : sp 101 = none) : callIn ⟨fnOf, sp, L⟩ (runF ⟨fnOf, sp, L⟩ n) (inlOf ⟨fnOf, sp, L⟩ 101) d t st 101 args H = match optList (freeze H 8) args with | none => none | some avs => match den ⟨fnOf, sp, L⟩ n 101 avs with | some r => some (thawT d t st H r) | none => none := by
  rw [show inlOf ⟨fnOf, sp, L⟩ 101 = false by simp only [inlOf, hs]; rfl]
  exact callIn_den hs
theorem c102 {t : Nat} {st : List Nat} (hs : sp 102 = none) : callIn ⟨fnOf, sp, L⟩ (runF ⟨fnOf, sp, L⟩ n) (inlOf ⟨fnOf, sp, L⟩ 102) d t st 102 args H = match optList (freeze H 8) args with | none => none | some avs => match den ⟨fnOf, sp, L⟩ n 102 avs with | some r => some (thawT d t st H r) | none => none := by
  rw [show inlOf ⟨fnOf, sp, L⟩ 102 = false by simp only [inlOf, hs]; rfl]
  exact callIn_den hs
theorem c103 {t : Nat} {st : List Nat} (hs : sp 103 = none) : callIn ⟨fnOf, sp, L⟩ (runF ⟨fnOf, sp, L⟩ n) (inlOf ⟨fnOf, sp, L⟩ 103) d t st 103 args H = match optList (freeze H 8) args with | none => none | some avs => match den ⟨fnOf, sp, L⟩ n 103 avs with | some r => some (thawT d t st H r) | none => none := by
  rw [show inlOf ⟨fnOf, sp, L⟩ 103 = false by simp only [inlOf, hs]; rfl]
  exact callIn_den hs
end
theorem fnsOk (spec : FuncId → Option (List AV → Option AV)) (L : Nat) : FnsOk Try.prog ⟨fnOf, spec, L⟩ := by
  intro f fm h
  simp only [fnOf] at h
  split at h
  · cases h; exact ⟨_, Try.func3, ne_of_beq_false (by kernel_rfl), ok3⟩
  · cases h; exact ⟨_, Try.func4, ne_of_beq_false (by kernel_rfl), ok4⟩
  · cases h; exact ⟨_, Try.func5, ne_of_beq_false (by kernel_rfl), ok5⟩
  · cases h; exact ⟨_, Try.func6, ne_of_beq_false (by kernel_rfl), ok6⟩
  · cases h; exact ⟨_, Try.func7, ne_of_beq_false (by kernel_rfl), ok7⟩
  · cases h; exact ⟨_, Try.func8, ne_of_beq_false (by kernel_rfl), ok8⟩
  · cases h; exact ⟨_, Try.func9, ne_of_beq_false (by kernel_rfl), ok9⟩
  · cases h; exact ⟨_, Try.func10, ne_of_beq_false (by kernel_rfl), ok10⟩
  · cases h; exact ⟨_, Try.func11, ne_of_beq_false (by kernel_rfl), ok11⟩
  · cases h; exact ⟨_, Try.func12, ne_of_beq_false (by kernel_rfl), ok12⟩
  · cases h; exact ⟨_, Try.func13, ne_of_beq_false (by kernel_rfl), ok13⟩
  · cases h; exact ⟨_, Try.func14, ne_of_beq_false (by kernel_rfl), ok14⟩
  · cases h; exact ⟨_, Try.func15, ne_of_beq_false (by kernel_rfl), ok15⟩
  · cases h; exact ⟨_, Try.func16, ne_of_beq_false (by kernel_rfl), ok16⟩
  · cases h; exact ⟨_, Try.func17, ne_of_beq_false (by kernel_rfl), ok17⟩
  · cases h; exact ⟨_, Try.func18, ne_of_beq_false (by kernel_rfl), ok18⟩
  · cases h; exact ⟨_, Try.func19, ne_of_beq_false (by kernel_rfl), ok19⟩
  · cases h; exact ⟨_, Try.func20, ne_of_beq_false (by kernel_rfl), ok20⟩
  · cases h; exact ⟨_, Try.func21, ne_of_beq_false (by kernel_rfl), ok21⟩
  · cases h; exact ⟨_, Try.func22, ne_of_beq_false (by kernel_rfl), ok22⟩
  · cases h; exact ⟨_, Try.func23, ne_of_beq_false (by kernel_rfl), ok23⟩
  · cases h; exact ⟨_, Try.func24, ne_of_beq_false (by kernel_rfl), ok24⟩
  · cases h; exact ⟨_, Try.func25, ne_of_beq_false (by kernel_rfl), ok25⟩
  · cases h; exact ⟨_, Try.func26, ne_of_beq_false (by kernel_rfl), ok26⟩
  · cases h; exact ⟨_, Try.func27, ne_of_beq_false (by kernel_rfl), ok27⟩
  · cases h; exact ⟨_, Try.func28, ne_of_beq_false (by kernel_rfl), ok28⟩
  · cases h; exact ⟨_, Try.func29, ne_of_beq_false (by kernel_rfl), ok29⟩
  · cases h; exact ⟨_, Try.func30, ne_of_beq_false (by kernel_rfl), ok30⟩
  · cases h; exact ⟨_, Try.func31, ne_of_beq_false (by kernel_rfl), ok31⟩
  · cases h; exact ⟨_, Try.func32, ne_of_beq_false (by kernel_rfl), ok32⟩
  · cases h; exact ⟨_, Try.func33, ne_of_beq_false (by kernel_rfl), ok33⟩
  · cases h; exact ⟨_, Try.func34, ne_of_beq_false (by kernel_rfl), ok34⟩
  · cases h; exact ⟨_, Try.func35, ne_of_beq_false (by kernel_rfl), ok35⟩
  · cases h; exact ⟨_, Try.func36, ne_of_beq_false (by kernel_rfl), ok36⟩
  · cases h; exact ⟨_, Try.func37, ne_of_beq_false (by kernel_rfl), ok37⟩
  · cases h; exact ⟨_, Try.func38, ne_of_beq_false (by kernel_rfl), ok38⟩
  · cases h; exact ⟨_, Try.func39, ne_of_beq_false (by kernel_rfl), ok39⟩
  · cases h; exact ⟨_, Try.func40, ne_of_beq_false (by kernel_rfl), ok40⟩
  · cases h; exact ⟨_, Try.func41, ne_of_beq_false (by kernel_rfl), ok41⟩
  · cases h; exact ⟨_, Try.func42, ne_of_beq_false (by kernel_rfl), ok42⟩
  · cases h; exact ⟨_, Try.func43, ne_of_beq_false (by kernel_rfl), ok43⟩
  · cases h; exact ⟨_, Try.func44, ne_of_beq_false (by kernel_rfl), ok44⟩
  · cases h; exact ⟨_, Try.func45, ne_of_beq_false (by kernel_rfl), ok45⟩
  · cases h; exact ⟨_, Try.func46, ne_of_beq_false (by kernel_rfl), ok46⟩
  · cases h; exact ⟨_, Try.func47, ne_of_beq_false (by kernel_rfl), ok47⟩
  · cases h; exact ⟨_, Try.func48, ne_of_beq_false (by kernel_rfl), ok48⟩
  · cases h; exact ⟨_, Try.func49, ne_of_beq_false (by kernel_rfl), ok49⟩
  · cases h; exact ⟨_, Try.func50, ne_of_beq_false (by kernel_rfl), ok50⟩
  · cases h; exact ⟨_, Try.func51, ne_of_beq_false (by kernel_rfl), ok51⟩
  · cases h; exact ⟨_, Try.func52, ne_of_beq_false (by kernel_rfl), ok52⟩
  · cases h; exact ⟨_, Try.func53, ne_of_beq_false (by kernel_rfl), ok53⟩
  · cases h; exact ⟨_, Try.func54, ne_of_beq_false (by kernel_rfl), ok54⟩
  · cases h; exact ⟨_, Try.func55, ne_of_beq_false (by kernel_rfl), ok55⟩
  · cases h; exact ⟨_, Try.func56, ne_of_beq_false (by kernel_rfl), ok56⟩
  · cases h; exact ⟨_, Try.func57, ne_of_beq_false (by kernel_rfl), ok57⟩
  · cases h; exact ⟨_, Try.func58, ne_of_beq_false (by kernel_rfl), ok58⟩
  · cases h; exact ⟨_, Try.func59, ne_of_beq_false (by kernel_rfl), ok59⟩
  · cases h; exact ⟨_, Try.func60, ne_of_beq_false (by kernel_rfl), ok60⟩
  · cases h; exact ⟨_, Try.func61, ne_of_beq_false (by kernel_rfl), ok61⟩
  · cases h; exact ⟨_, Try.func62, ne_of_beq_false (by kernel_rfl), ok62⟩
  · cases h; exact ⟨_, Try.func63, ne_of_beq_false (by kernel_rfl), ok63⟩
  · cases h; exact ⟨_, Try.func64, ne_of_beq_false (by kernel_rfl), ok64⟩
  · cases h; exact ⟨_, Try.func65, ne_of_beq_false (by kernel_rfl), ok65⟩
  · cases h; exact ⟨_, Try.func66, ne_of_beq_false (by kernel_rfl), ok66⟩
  · cases h; exact ⟨_, Try.func67, ne_of_beq_false (by kernel_rfl), ok67⟩
  · cases h; exact ⟨_, Try.func68, ne_of_beq_false (by kernel_rfl), ok68⟩
  · cases h; exact ⟨_, Try.func69, ne_of_beq_false (by kernel_rfl), ok69⟩
  · cases h; exact ⟨_, Try.func70, ne_of_beq_false (by kernel_rfl), ok70⟩
  · cases h; exact ⟨_, Try.func71, ne_of_beq_false (by kernel_rfl), ok71⟩
  · cases h; exact ⟨_, Try.func72, ne_of_beq_false (by kernel_rfl), ok72⟩
  · cases h; exact ⟨_, Try.func73, ne_of_beq_false (by kernel_rfl), ok73⟩
  · cases h; exact ⟨_, Try.func74, ne_of_beq_false (by kernel_rfl), ok74⟩
  · cases h; exact ⟨_, Try.func75, ne_of_beq_false (by kernel_rfl), ok75⟩
  · cases h; exact ⟨_, Try.func76, ne_of_beq_false (by kernel_rfl), ok76⟩
  · cases h; exact ⟨_, Try.func79, ne_of_beq_false (by kernel_rfl), ok79⟩
  · cases h; exact ⟨_, Try.func80, ne_of_beq_false (by kernel_rfl), ok80⟩
  · cases h; exact ⟨_, Try.func81, ne_of_beq_false (by kernel_rfl), ok81⟩
  · cases h; exact ⟨_, Try.func82, ne_of_beq_false (by kernel_rfl), ok82⟩
  · cases h; exact ⟨_, Try.func84, ne_of_beq_false (by kernel_rfl), ok84⟩
  · cases h; exact ⟨_, Try.func85, ne_of_beq_false (by kernel_rfl), ok85⟩
  · cases h; exact ⟨_, Try.func87, ne_of_beq_false (by kernel_rfl), ok87⟩
  · cases h; exact ⟨_, Try.func88, ne_of_beq_false (by kernel_rfl), ok88⟩
  · cases h; exact ⟨_, Try.func89, ne_of_beq_false (by kernel_rfl), ok89⟩
  · cases h; exact ⟨_, Try.func90, ne_of_beq_false (by kernel_rfl), ok90⟩
  · cases h; exact ⟨_, Try.func91, ne_of_beq_false (by kernel_rfl), ok91⟩
  · cases h; exact ⟨_, Try.func92, ne_of_beq_false (by kernel_rfl), ok92⟩
  · cases h; exact ⟨_, Try.func94, ne_of_beq_false (by kernel_rfl), ok94⟩
  · cases h; exact ⟨_, Try.func96, ne_of_beq_false (by kernel_rfl), ok96⟩
  · cases h; exact ⟨_, Try.func97, ne_of_beq_false (by kernel_rfl), ok97⟩
  · cases h; exact ⟨_, Try.func98, ne_of_beq_false (by kernel_rfl), ok98⟩
  · cases h; exact ⟨_, Try.func99, ne_of_beq_false (by kernel_rfl), ok99⟩
  · cases h; exact ⟨_, Try.func100, ne_of_beq_false (by kernel_rfl), ok100⟩
  · cases h; exact ⟨_, Try.func101, ne_of_beq_false (by kernel_rfl), ok101⟩
  · cases h; exact ⟨_, Try.func102, ne_of_beq_false (by kernel_rfl), ok102⟩
  · cases h; exact ⟨_, Try.func103, ne_of_beq_false (by kernel_rfl), ok103⟩
  · cases h
theorem follows : Try.prog.follows .mixedOrders = true := by kernel_rfl
theorem laidOut : laidOutB Try.prog = true := by kernel_rfl
theorem own : ownKnob Try.prog.godebug = none := by kernel_rfl
/-- what the evaluator answers, the program answers -/
theorem law {spec : FuncId → Option (List AV → Option AV)} {L k : Nat} {f : FuncId} {avs : List AV} {x : Value} (hS : SpecOk Try.prog ⟨fnOf, spec, L⟩) (h : den ⟨fnOf, spec, L⟩ k f avs = some (.v x)) {W : World} {args : Array Value} (hr : RelL (ρ0 fun _ => False) old0 W avs args.toList) :
    Calls Try.prog f args W fun e w' => e = .returned x ∧ RowKit.Below W.heap.size W w' :=
  den_calls hS (fnsOk _ _) (fun _ hC => draw_ok follows hC hS) h hr
end Go.Proofs.Ytdbjaolgdnldiaa.Fw
