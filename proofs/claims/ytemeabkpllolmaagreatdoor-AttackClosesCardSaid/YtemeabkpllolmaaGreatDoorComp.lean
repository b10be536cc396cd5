/-
  The printed functions are what the compiler makes of the program. Conditions: none beyond the statement.
-/
import Derived.Test.YtemeabkpllolmaaGreatDoorRows
import Derived.Test.YtemeabkpllolmaaGreatDoorCode
import Derived.Test.YtemeabkpllolmaaGreatDoorInt7
namespace Go.Proofs.YtemeabkpllolmaaGreatDoor
open Go Go.Ai
set_option maxRecDepth 100000
theorem cf3 : compF Tryz.prog false Tryz.f3 = some K36.i3 := by kernel_rfl
theorem cf9 : compF Tryz.prog false Tryz.f9 = some K36.i9 := by kernel_rfl
theorem cf10 : compF Tryz.prog false Tryz.f10 = some K36.i10 := by kernel_rfl
theorem cf11 : compF Tryz.prog false Tryz.f11 = some K36.i11 := by kernel_rfl
theorem cf12 : compF Tryz.prog false Tryz.f12 = some K36.i12 := by kernel_rfl
theorem cf13 : compF Tryz.prog false Tryz.f13 = some K36.i13 := by kernel_rfl
theorem cf15 : compF Tryz.prog false Tryz.f15 = some K36.i15 := by kernel_rfl
theorem cf19 : compF Tryz.prog false Tryz.f19 = some K36.i19 := by kernel_rfl
theorem cf22 : compF Tryz.prog false Tryz.f22 = some K36.i22 := by kernel_rfl
theorem cf29 : compF Tryz.prog false Tryz.f29 = some K36.i29 := by kernel_rfl
theorem cf32 : compF Tryz.prog false Tryz.f32 = some K36.i32 := by kernel_rfl
theorem cf33 : compF Tryz.prog false Tryz.f33 = some K36.i33 := by kernel_rfl
theorem cf34 : compF Tryz.prog false Tryz.f34 = some K36.i34 := by kernel_rfl
theorem cf35 : compF Tryz.prog false Tryz.f35 = some K36.i35 := by kernel_rfl
theorem cf36 : compF Tryz.prog false Tryz.f36 = some K36.i36 := by kernel_rfl
theorem cf37 : compF Tryz.prog false Tryz.f37 = some K36.i37 := by kernel_rfl
theorem cf38 : compF Tryz.prog false Tryz.f38 = some K36.i38 := by kernel_rfl
theorem cf39 : compF Tryz.prog false Tryz.f39 = some K36.i39 := by kernel_rfl
theorem cf40 : compF Tryz.prog false Tryz.f40 = some K36.i40 := by kernel_rfl
theorem cf41 : compF Tryz.prog true Tryz.f41 = some K36.i41 := by kernel_rfl
theorem cf45 : compF Tryz.prog true Tryz.f45 = some K36.i45 := by kernel_rfl
theorem cf46 : compF Tryz.prog true Tryz.f46 = some K36.i46 := by kernel_rfl
theorem cf47 : compF Tryz.prog false Tryz.f47 = some K36.i47 := by kernel_rfl
theorem cf48 : compF Tryz.prog true Tryz.f48 = some K36.i48 := by kernel_rfl
theorem cf49 : compF Tryz.prog true Tryz.f49 = some K36.i49 := by kernel_rfl
theorem cf58 : compF Tryz.prog false Tryz.f58 = some K36.i58 := by kernel_rfl
theorem cf61 : compF Tryz.prog false Tryz.f61 = some K36.i61 := by kernel_rfl
theorem cf63 : compF Tryz.prog false Tryz.f63 = some K36.i63 := by kernel_rfl
theorem cf64 : compF Tryz.prog false Tryz.f64 = some K36.i64 := by kernel_rfl
theorem cf65 : compF Tryz.prog false Tryz.f65 = some K36.i65 := by kernel_rfl
theorem cf73 : compF Tryz.prog false Tryz.f73 = some K36.i73 := by kernel_rfl
theorem cf74 : compF Tryz.prog false Tryz.f74 = some K36.i74 := by kernel_rfl
theorem cf75 : compF Tryz.prog false Tryz.f75 = some K36.i75 := by kernel_rfl
theorem cf76 : compF Tryz.prog false Tryz.f76 = some K36.i76 := by kernel_rfl
theorem cf77 : compF Tryz.prog true Tryz.f77 = some K36.i77 := by kernel_rfl
theorem cf78 : compF Tryz.prog true Tryz.f78 = some K36.i78 := by kernel_rfl
theorem cf79 : compF Tryz.prog true Tryz.f79 = some K36.i79 := by kernel_rfl
theorem cf83 : compF Tryz.prog true Tryz.f83 = some K36.i83 := by kernel_rfl
theorem cf84 : compF Tryz.prog false Tryz.f84 = some K36.i84 := by kernel_rfl
theorem cf86 : compF Tryz.prog true Tryz.f86 = some K36.i86 := by kernel_rfl
theorem cf87 : compF Tryz.prog false Tryz.f87 = some K36.i87 := by kernel_rfl
theorem cf88 : compF Tryz.prog true Tryz.f88 = some K36.i88 := by kernel_rfl
theorem cf89 : compF Tryz.prog true Tryz.f89 = some K36.i89 := by kernel_rfl
theorem cf97 : compF Tryz.prog true Tryz.f97 = some K36.i97 := by kernel_rfl
theorem cf98 : compF Tryz.prog false Tryz.f98 = some K36.i98 := by kernel_rfl
theorem cf100 : compF Tryz.prog false Tryz.f100 = some K36.i100 := by kernel_rfl
theorem cf101 : compF Tryz.prog false Tryz.f101 = some K36.i101 := by kernel_rfl
theorem cf102 : compF Tryz.prog false Tryz.f102 = some K36.i102 := by kernel_rfl
theorem cf103 : compF Tryz.prog false Tryz.f103 = some K36.i103 := by kernel_rfl
theorem cf104 : compF Tryz.prog false Tryz.f104 = some K36.i104 := by kernel_rfl
theorem cf107 : compF Tryz.prog false Tryz.f107 = some K36.i107 := by kernel_rfl
theorem cf109 : compF Tryz.prog false Tryz.f109 = some K36.i109 := by kernel_rfl
theorem cf110 : compF Tryz.prog false Tryz.f110 = some K36.i110 := by kernel_rfl
theorem cf112 : compF Tryz.prog false Tryz.f112 = some K36.i112 := by kernel_rfl
theorem cf127 : compF Tryz.prog false Tryz.f127 = some K36.i127 := by kernel_rfl
theorem cf130 : compF Tryz.prog true Tryz.f130 = some K36.i130 := by kernel_rfl
theorem cf137 : compF Tryz.prog false Tryz.f137 = some K36.i137 := by kernel_rfl
theorem cf148 : compF Tryz.prog false Tryz.f148 = some K36.i148 := by kernel_rfl
theorem cf149 : compF Tryz.prog false Tryz.f149 = some K36.i149 := by kernel_rfl
theorem cf150 : compF Tryz.prog false Tryz.f150 = some K36.i150 := by kernel_rfl
theorem cf151 : compF Tryz.prog false Tryz.f151 = some K36.i151 := by kernel_rfl
theorem cf152 : compF Tryz.prog true Tryz.f152 = some K36.i152 := by kernel_rfl
theorem cf153 : compF Tryz.prog true Tryz.f153 = some K36.i153 := by kernel_rfl
theorem cf154 : compF Tryz.prog false Tryz.f154 = some K36.i154 := by kernel_rfl
theorem cf155 : compF Tryz.prog false Tryz.f155 = some K36.i155 := by kernel_rfl
theorem cf156 : compF Tryz.prog false Tryz.f156 = some K36.i156 := by kernel_rfl
theorem cf157 : compF Tryz.prog false Tryz.f157 = some K36.i157 := by kernel_rfl
theorem cf158 : compF Tryz.prog false Tryz.f158 = some K36.i158 := by kernel_rfl
theorem cf159 : compF Tryz.prog true Tryz.f159 = some K36.i159 := by kernel_rfl
theorem cf160 : compF Tryz.prog false Tryz.f160 = some K36.i160 := by kernel_rfl
theorem cf161 : compF Tryz.prog false Tryz.f161 = some K36.i161 := by kernel_rfl
theorem cf162 : compF Tryz.prog false Tryz.f162 = some K36.i162 := by kernel_rfl
theorem cf163 : compF Tryz.prog false Tryz.f163 = some K36.i163 := by kernel_rfl
theorem cf202 : compF Tryz.prog false Tryz.f202 = some K36.i202 := by kernel_rfl
theorem cf203 : compF Tryz.prog true Tryz.f203 = some K36.i203 := by kernel_rfl
theorem cf204 : compF Tryz.prog false Tryz.f204 = some K36.i204 := by kernel_rfl
theorem cf207 : compF Tryz.prog false Tryz.f207 = some K36.i207 := by kernel_rfl
theorem cf208 : compF Tryz.prog false Tryz.f208 = some K36.i208 := by kernel_rfl
theorem cf227 : compF Tryz.prog true Tryz.f227 = some K36.i227 := by kernel_rfl
theorem cf233 : compF Tryz.prog false Tryz.f233 = some K36.i233 := by kernel_rfl
theorem cf252 : compF Tryz.prog false Tryz.f252 = some K36.i252 := by kernel_rfl
theorem hir : ∀ f ifn, K36.ir f = some ifn → ∃ fn keep, Tryz.prog.funcs[f]? = some fn ∧ compF Tryz.prog keep fn = some ifn := by
  have h : ∀ p ∈ K36.tt.list, ∃ fn keep, Tryz.prog.funcs[p.1]? = some fn ∧ compF Tryz.prog keep fn = some p.2 := by
    show ∀ p ∈ [(3, K36.i3), (9, K36.i9), (10, K36.i10), (11, K36.i11), (12, K36.i12), (13, K36.i13), (15, K36.i15), (19, K36.i19), (22, K36.i22), (29, K36.i29), (32, K36.i32), (33, K36.i33), (34, K36.i34), (35, K36.i35), (36, K36.i36), (37, K36.i37), (38, K36.i38), (39, K36.i39), (40, K36.i40), (41, K36.i41), (45, K36.i45), (46, K36.i46), (47, K36.i47), (48, K36.i48), (49, K36.i49), (58, K36.i58), (61, K36.i61), (63, K36.i63), (64, K36.i64), (65, K36.i65), (73, K36.i73), (74, K36.i74), (75, K36.i75), (76, K36.i76), (77, K36.i77), (78, K36.i78), (79, K36.i79), (83, K36.i83), (84, K36.i84), (86, K36.i86), (87, K36.i87), (88, K36.i88), (89, K36.i89), (97, K36.i97), (98, K36.i98), (100, K36.i100), (101, K36.i101), (102, K36.i102), (103, K36.i103), (104, K36.i104), (107, K36.i107), (109, K36.i109), (110, K36.i110), (112, K36.i112), (127, K36.i127), (130, K36.i130), (137, K36.i137), (148, K36.i148), (149, K36.i149), (150, K36.i150), (151, K36.i151), (152, K36.i152), (153, K36.i153), (154, K36.i154), (155, K36.i155), (156, K36.i156), (157, K36.i157), (158, K36.i158), (159, K36.i159), (160, K36.i160), (161, K36.i161), (162, K36.i162), (163, K36.i163), (202, K36.i202), (203, K36.i203), (204, K36.i204), (207, K36.i207), (208, K36.i208), (227, K36.i227), (233, K36.i233), (252, K36.i252)], _
    simp only [List.forall_mem_cons]
    exact ⟨⟨_, _, Tryz.func3, cf3⟩, ⟨_, _, Tryz.func9, cf9⟩, ⟨_, _, Tryz.func10, cf10⟩, ⟨_, _, Tryz.func11, cf11⟩, ⟨_, _, Tryz.func12, cf12⟩, ⟨_, _, Tryz.func13, cf13⟩, ⟨_, _, Tryz.func15, cf15⟩, ⟨_, _, Tryz.func19, cf19⟩, ⟨_, _, Tryz.func22, cf22⟩, ⟨_, _, Tryz.func29, cf29⟩, ⟨_, _, Tryz.func32, cf32⟩, ⟨_, _, Tryz.func33, cf33⟩, ⟨_, _, Tryz.func34, cf34⟩, ⟨_, _, Tryz.func35, cf35⟩, ⟨_, _, Tryz.func36, cf36⟩, ⟨_, _, Tryz.func37, cf37⟩, ⟨_, _, Tryz.func38, cf38⟩, ⟨_, _, Tryz.func39, cf39⟩, ⟨_, _, Tryz.func40, cf40⟩, ⟨_, _, Tryz.func41, cf41⟩, ⟨_, _, Tryz.func45, cf45⟩, ⟨_, _, Tryz.func46, cf46⟩, ⟨_, _, Tryz.func47, cf47⟩, ⟨_, _, Tryz.func48, cf48⟩, ⟨_, _, Tryz.func49, cf49⟩, ⟨_, _, Tryz.func58, cf58⟩, ⟨_, _, Tryz.func61, cf61⟩, ⟨_, _, Tryz.func63, cf63⟩, ⟨_, _, Tryz.func64, cf64⟩, ⟨_, _, Tryz.func65, cf65⟩, ⟨_, _, Tryz.func73, cf73⟩, ⟨_, _, Tryz.func74, cf74⟩, ⟨_, _, Tryz.func75, cf75⟩, ⟨_, _, Tryz.func76, cf76⟩, ⟨_, _, Tryz.func77, cf77⟩, ⟨_, _, Tryz.func78, cf78⟩, ⟨_, _, Tryz.func79, cf79⟩, ⟨_, _, Tryz.func83, cf83⟩, ⟨_, _, Tryz.func84, cf84⟩, ⟨_, _, Tryz.func86, cf86⟩, ⟨_, _, Tryz.func87, cf87⟩, ⟨_, _, Tryz.func88, cf88⟩, ⟨_, _, Tryz.func89, cf89⟩, ⟨_, _, Tryz.func97, cf97⟩, ⟨_, _, Tryz.func98, cf98⟩, ⟨_, _, Tryz.func100, cf100⟩, ⟨_, _, Tryz.func101, cf101⟩, ⟨_, _, Tryz.func102, cf102⟩, ⟨_, _, Tryz.func103, cf103⟩, ⟨_, _, Tryz.func104, cf104⟩, ⟨_, _, Tryz.func107, cf107⟩, ⟨_, _, Tryz.func109, cf109⟩, ⟨_, _, Tryz.func110, cf110⟩, ⟨_, _, Tryz.func112, cf112⟩, ⟨_, _, Tryz.func127, cf127⟩, ⟨_, _, Tryz.func130, cf130⟩, ⟨_, _, Tryz.func137, cf137⟩, ⟨_, _, Tryz.func148, cf148⟩, ⟨_, _, Tryz.func149, cf149⟩, ⟨_, _, Tryz.func150, cf150⟩, ⟨_, _, Tryz.func151, cf151⟩, ⟨_, _, Tryz.func152, cf152⟩, ⟨_, _, Tryz.func153, cf153⟩, ⟨_, _, Tryz.func154, cf154⟩, ⟨_, _, Tryz.func155, cf155⟩, ⟨_, _, Tryz.func156, cf156⟩, ⟨_, _, Tryz.func157, cf157⟩, ⟨_, _, Tryz.func158, cf158⟩, ⟨_, _, Tryz.func159, cf159⟩, ⟨_, _, Tryz.func160, cf160⟩, ⟨_, _, Tryz.func161, cf161⟩, ⟨_, _, Tryz.func162, cf162⟩, ⟨_, _, Tryz.func163, cf163⟩, ⟨_, _, Tryz.func202, cf202⟩, ⟨_, _, Tryz.func203, cf203⟩, ⟨_, _, Tryz.func204, cf204⟩, ⟨_, _, Tryz.func207, cf207⟩, ⟨_, _, Tryz.func208, cf208⟩, ⟨_, _, Tryz.func227, cf227⟩, ⟨_, _, Tryz.func233, cf233⟩, ⟨_, _, Tryz.func252, cf252⟩, fun p hp => by simp at hp⟩
  exact fun f ifn hf => h _ (K36.TT.mem _ _ _ hf)
end Go.Proofs.YtemeabkpllolmaaGreatDoor
