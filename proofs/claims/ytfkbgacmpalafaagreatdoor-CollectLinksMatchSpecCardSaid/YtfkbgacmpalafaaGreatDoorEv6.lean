/-
  The functions are what the program has; fence as a summary.
-/
import Derived.Test.YtfkbgacmpalafaaGreatDoorEv4
import Derived.Test.YtfkbgacmpalafaaGreatDoorEv5
import Derived.Test.YtfkbgacmpalafaaGreatDoorProg
import Derived.KernelRfl
import Derived.Test.YtfkbgacmpalafaaGreatDoorEv1
namespace Go.Ev
open Go Go.Proofs
namespace L32
set_option maxRecDepth 100000
theorem ok3 : FnOk Tryz.prog 3 c3 := ⟨Tryz.f3, _, Tryz.func3, rfl, by decide, by kernel_rfl, by kernel_rfl⟩
theorem ok6 : FnOk Tryz.prog 6 c6 := ⟨Tryz.f6, _, Tryz.func6, rfl, by decide, by kernel_rfl, by kernel_rfl⟩
theorem ok7 : FnOk Tryz.prog 7 c7 := ⟨Tryz.f7, _, Tryz.func7, rfl, by decide, by kernel_rfl, by kernel_rfl⟩
theorem ok8 : FnOk Tryz.prog 8 c8 := ⟨Tryz.f8, _, Tryz.func8, rfl, by decide, by kernel_rfl, by kernel_rfl⟩
theorem ok9 : FnOk Tryz.prog 9 c9 := ⟨Tryz.f9, _, Tryz.func9, rfl, by decide, by kernel_rfl, by kernel_rfl⟩
theorem ok10 : FnOk Tryz.prog 10 c10 := ⟨Tryz.f10, _, Tryz.func10, rfl, by decide, by kernel_rfl, by kernel_rfl⟩
theorem ok11 : FnOk Tryz.prog 11 c11 := ⟨Tryz.f11, _, Tryz.func11, rfl, by decide, by kernel_rfl, by kernel_rfl⟩
theorem ok12 : FnOk Tryz.prog 12 c12 := ⟨Tryz.f12, _, Tryz.func12, rfl, by decide, by kernel_rfl, by kernel_rfl⟩
theorem ok13 : FnOk Tryz.prog 13 c13 := ⟨Tryz.f13, _, Tryz.func13, rfl, by decide, by kernel_rfl, by kernel_rfl⟩
theorem ok17 : FnOk Tryz.prog 17 c17 := ⟨Tryz.f17, _, Tryz.func17, rfl, by decide, by kernel_rfl, by kernel_rfl⟩
theorem ok19 : FnOk Tryz.prog 19 c19 := ⟨Tryz.f19, _, Tryz.func19, rfl, by decide, by kernel_rfl, by kernel_rfl⟩
theorem ok22 : FnOk Tryz.prog 22 c22 := ⟨Tryz.f22, _, Tryz.func22, rfl, by decide, by kernel_rfl, by kernel_rfl⟩
theorem ok26 : FnOk Tryz.prog 26 c26 := ⟨Tryz.f26, _, Tryz.func26, rfl, by decide, by kernel_rfl, by kernel_rfl⟩
theorem ok33 : FnOk Tryz.prog 33 c33 := ⟨Tryz.f33, _, Tryz.func33, rfl, by decide, by kernel_rfl, by kernel_rfl⟩
theorem ok34 : FnOk Tryz.prog 34 c34 := ⟨Tryz.f34, _, Tryz.func34, rfl, by decide, by kernel_rfl, by kernel_rfl⟩
theorem ok35 : FnOk Tryz.prog 35 c35 := ⟨Tryz.f35, _, Tryz.func35, rfl, by decide, by kernel_rfl, by kernel_rfl⟩
theorem ok36 : FnOk Tryz.prog 36 c36 := ⟨Tryz.f36, _, Tryz.func36, rfl, by decide, by kernel_rfl, by kernel_rfl⟩
theorem ok37 : FnOk Tryz.prog 37 c37 := ⟨Tryz.f37, _, Tryz.func37, rfl, by decide, by kernel_rfl, by kernel_rfl⟩
theorem ok38 : FnOk Tryz.prog 38 c38 := ⟨Tryz.f38, _, Tryz.func38, rfl, by decide, by kernel_rfl, by kernel_rfl⟩
theorem ok39 : FnOk Tryz.prog 39 c39 := ⟨Tryz.f39, _, Tryz.func39, rfl, by decide, by kernel_rfl, by kernel_rfl⟩
theorem ok40 : FnOk Tryz.prog 40 c40 := ⟨Tryz.f40, _, Tryz.func40, rfl, by decide, by kernel_rfl, by kernel_rfl⟩
theorem ok41 : FnOk Tryz.prog 41 c41 := ⟨Tryz.f41, _, Tryz.func41, rfl, by decide, by kernel_rfl, by kernel_rfl⟩
theorem ok42 : FnOk Tryz.prog 42 c42 := ⟨Tryz.f42, _, Tryz.func42, rfl, by decide, by kernel_rfl, by kernel_rfl⟩
theorem ok43 : FnOk Tryz.prog 43 c43 := ⟨Tryz.f43, _, Tryz.func43, rfl, by decide, by kernel_rfl, by kernel_rfl⟩
theorem ok51 : FnOk Tryz.prog 51 c51 := ⟨Tryz.f51, _, Tryz.func51, rfl, by decide, by kernel_rfl, by kernel_rfl⟩
theorem ok55 : FnOk Tryz.prog 55 c55 := ⟨Tryz.f55, _, Tryz.func55, rfl, by decide, by kernel_rfl, by kernel_rfl⟩
theorem ok56 : FnOk Tryz.prog 56 c56 := ⟨Tryz.f56, _, Tryz.func56, rfl, by decide, by kernel_rfl, by kernel_rfl⟩
theorem ok60 : FnOk Tryz.prog 60 c60 := ⟨Tryz.f60, _, Tryz.func60, rfl, by decide, by kernel_rfl, by kernel_rfl⟩
theorem ok64 : FnOk Tryz.prog 64 c64 := ⟨Tryz.f64, _, Tryz.func64, rfl, by decide, by kernel_rfl, by kernel_rfl⟩
theorem ok66 : FnOk Tryz.prog 66 c66 := ⟨Tryz.f66, _, Tryz.func66, rfl, by decide, by kernel_rfl, by kernel_rfl⟩
theorem ok67 : FnOk Tryz.prog 67 c67 := ⟨Tryz.f67, _, Tryz.func67, rfl, by decide, by kernel_rfl, by kernel_rfl⟩
theorem ok68 : FnOk Tryz.prog 68 c68 := ⟨Tryz.f68, _, Tryz.func68, rfl, by decide, by kernel_rfl, by kernel_rfl⟩
theorem ok69 : FnOk Tryz.prog 69 c69 := ⟨Tryz.f69, _, Tryz.func69, rfl, by decide, by kernel_rfl, by kernel_rfl⟩
theorem ok70 : FnOk Tryz.prog 70 c70 := ⟨Tryz.f70, _, Tryz.func70, rfl, by decide, by kernel_rfl, by kernel_rfl⟩
theorem ok71 : FnOk Tryz.prog 71 c71 := ⟨Tryz.f71, _, Tryz.func71, rfl, by decide, by kernel_rfl, by kernel_rfl⟩
theorem ok72 : FnOk Tryz.prog 72 c72 := ⟨Tryz.f72, _, Tryz.func72, rfl, by decide, by kernel_rfl, by kernel_rfl⟩
theorem ok73 : FnOk Tryz.prog 73 c73 := ⟨Tryz.f73, _, Tryz.func73, rfl, by decide, by kernel_rfl, by kernel_rfl⟩
theorem ok74 : FnOk Tryz.prog 74 c74 := ⟨Tryz.f74, _, Tryz.func74, rfl, by decide, by kernel_rfl, by kernel_rfl⟩
theorem ok75 : FnOk Tryz.prog 75 c75 := ⟨Tryz.f75, _, Tryz.func75, rfl, by decide, by kernel_rfl, by kernel_rfl⟩
theorem ok76 : FnOk Tryz.prog 76 c76 := ⟨Tryz.f76, _, Tryz.func76, rfl, by decide, by kernel_rfl, by kernel_rfl⟩
theorem ok77 : FnOk Tryz.prog 77 c77 := ⟨Tryz.f77, _, Tryz.func77, rfl, by decide, by kernel_rfl, by kernel_rfl⟩
theorem ok90 : FnOk Tryz.prog 90 c90 := ⟨Tryz.f90, _, Tryz.func90, rfl, by decide, by kernel_rfl, by kernel_rfl⟩
theorem ok91 : FnOk Tryz.prog 91 c91 := ⟨Tryz.f91, _, Tryz.func91, rfl, by decide, by kernel_rfl, by kernel_rfl⟩
theorem ok94 : FnOk Tryz.prog 94 c94 := ⟨Tryz.f94, _, Tryz.func94, rfl, by decide, by kernel_rfl, by kernel_rfl⟩
theorem ok95 : FnOk Tryz.prog 95 c95 := ⟨Tryz.f95, _, Tryz.func95, rfl, by decide, by kernel_rfl, by kernel_rfl⟩
theorem ok96 : FnOk Tryz.prog 96 c96 := ⟨Tryz.f96, _, Tryz.func96, rfl, by decide, by kernel_rfl, by kernel_rfl⟩
theorem ok100 : FnOk Tryz.prog 100 c100 := ⟨Tryz.f100, _, Tryz.func100, rfl, by decide, by kernel_rfl, by kernel_rfl⟩
theorem ok102 : FnOk Tryz.prog 102 c102 := ⟨Tryz.f102, _, Tryz.func102, rfl, by decide, by kernel_rfl, by kernel_rfl⟩
theorem ok108 : FnOk Tryz.prog 108 c108 := ⟨Tryz.f108, _, Tryz.func108, rfl, by decide, by kernel_rfl, by kernel_rfl⟩
theorem ok110 : FnOk Tryz.prog 110 c110 := ⟨Tryz.f110, _, Tryz.func110, rfl, by decide, by kernel_rfl, by kernel_rfl⟩
theorem ok111 : FnOk Tryz.prog 111 c111 := ⟨Tryz.f111, _, Tryz.func111, rfl, by decide, by kernel_rfl, by kernel_rfl⟩
theorem ok112 : FnOk Tryz.prog 112 c112 := ⟨Tryz.f112, _, Tryz.func112, rfl, by decide, by kernel_rfl, by kernel_rfl⟩
theorem ok113 : FnOk Tryz.prog 113 c113 := ⟨Tryz.f113, _, Tryz.func113, rfl, by decide, by kernel_rfl, by kernel_rfl⟩
theorem ok114 : FnOk Tryz.prog 114 c114 := ⟨Tryz.f114, _, Tryz.func114, rfl, by decide, by kernel_rfl, by kernel_rfl⟩
theorem ok115 : FnOk Tryz.prog 115 c115 := ⟨Tryz.f115, _, Tryz.func115, rfl, by decide, by kernel_rfl, by kernel_rfl⟩
theorem ok116 : FnOk Tryz.prog 116 c116 := ⟨Tryz.f116, _, Tryz.func116, rfl, by decide, by kernel_rfl, by kernel_rfl⟩
theorem ok117 : FnOk Tryz.prog 117 c117 := ⟨Tryz.f117, _, Tryz.func117, rfl, by decide, by kernel_rfl, by kernel_rfl⟩
theorem ok118 : FnOk Tryz.prog 118 c118 := ⟨Tryz.f118, _, Tryz.func118, rfl, by decide, by kernel_rfl, by kernel_rfl⟩
theorem ok119 : FnOk Tryz.prog 119 c119 := ⟨Tryz.f119, _, Tryz.func119, rfl, by decide, by kernel_rfl, by kernel_rfl⟩
theorem ok120 : FnOk Tryz.prog 120 c120 := ⟨Tryz.f120, _, Tryz.func120, rfl, by decide, by kernel_rfl, by kernel_rfl⟩
theorem ok130 : FnOk Tryz.prog 130 c130 := ⟨Tryz.f130, _, Tryz.func130, rfl, by decide, by kernel_rfl, by kernel_rfl⟩
theorem ok132 : FnOk Tryz.prog 132 c132 := ⟨Tryz.f132, _, Tryz.func132, rfl, by decide, by kernel_rfl, by kernel_rfl⟩
theorem ok134 : FnOk Tryz.prog 134 c134 := ⟨Tryz.f134, _, Tryz.func134, rfl, by decide, by kernel_rfl, by kernel_rfl⟩
theorem ok135 : FnOk Tryz.prog 135 c135 := ⟨Tryz.f135, _, Tryz.func135, rfl, by decide, by kernel_rfl, by kernel_rfl⟩
theorem ok136 : FnOk Tryz.prog 136 c136 := ⟨Tryz.f136, _, Tryz.func136, rfl, by decide, by kernel_rfl, by kernel_rfl⟩
theorem ok137 : FnOk Tryz.prog 137 c137 := ⟨Tryz.f137, _, Tryz.func137, rfl, by decide, by kernel_rfl, by kernel_rfl⟩
theorem ok138 : FnOk Tryz.prog 138 c138 := ⟨Tryz.f138, _, Tryz.func138, rfl, by decide, by kernel_rfl, by kernel_rfl⟩
theorem ok142 : FnOk Tryz.prog 142 c142 := ⟨Tryz.f142, _, Tryz.func142, rfl, by decide, by kernel_rfl, by kernel_rfl⟩
theorem ok143 : FnOk Tryz.prog 143 c143 := ⟨Tryz.f143, _, Tryz.func143, rfl, by decide, by kernel_rfl, by kernel_rfl⟩
theorem ok144 : FnOk Tryz.prog 144 c144 := ⟨Tryz.f144, _, Tryz.func144, rfl, by decide, by kernel_rfl, by kernel_rfl⟩
theorem ok146 : FnOk Tryz.prog 146 c146 := ⟨Tryz.f146, _, Tryz.func146, rfl, by decide, by kernel_rfl, by kernel_rfl⟩
theorem ok147 : FnOk Tryz.prog 147 c147 := ⟨Tryz.f147, _, Tryz.func147, rfl, by decide, by kernel_rfl, by kernel_rfl⟩
theorem ok148 : FnOk Tryz.prog 148 c148 := ⟨Tryz.f148, _, Tryz.func148, rfl, by decide, by kernel_rfl, by kernel_rfl⟩
theorem ok149 : FnOk Tryz.prog 149 c149 := ⟨Tryz.f149, _, Tryz.func149, rfl, by decide, by kernel_rfl, by kernel_rfl⟩
theorem ok150 : FnOk Tryz.prog 150 c150 := ⟨Tryz.f150, _, Tryz.func150, rfl, by decide, by kernel_rfl, by kernel_rfl⟩
theorem ok152 : FnOk Tryz.prog 152 c152 := ⟨Tryz.f152, _, Tryz.func152, rfl, by decide, by kernel_rfl, by kernel_rfl⟩
theorem ok153 : FnOk Tryz.prog 153 c153 := ⟨Tryz.f153, _, Tryz.func153, rfl, by decide, by kernel_rfl, by kernel_rfl⟩
theorem ok157 : FnOk Tryz.prog 157 c157 := ⟨Tryz.f157, _, Tryz.func157, rfl, by decide, by kernel_rfl, by kernel_rfl⟩
theorem ok158 : FnOk Tryz.prog 158 c158 := ⟨Tryz.f158, _, Tryz.func158, rfl, by decide, by kernel_rfl, by kernel_rfl⟩
theorem ok159 : FnOk Tryz.prog 159 c159 := ⟨Tryz.f159, _, Tryz.func159, rfl, by decide, by kernel_rfl, by kernel_rfl⟩
theorem ok160 : FnOk Tryz.prog 160 c160 := ⟨Tryz.f160, _, Tryz.func160, rfl, by decide, by kernel_rfl, by kernel_rfl⟩
theorem ok161 : FnOk Tryz.prog 161 c161 := ⟨Tryz.f161, _, Tryz.func161, rfl, by decide, by kernel_rfl, by kernel_rfl⟩
theorem ok162 : FnOk Tryz.prog 162 c162 := ⟨Tryz.f162, _, Tryz.func162, rfl, by decide, by kernel_rfl, by kernel_rfl⟩
theorem ok163 : FnOk Tryz.prog 163 c163 := ⟨Tryz.f163, _, Tryz.func163, rfl, by decide, by kernel_rfl, by kernel_rfl⟩
theorem ok164 : FnOk Tryz.prog 164 c164 := ⟨Tryz.f164, _, Tryz.func164, rfl, by decide, by kernel_rfl, by kernel_rfl⟩
theorem ok165 : FnOk Tryz.prog 165 c165 := ⟨Tryz.f165, _, Tryz.func165, rfl, by decide, by kernel_rfl, by kernel_rfl⟩
theorem ok166 : FnOk Tryz.prog 166 c166 := ⟨Tryz.f166, _, Tryz.func166, rfl, by decide, by kernel_rfl, by kernel_rfl⟩
theorem ok167 : FnOk Tryz.prog 167 c167 := ⟨Tryz.f167, _, Tryz.func167, rfl, by decide, by kernel_rfl, by kernel_rfl⟩
theorem ok168 : FnOk Tryz.prog 168 c168 := ⟨Tryz.f168, _, Tryz.func168, rfl, by decide, by kernel_rfl, by kernel_rfl⟩
theorem ok173 : FnOk Tryz.prog 173 c173 := ⟨Tryz.f173, _, Tryz.func173, rfl, by decide, by kernel_rfl, by kernel_rfl⟩
theorem ok174 : FnOk Tryz.prog 174 c174 := ⟨Tryz.f174, _, Tryz.func174, rfl, by decide, by kernel_rfl, by kernel_rfl⟩
theorem ok175 : FnOk Tryz.prog 175 c175 := ⟨Tryz.f175, _, Tryz.func175, rfl, by decide, by kernel_rfl, by kernel_rfl⟩
theorem ok176 : FnOk Tryz.prog 176 c176 := ⟨Tryz.f176, _, Tryz.func176, rfl, by decide, by kernel_rfl, by kernel_rfl⟩
theorem ok177 : FnOk Tryz.prog 177 c177 := ⟨Tryz.f177, _, Tryz.func177, rfl, by decide, by kernel_rfl, by kernel_rfl⟩
theorem ok178 : FnOk Tryz.prog 178 c178 := ⟨Tryz.f178, _, Tryz.func178, rfl, by decide, by kernel_rfl, by kernel_rfl⟩
theorem ok185 : FnOk Tryz.prog 185 c185 := ⟨Tryz.f185, _, Tryz.func185, rfl, by decide, by kernel_rfl, by kernel_rfl⟩
theorem ok186 : FnOk Tryz.prog 186 c186 := ⟨Tryz.f186, _, Tryz.func186, rfl, by decide, by kernel_rfl, by kernel_rfl⟩
theorem ok187 : FnOk Tryz.prog 187 c187 := ⟨Tryz.f187, _, Tryz.func187, rfl, by decide, by kernel_rfl, by kernel_rfl⟩
theorem ok188 : FnOk Tryz.prog 188 c188 := ⟨Tryz.f188, _, Tryz.func188, rfl, by decide, by kernel_rfl, by kernel_rfl⟩
theorem ok191 : FnOk Tryz.prog 191 c191 := ⟨Tryz.f191, _, Tryz.func191, rfl, by decide, by kernel_rfl, by kernel_rfl⟩
theorem ok192 : FnOk Tryz.prog 192 c192 := ⟨Tryz.f192, _, Tryz.func192, rfl, by decide, by kernel_rfl, by kernel_rfl⟩
theorem ok193 : FnOk Tryz.prog 193 c193 := ⟨Tryz.f193, _, Tryz.func193, rfl, by decide, by kernel_rfl, by kernel_rfl⟩
theorem ok194 : FnOk Tryz.prog 194 c194 := ⟨Tryz.f194, _, Tryz.func194, rfl, by decide, by kernel_rfl, by kernel_rfl⟩
theorem ok195 : FnOk Tryz.prog 195 c195 := ⟨Tryz.f195, _, Tryz.func195, rfl, by decide, by kernel_rfl, by kernel_rfl⟩
theorem ok196 : FnOk Tryz.prog 196 c196 := ⟨Tryz.f196, _, Tryz.func196, rfl, by decide, by kernel_rfl, by kernel_rfl⟩
theorem ok197 : FnOk Tryz.prog 197 c197 := ⟨Tryz.f197, _, Tryz.func197, rfl, by decide, by kernel_rfl, by kernel_rfl⟩
theorem ok198 : FnOk Tryz.prog 198 c198 := ⟨Tryz.f198, _, Tryz.func198, rfl, by decide, by kernel_rfl, by kernel_rfl⟩
theorem ok202 : FnOk Tryz.prog 202 c202 := ⟨Tryz.f202, _, Tryz.func202, rfl, by decide, by kernel_rfl, by kernel_rfl⟩
theorem ok203 : FnOk Tryz.prog 203 c203 := ⟨Tryz.f203, _, Tryz.func203, rfl, by decide, by kernel_rfl, by kernel_rfl⟩
theorem ok204 : FnOk Tryz.prog 204 c204 := ⟨Tryz.f204, _, Tryz.func204, rfl, by decide, by kernel_rfl, by kernel_rfl⟩
theorem ok205 : FnOk Tryz.prog 205 c205 := ⟨Tryz.f205, _, Tryz.func205, rfl, by decide, by kernel_rfl, by kernel_rfl⟩
theorem ok207 : FnOk Tryz.prog 207 c207 := ⟨Tryz.f207, _, Tryz.func207, rfl, by decide, by kernel_rfl, by kernel_rfl⟩
theorem ok208 : FnOk Tryz.prog 208 c208 := ⟨Tryz.f208, _, Tryz.func208, rfl, by decide, by kernel_rfl, by kernel_rfl⟩
theorem ok209 : FnOk Tryz.prog 209 c209 := ⟨Tryz.f209, _, Tryz.func209, rfl, by decide, by kernel_rfl, by kernel_rfl⟩
theorem ok210 : FnOk Tryz.prog 210 c210 := ⟨Tryz.f210, _, Tryz.func210, rfl, by decide, by kernel_rfl, by kernel_rfl⟩
theorem ok211 : FnOk Tryz.prog 211 c211 := ⟨Tryz.f211, _, Tryz.func211, rfl, by decide, by kernel_rfl, by kernel_rfl⟩
theorem ok212 : FnOk Tryz.prog 212 c212 := ⟨Tryz.f212, _, Tryz.func212, rfl, by decide, by kernel_rfl, by kernel_rfl⟩
theorem ok213 : FnOk Tryz.prog 213 c213 := ⟨Tryz.f213, _, Tryz.func213, rfl, by decide, by kernel_rfl, by kernel_rfl⟩
theorem ok214 : FnOk Tryz.prog 214 c214 := ⟨Tryz.f214, _, Tryz.func214, rfl, by decide, by kernel_rfl, by kernel_rfl⟩
theorem ok215 : FnOk Tryz.prog 215 c215 := ⟨Tryz.f215, _, Tryz.func215, rfl, by decide, by kernel_rfl, by kernel_rfl⟩
theorem ok216 : FnOk Tryz.prog 216 c216 := ⟨Tryz.f216, _, Tryz.func216, rfl, by decide, by kernel_rfl, by kernel_rfl⟩
theorem ok217 : FnOk Tryz.prog 217 c217 := ⟨Tryz.f217, _, Tryz.func217, rfl, by decide, by kernel_rfl, by kernel_rfl⟩
theorem ok218 : FnOk Tryz.prog 218 c218 := ⟨Tryz.f218, _, Tryz.func218, rfl, by decide, by kernel_rfl, by kernel_rfl⟩
theorem ok219 : FnOk Tryz.prog 219 c219 := ⟨Tryz.f219, _, Tryz.func219, rfl, by decide, by kernel_rfl, by kernel_rfl⟩
theorem ok220 : FnOk Tryz.prog 220 c220 := ⟨Tryz.f220, _, Tryz.func220, rfl, by decide, by kernel_rfl, by kernel_rfl⟩
theorem ok221 : FnOk Tryz.prog 221 c221 := ⟨Tryz.f221, _, Tryz.func221, rfl, by decide, by kernel_rfl, by kernel_rfl⟩
theorem ok222 : FnOk Tryz.prog 222 c222 := ⟨Tryz.f222, _, Tryz.func222, rfl, by decide, by kernel_rfl, by kernel_rfl⟩
theorem ok223 : FnOk Tryz.prog 223 c223 := ⟨Tryz.f223, _, Tryz.func223, rfl, by decide, by kernel_rfl, by kernel_rfl⟩
theorem ok224 : FnOk Tryz.prog 224 c224 := ⟨Tryz.f224, _, Tryz.func224, rfl, by decide, by kernel_rfl, by kernel_rfl⟩
theorem HF : ∀ f af, F f = some af → FnOk Tryz.prog f af := fun f af h => T.all (p := fun f af => FnOk Tryz.prog f af) (.node (by rintro _ ⟨⟩) (.node (by rintro _ ⟨⟩) (.node (by rintro _ ⟨⟩; exact ok3) (.node (by rintro _ ⟨⟩; exact ok7) (.node (by rintro _ ⟨⟩) (.node (by rintro _ ⟨⟩) (.node (by rintro _ ⟨⟩) .nil (.node (by rintro _ ⟨⟩; exact ok191) .nil .nil)) (.node (by rintro _ ⟨⟩; exact ok95) (.node (by rintro _ ⟨⟩; exact ok159) .nil .nil) (.node (by rintro _ ⟨⟩; exact ok223) .nil .nil))) (.node (by rintro _ ⟨⟩) (.node (by rintro _ ⟨⟩) (.node (by rintro _ ⟨⟩; exact ok143) .nil .nil) (.node (by rintro _ ⟨⟩; exact ok207) .nil .nil)) (.node (by rintro _ ⟨⟩; exact ok111) (.node (by rintro _ ⟨⟩; exact ok175) .nil .nil) .nil))) (.node (by rintro _ ⟨⟩) (.node (by rintro _ ⟨⟩; exact ok39) (.node (by rintro _ ⟨⟩; exact ok71) (.node (by rintro _ ⟨⟩; exact ok135) .nil .nil) .nil) (.node (by rintro _ ⟨⟩) (.node (by rintro _ ⟨⟩; exact ok167) .nil .nil) .nil)) (.node (by rintro _ ⟨⟩; exact ok55) (.node (by rintro _ ⟨⟩) .nil (.node (by rintro _ ⟨⟩; exact ok215) .nil .nil)) (.node (by rintro _ ⟨⟩; exact ok119) .nil .nil)))) (.node (by rintro _ ⟨⟩; exact ok11) (.node (by rintro _ ⟨⟩; exact ok19) (.node (by rintro _ ⟨⟩; exact ok35) (.node (by rintro _ ⟨⟩; exact ok67) .nil (.node (by rintro _ ⟨⟩; exact ok195) .nil .nil)) (.node (by rintro _ ⟨⟩) (.node (by rintro _ ⟨⟩; exact ok163) .nil .nil) .nil)) (.node (by rintro _ ⟨⟩; exact ok51) (.node (by rintro _ ⟨⟩) (.node (by rintro _ ⟨⟩; exact ok147) .nil .nil) (.node (by rintro _ ⟨⟩; exact ok211) .nil .nil)) (.node (by rintro _ ⟨⟩; exact ok115) .nil .nil))) (.node (by rintro _ ⟨⟩) (.node (by rintro _ ⟨⟩; exact ok43) (.node (by rintro _ ⟨⟩; exact ok75) .nil (.node (by rintro _ ⟨⟩; exact ok203) .nil .nil)) .nil) (.node (by rintro _ ⟨⟩) (.node (by rintro _ ⟨⟩; exact ok91) .nil (.node (by rintro _ ⟨⟩; exact ok219) .nil .nil)) (.node (by rintro _ ⟨⟩) (.node (by rintro _ ⟨⟩; exact ok187) .nil .nil) .nil))))) (.node (by rintro _ ⟨⟩) (.node (by rintro _ ⟨⟩; exact ok9) (.node (by rintro _ ⟨⟩; exact ok17) (.node (by rintro _ ⟨⟩; exact ok33) (.node (by rintro _ ⟨⟩) .nil (.node (by rintro _ ⟨⟩; exact ok193) .nil .nil)) (.node (by rintro _ ⟨⟩) (.node (by rintro _ ⟨⟩; exact ok161) .nil .nil) .nil)) (.node (by rintro _ ⟨⟩) (.node (by rintro _ ⟨⟩) .nil (.node (by rintro _ ⟨⟩; exact ok209) .nil .nil)) (.node (by rintro _ ⟨⟩; exact ok113) (.node (by rintro _ ⟨⟩; exact ok177) .nil .nil) .nil))) (.node (by rintro _ ⟨⟩) (.node (by rintro _ ⟨⟩; exact ok41) (.node (by rintro _ ⟨⟩; exact ok73) (.node (by rintro _ ⟨⟩; exact ok137) .nil .nil) .nil) .nil) (.node (by rintro _ ⟨⟩) (.node (by rintro _ ⟨⟩) (.node (by rintro _ ⟨⟩; exact ok153) .nil .nil) (.node (by rintro _ ⟨⟩; exact ok217) .nil .nil)) (.node (by rintro _ ⟨⟩) (.node (by rintro _ ⟨⟩; exact ok185) .nil .nil) .nil)))) (.node (by rintro _ ⟨⟩; exact ok13) (.node (by rintro _ ⟨⟩) (.node (by rintro _ ⟨⟩; exact ok37) (.node (by rintro _ ⟨⟩; exact ok69) .nil (.node (by rintro _ ⟨⟩; exact ok197) .nil .nil)) (.node (by rintro _ ⟨⟩) (.node (by rintro _ ⟨⟩; exact ok165) .nil .nil) .nil)) (.node (by rintro _ ⟨⟩) (.node (by rintro _ ⟨⟩) (.node (by rintro _ ⟨⟩; exact ok149) .nil .nil) (.node (by rintro _ ⟨⟩; exact ok213) .nil .nil)) (.node (by rintro _ ⟨⟩; exact ok117) .nil .nil))) (.node (by rintro _ ⟨⟩) (.node (by rintro _ ⟨⟩) (.node (by rintro _ ⟨⟩; exact ok77) .nil (.node (by rintro _ ⟨⟩; exact ok205) .nil .nil)) (.node (by rintro _ ⟨⟩) (.node (by rintro _ ⟨⟩; exact ok173) .nil .nil) .nil)) (.node (by rintro _ ⟨⟩) (.node (by rintro _ ⟨⟩) (.node (by rintro _ ⟨⟩; exact ok157) .nil .nil) (.node (by rintro _ ⟨⟩; exact ok221) .nil .nil)) .nil))))) (.node (by rintro _ ⟨⟩) (.node (by rintro _ ⟨⟩) (.node (by rintro _ ⟨⟩; exact ok8) (.node (by rintro _ ⟨⟩) (.node (by rintro _ ⟨⟩) (.node (by rintro _ ⟨⟩; exact ok64) .nil (.node (by rintro _ ⟨⟩; exact ok192) .nil .nil)) (.node (by rintro _ ⟨⟩; exact ok96) (.node (by rintro _ ⟨⟩; exact ok160) .nil .nil) (.node (by rintro _ ⟨⟩; exact ok224) .nil .nil))) (.node (by rintro _ ⟨⟩) (.node (by rintro _ ⟨⟩) (.node (by rintro _ ⟨⟩; exact ok144) .nil .nil) (.node (by rintro _ ⟨⟩; exact ok208) .nil .nil)) (.node (by rintro _ ⟨⟩; exact ok112) (.node (by rintro _ ⟨⟩; exact ok176) .nil .nil) .nil))) (.node (by rintro _ ⟨⟩) (.node (by rintro _ ⟨⟩; exact ok40) (.node (by rintro _ ⟨⟩; exact ok72) (.node (by rintro _ ⟨⟩; exact ok136) .nil .nil) .nil) (.node (by rintro _ ⟨⟩) (.node (by rintro _ ⟨⟩; exact ok168) .nil .nil) .nil)) (.node (by rintro _ ⟨⟩; exact ok56) (.node (by rintro _ ⟨⟩) (.node (by rintro _ ⟨⟩; exact ok152) .nil .nil) (.node (by rintro _ ⟨⟩; exact ok216) .nil .nil)) (.node (by rintro _ ⟨⟩; exact ok120) .nil .nil)))) (.node (by rintro _ ⟨⟩; exact ok12) (.node (by rintro _ ⟨⟩) (.node (by rintro _ ⟨⟩; exact ok36) (.node (by rintro _ ⟨⟩; exact ok68) (.node (by rintro _ ⟨⟩; exact ok132) .nil .nil) (.node (by rintro _ ⟨⟩; exact ok196) .nil .nil)) (.node (by rintro _ ⟨⟩; exact ok100) (.node (by rintro _ ⟨⟩; exact ok164) .nil .nil) .nil)) (.node (by rintro _ ⟨⟩) (.node (by rintro _ ⟨⟩) (.node (by rintro _ ⟨⟩; exact ok148) .nil .nil) (.node (by rintro _ ⟨⟩; exact ok212) .nil .nil)) (.node (by rintro _ ⟨⟩; exact ok116) .nil .nil))) (.node (by rintro _ ⟨⟩) (.node (by rintro _ ⟨⟩) (.node (by rintro _ ⟨⟩; exact ok76) .nil (.node (by rintro _ ⟨⟩; exact ok204) .nil .nil)) (.node (by rintro _ ⟨⟩; exact ok108) .nil .nil)) (.node (by rintro _ ⟨⟩; exact ok60) (.node (by rintro _ ⟨⟩) .nil (.node (by rintro _ ⟨⟩; exact ok220) .nil .nil)) (.node (by rintro _ ⟨⟩) (.node (by rintro _ ⟨⟩; exact ok188) .nil .nil) .nil))))) (.node (by rintro _ ⟨⟩; exact ok6) (.node (by rintro _ ⟨⟩; exact ok10) (.node (by rintro _ ⟨⟩) (.node (by rintro _ ⟨⟩; exact ok34) (.node (by rintro _ ⟨⟩; exact ok66) (.node (by rintro _ ⟨⟩; exact ok130) .nil .nil) (.node (by rintro _ ⟨⟩; exact ok194) .nil .nil)) (.node (by rintro _ ⟨⟩) (.node (by rintro _ ⟨⟩; exact ok162) .nil .nil) .nil)) (.node (by rintro _ ⟨⟩) (.node (by rintro _ ⟨⟩) (.node (by rintro _ ⟨⟩; exact ok146) .nil .nil) (.node (by rintro _ ⟨⟩; exact ok210) .nil .nil)) (.node (by rintro _ ⟨⟩; exact ok114) (.node (by rintro _ ⟨⟩; exact ok178) .nil .nil) .nil))) (.node (by rintro _ ⟨⟩; exact ok26) (.node (by rintro _ ⟨⟩; exact ok42) (.node (by rintro _ ⟨⟩; exact ok74) (.node (by rintro _ ⟨⟩; exact ok138) .nil .nil) (.node (by rintro _ ⟨⟩; exact ok202) .nil .nil)) .nil) (.node (by rintro _ ⟨⟩) (.node (by rintro _ ⟨⟩; exact ok90) .nil (.node (by rintro _ ⟨⟩; exact ok218) .nil .nil)) (.node (by rintro _ ⟨⟩) (.node (by rintro _ ⟨⟩; exact ok186) .nil .nil) .nil)))) (.node (by rintro _ ⟨⟩) (.node (by rintro _ ⟨⟩; exact ok22) (.node (by rintro _ ⟨⟩; exact ok38) (.node (by rintro _ ⟨⟩; exact ok70) (.node (by rintro _ ⟨⟩; exact ok134) .nil .nil) (.node (by rintro _ ⟨⟩; exact ok198) .nil .nil)) (.node (by rintro _ ⟨⟩; exact ok102) (.node (by rintro _ ⟨⟩; exact ok166) .nil .nil) .nil)) (.node (by rintro _ ⟨⟩) (.node (by rintro _ ⟨⟩) (.node (by rintro _ ⟨⟩; exact ok150) .nil .nil) (.node (by rintro _ ⟨⟩; exact ok214) .nil .nil)) (.node (by rintro _ ⟨⟩; exact ok118) .nil .nil))) (.node (by rintro _ ⟨⟩) (.node (by rintro _ ⟨⟩) (.node (by rintro _ ⟨⟩) (.node (by rintro _ ⟨⟩; exact ok142) .nil .nil) .nil) (.node (by rintro _ ⟨⟩; exact ok110) (.node (by rintro _ ⟨⟩; exact ok174) .nil .nil) .nil)) (.node (by rintro _ ⟨⟩) (.node (by rintro _ ⟨⟩; exact ok94) (.node (by rintro _ ⟨⟩; exact ok158) .nil .nil) (.node (by rintro _ ⟨⟩; exact ok222) .nil .nil)) .nil)))))) f af h
end L32
end Go.Ev
namespace Go.Ev
open Go Go.Proofs
namespace L32
set_option maxRecDepth 100000
noncomputable abbrev PP := Tryz.prog
theorem hm : PP.follows .mixedOrders = true := by kernel_rfl
theorem rest0 {S : St} {m lb bb : Nat} {mc : T AV} {lo ln kl n : Nat} {lc : Option Nat} {L : T AV} {nl : Nat} {W : List AV} {es : List (AV × AV × Nat)} {c i born : Nat} {v : AV} {pb po : Nat} {pc : Option Nat}
    (hd : [m, lb, bb].Nodup) (hm : S.heap.get m = some (.row 0 mc 4)) (m0 : mc.get 0 = some (.sl lb lo ln lc)) (m1 : mc.get 1 = some (.m bb))
    (hl : (HB.win kl L nl (Nat.add lo (Nat.mul n 11)) W).at (S.heap.get lb)) (hn : Nat.ble (Nat.succ n) ln = true) (w9 : W[9]? = some (.sl pb po 0 pc))
    (hb : S.heap.get bb = some (.map es c)) (hf : findKey 1 (.i .i64 (.ofNat n)) es = some (some (i, v, born))) :
    GCall PP 111 [.p m 0, .i .i64 (.ofNat n)] S (fun y S' => ∃ N' h', SH S N' h' S' ∧ y = .tu [] ∧ h' = [(m, .blk (.row 0 mc 4)), (lb, .win kl L nl (Nat.add lo (Nat.mul n 11)) W), (bb, .blk (.map (es.eraseIdx i) c))]) := by
  refine JF (h := [(m, .blk (.row 0 mc 4)), (lb, .win kl L nl (Nat.add lo (Nat.mul n 11)) W), (bb, .blk (.map es c))]) ok111 rfl ?_ hd ?_
  · intro p hp
    simp only [List.mem_cons, List.not_mem_nil, or_false] at hp
    rcases hp with rfl | rfl | rfl
    · exact ⟨hm, rfl⟩
    · exact ⟨hl, rfl⟩
    · exact ⟨hb, rfl⟩
  intro G
  refine JC.seq ?_
  refine JC.reg ?_
  refine JO.step (AO1.mv rfl) rfl ?_
  refine JO.step (AO1.ncP rfl) rfl ?_
  refine JO.step (AO1.fa rfl) rfl ?_
  refine JO.step (AO1.ld1X 0 rfl rfl rfl m0) rfl ?_
  refine JO.step (AO1.mv rfl) rfl ?_
  refine JO.step (AO1.iaS rfl rfl hn) rfl ?_
  refine JO.step (AO1.fa rfl) rfl ?_
  refine JO.step (AO1.ld1W 1 rfl rfl w9) rfl ?_
  refine JO.step (AO1.lenSlc rfl) rfl ?_
  refine JO.step (AO1.eq rfl rfl rfl) rfl ?_
  refine JO.nil ?_
  refine JC.cnd rfl (fun _ => ?_) (fun h => by cases h)
  refine JC.reg ?_
  refine JO.step (AO1.mv rfl) rfl ?_
  refine JO.step (AO1.ncP rfl) rfl ?_
  refine JO.step (AO1.fa rfl) rfl ?_
  refine JO.step (AO1.ld1X 0 rfl rfl rfl m1) rfl ?_
  refine JO.step (AO1.mv rfl) rfl ?_
  refine JO.step0 (AO1.dlOld 2 rfl rfl rfl hf) ?_
  refine JO.nil ?_
  exact ⟨[], .nil, rfl, rfl, rfl⟩
end L32
end Go.Ev
namespace Go.Ev
open Go Go.Proofs
namespace L32
set_option maxRecDepth 100000
/-- a slice with nothing in it -/
theorem clone0 {S : St} {pb po k n : Nat} {t : T AV} (hp : S.heap.get pb = some (.row k t n)) (ho : po ≤ n) :
    GCall PP 110 [.sl pb po 0 none] S (isV (.sl pb 0 0 (some 0)) S) := by
  have key : GCall PP 110 [.sl pb po 0 none] S (fun y S' => ∃ N' h', SH S N' h' S' ∧ (∃ B, y = .sl B 0 0 (some 0)) ∧ HSub S h' []) := by
    refine JF (h := [(pb, .blk (.row k t n))]) ok110 rfl ?_ (by simp) ?_
    · intro p hp'
      simp only [List.mem_cons, List.not_mem_nil, or_false] at hp'
      rcases hp' with rfl
      exact ⟨hp, rfl⟩
    intro G
    refine JC.seq ?_
    refine JC.reg ?_
    refine JO.step (AO1.mv rfl) rfl ?_
    refine JO.nil ?_
    refine JC.seq ?_
    refine JC.seq ?_
    refine JC.reg ?_
    refine JO.step (AO1.mv rfl) rfl ?_
    refine JO.step (AO1.eq rfl rfl rfl) rfl ?_
    refine JO.nil ?_
    refine JC.cnd rfl (fun h => by cases h) (fun _ => ?_)
    refine JC.skip ?_
    refine JC.seq ?_
    refine JC.reg ?_
    refine JO.step (AO1.bs rfl rfl rfl) rfl ?_
    refine JO.step (AO1.mv rfl) rfl ?_
    refine JO.step (AO1.app0 rfl rfl (Src.zero ⟨0, _, _, _, rfl, ho⟩) rfl rfl) rfl ?_
    refine JO.step (AO1.mv rfl) rfl ?_
    refine JO.nil ?_
    refine JC.ret ?_
    exact ⟨_, .t rfl .nil, rfl, ⟨_, rfl⟩, .same hp (.drop (Nat.le_refl _) .nil)⟩
  refine key.stillV fun y S' ⟨N', h', H, ⟨B, hy⟩, hs⟩ => ⟨⟨N', h', H, hs⟩, fun ι κ _ kn => ?_⟩
  subst hy
  obtain ⟨L, hL⟩ := kn.dom pb _ hp
  exact .can hL
end L32
end Go.Ev
namespace Go.Ev
open Go Go.Proofs
namespace L32
set_option maxRecDepth 100000
/-- stores on a line's words -/
def putW (ws : List AV) (l : List (Nat × Int)) : List AV := l.foldl (fun w p => w.set p.1 (.i .i64 p.2)) ws
theorem putW_length : ∀ (l : List (Nat × Int)) (ws : List AV), (putW ws l).length = ws.length
  | [], _ => rfl
  | p :: l, ws => by show (putW (ws.set p.1 _) l).length = _; rw [putW_length l]; simp
theorem putW_snoc (l : List (Nat × Int)) (ws : List AV) (p : Nat × Int) : putW ws (l ++ [p]) = (putW ws l).set p.1 (.i .i64 p.2) := by simp [putW]
def ints1 (l : List AV) : Prop := ∀ x ∈ l, ∃ k n, x = .i k n
theorem ones_ints : ∀ {l : List AV}, ints1 l → ones l = true
  | [], _ => rfl
  | x :: l, h => by
    obtain ⟨k, n, rfl⟩ := h x (List.mem_cons_self ..)
    exact ones_ints (l := l) fun y hy => h y (List.mem_cons_of_mem _ hy)
theorem putW_ints : ∀ {l : List (Nat × Int)} {ws : List AV}, ints1 ws → ints1 (putW ws l)
  | [], _, h => h
  | p :: l, ws, h => putW_ints (l := l) fun x hx => by
    rcases List.mem_or_eq_of_mem_set hx with k | rfl
    · exact h x k
    · exact ⟨_, _, rfl⟩
theorem updL_all : ∀ (l vs : List AV), vs.length = l.length → updL l 0 vs = vs := fun l vs h => by
  refine List.ext_getElem? fun i => ?_
  rw [updL_get _ _ _ _ (by omega)]
  by_cases hi : i < vs.length
  · rw [if_pos (by omega)]; simp
  · rw [if_neg (by omega), List.getElem?_eq_none (by omega), List.getElem?_eq_none (by omega)]
theorem rdL_all (l : List AV) {n : Nat} (h : l.length = n) : rdL l 0 n = some l := by
  rw [rdL_of l n 0 (by omega), ← h]; simp
/-- the cells of pending stores -/
def PendB (t : T AV) (n po : Nat) (l : List (Nat × Int)) : Prop := po + l.length * 2 ≤ n ∧ ∀ i p, l[i]? = some p → p.1 < 8 ∧ readCells t (po + i * 2) 2 = some [.i .i64 (.ofNat p.1), .i .i64 p.2]
theorem add1 {i : Nat} (h : Nat.ble (i + 1) 9223372036854775807 = true) : bin .add (.i .i64 (.ofNat i)) (.i .i64 1) = some (.i .i64 (.ofNat (i + 1))) := by
  show some (AV.i .i64 (@Bool.rec (fun _ => Int) (IntKind.i64.wrap (.ofNat (i + 1))) (.ofNat (i + 1)) (Nat.ble (i + 1) 9223372036854775807))) = _
  rw [h]
theorem ble_big {a b : Nat} (h : a ≤ b) (hb : Nat.ble b 1000000000 = true) : Nat.ble a 9223372036854775807 = true := by
  have := ble_true hb
  exact ble_of (by omega)
/-- the cells of a line -/
structure LineAt (t : T AV) (n o : Nat) (ws : List AV) (c p mk : AV) : Prop where
  le : o + 11 ≤ n
  ws : readCells t (Nat.add (Nat.add o 0) 0) 8 = some ws
  c : t.get (Nat.add (Nat.add o 0) 8) = some c
  p : t.get (Nat.add o 9) = some p
  k : t.get (Nat.add o 10) = some mk
theorem ints1_pure : ∀ {l : List AV}, ints1 l → l.all pure1 = true
  | [], _ => rfl
  | x :: l, h => by
    obtain ⟨k, n, rfl⟩ := h x (List.mem_cons_self ..)
    exact ints1_pure (l := l) fun y hy => h y (List.mem_cons_of_mem _ hy)
theorem shows0 {S : St} {lb o kl nl pb po pn n : Nat} {t lt : T AV} {ws ws1 : List AV} {c c1 mk : AV} {l : List (Nat × Int)}
    (hd : [lb, pb, 4].Nodup) {x4 : Blk} (h4 : S.heap.get 4 = some x4) (hw1 : ws1.length = 8) (hi1 : ints1 ws1)
    (hl : S.heap.get lb = some (.row kl lt nl)) (hL : LineAt lt nl o ws c (.sl pb po pn none) mk) (hp : S.heap.get pb = some (.row 5 t n)) (hP : PendB t n po l) (hk : Nat.ble l.length pn = true) (hz : Nat.ble l.length 1000000000 = true)
    (hf : ∀ S, S.heap.get 4 = some x4 → GCall PP 108 [.ag ws, c] S (isV (.tu [.ag ws1, c1, .i .i64 0]) S)) :
    GCall PP 64 [.p lb o, .i .i64 (.ofNat l.length)] S (isV (.tu [.ag (putW ws1 l), .i .i64 0]) S) := by
  have hle := hL.le
  refine GCall.still ?_ (by show (((putW ws1 l).all pure1) && true) = true; rw [ints1_pure (putW_ints hi1)]; rfl)
  refine JF (h := [(lb, .blk (.row kl lt nl)), (pb, .blk (.row 5 t n)), (4, .blk x4)]) ok64 rfl ?_ hd ?_
  · intro p hp'
    simp only [List.mem_cons, List.not_mem_nil, or_false] at hp'
    rcases hp' with rfl | rfl | rfl
    · exact ⟨hl, rfl⟩
    · exact ⟨hp, rfl⟩
    · exact ⟨h4, rfl⟩
  intro G
  refine JC.seq ?_
  refine JC.reg ?_
  refine JO.step AO1.al rfl ?_
  refine JO.step (AO1.mv rfl) rfl ?_
  refine JO.nil ?_
  refine JC.seq ?_
  refine JC.drw hm [15] rfl ?_
  refine JD.cons ?_
  refine JI.op (AO1.mv rfl) rfl ?_
  refine JI.op (AO1.ncP rfl) rfl ?_
  refine JI.op (AO1.fa rfl) rfl ?_
  refine JI.op (AO1.fa rfl) rfl ?_
  refine JI.op (AO1.ldnX 0 rfl rfl (ble_of (show o + 0 + 0 + 8 ≤ nl by omega)) hL.ws) rfl ?_
  refine JI.op (AO1.mv rfl) rfl ?_
  refine JI.op (AO1.ncP rfl) rfl ?_
  refine JI.op (AO1.fa rfl) rfl ?_
  refine JI.op (AO1.fa rfl) rfl ?_
  refine JI.op (AO1.ld1X 0 rfl rfl (ble_of (show o + 0 + 8 < nl by omega)) hL.c) rfl ?_
  refine JI.pr ?_
  refine JI.callP rfl rfl rfl (fun S G => hf S (G.look (j := 2) rfl)) rfl ?_
  refine JD.cons ?_
  refine JI.op (AO1.mv rfl) rfl ?_
  refine JI.op (AO1.ex rfl rfl) rfl ?_
  refine JI.op (AO1.ex rfl rfl) rfl ?_
  refine JI.op (AO1.ex rfl rfl) rfl ?_
  refine JI.pr ?_
  refine JI.al 4 15 rfl nAl rfl ?_
  refine JI.pr ?_
  refine JI.wn (AO1.st 4 rfl rfl (by rw [show (AV.ag ws1).cells = ws1 from rfl, hw1]; rfl) rfl rfl (by rw [show (AV.ag ws1).cells = ws1 from rfl, hw1]; rfl) (ones_ints hi1)) rfl ?_
  refine JD.cons ?_
  refine JI.op (AO1.mv rfl) rfl ?_
  refine JI.op (AO1.mv rfl) rfl ?_
  refine JI.pr ?_
  refine JI.w0 ?_
  refine JD.nil ?_
  refine JC.seq ?_
  refine JC.seq ?_
  refine JC.reg ?_
  refine JO.step (AO1.mv rfl) rfl ?_
  refine JO.step (AO1.eq rfl rfl rfl) rfl ?_
  refine JO.nil ?_
  refine JC.cnd rfl (fun h => by cases h) (fun _ => ?_)
  refine JC.skip ?_
  refine JC.seq ?_
  refine JC.seq ?_
  refine JC.reg ?_
  refine JO.step (AO1.mv rfl) rfl ?_
  refine JO.step (AO1.ncP rfl) rfl ?_
  refine JO.step (AO1.fa rfl) rfl ?_
  refine JO.step (AO1.ld1X 0 rfl rfl (ble_of (show o + 9 < nl by omega)) hL.p) rfl ?_
  refine JO.step (AO1.mv rfl) rfl ?_
  refine JO.step (AO1.slNX 1 rfl rfl rfl rfl (i' := 0) (j' := l.length) (by show @Bool.rec _ _ _ (Nat.ble l.length pn) = _; rw [hk]) rfl rfl) rfl ?_
  refine JO.step (AO1.lenSlc rfl) rfl ?_
  refine JO.step (AO1.mv rfl) rfl ?_
  refine JO.nil ?_
  refine JC.blk ?_
  have hu : updL [AV.i .i64 0, .i .i64 0, .i .i64 0, .i .i64 0, .i .i64 0, .i .i64 0, .i .i64 0, .i .i64 0] 0 ws1 = ws1 := updL_all _ _ (by rw [hw1]; rfl)
  refine JC.loop (α := Nat × Nat) (fun a => [(37, .i .i64 (.ofNat a.1)), (36, .i .i64 (.ofNat l.length)), (35, .sl pb po l.length none), (6, .p (Nat.add (S.nxt + 1) 15) 0), (4, .p S.nxt 0), (dslot, .tu [])]) (fun a => a.2)
    (fun a => [(lb, .blk (.row kl lt nl)), (pb, .blk (.row 5 t n)), (4, .blk x4), (S.nxt, .row 0 [.i .i64 0, .i .i64 0, .i .i64 0, .i .i64 0, .i .i64 0, .i .i64 0, .i .i64 0, .i .i64 0]), (Nat.add (S.nxt + 1) 15, .row 0 (putW ws1 (l.take a.1)))])
    (fun a => l.length - a.1) (fun a => a.1 ≤ l.length ∧ S.nxt ≤ a.2) (0, Nat.add (S.nxt + 1) 19) ⟨Nat.zero_le _, by show S.nxt ≤ S.nxt + 1 + 19; omega⟩ ⟨rfl, rfl, rfl, rfl, rfl, rfl, trivial⟩ rfl
    (.keep (.keep (.keep (.keep (.keepE (by rw [show (AV.ag ws1).cells = ws1 from rfl, hu]; rfl) .nil))))) ?_
  rintro ⟨i, M⟩ ⟨hi, hM⟩
  refine JC.seq ?_
  refine JC.reg ?_
  refine JO.step (AO1.bn rfl rfl rfl) rfl ?_
  refine JO.nil ?_
  refine JC.seq ?_
  refine JC.cnd rfl (fun h => ?_) (fun h => ?_)
  · have hlt : i < l.length := ble_true h
    obtain ⟨hq8, hq⟩ := hP.2 i l[i] (List.getElem?_eq_getElem hlt)
    have hple := hP.1
    refine JC.skip ?_
    refine JC.seq ?_
    refine JC.blk ?_
    refine JC.seq ?_
    refine JC.reg ?_
    refine JO.step (AO1.iaS rfl rfl h) rfl ?_
    refine JO.step (AO1.ldnX 1 rfl rfl (ble_of (show po + i * 2 + 2 ≤ n by omega)) hq) rfl ?_
    refine JO.step AO1.al rfl ?_
    refine JO.step0 (AO1.st 5 rfl rfl rfl rfl rfl rfl rfl) ?_
    refine JO.nil ?_
    refine JC.reg ?_
    refine JO.step (AO1.fa rfl) rfl ?_
    refine JO.step (AO1.ld1 5 rfl rfl rfl) rfl ?_
    refine JO.step (AO1.fa rfl) rfl ?_
    refine JO.step (AO1.ld1 5 rfl rfl rfl) rfl ?_
    refine JO.step (AO1.iaA rfl rfl (ble_of hq8)) rfl ?_
    refine JO.step0 (AO1.st 4 rfl rfl rfl rfl rfl (ble_of (show 0 + l[i].1 * 1 + 1 ≤ (putW ws1 (l.take i)).length by rw [putW_length, hw1]; omega)) rfl) ?_
    refine JO.nil ?_
    refine JC.reg ?_
    refine JO.step (AO1.bn rfl rfl (add1 (ble_big hlt hz))) rfl ?_
    refine JO.step (AO1.mv rfl) rfl ?_
    refine JO.nil ?_
    have hs : updL (putW ws1 (l.take i)) (0 + l[i].1 * 1) [.i .i64 l[i].2] = putW ws1 (l.take (i + 1)) := by
      rw [List.take_succ_eq_append_getElem hlt, putW_snoc, Nat.zero_add, Nat.mul_one]; rfl
    refine ⟨(i + 1, M + 1), ⟨hlt, by show S.nxt ≤ M + 1; omega⟩, by show l.length - (i + 1) < l.length - i; omega, ⟨rfl, rfl, rfl, rfl, rfl, rfl, trivial⟩, rfl, .keep (.keep (.keep (.keep (.keepE (congrArg (fun x => (Nat.add (S.nxt + 1) 15, HB.row 0 x)) hs) (.drop hM .nil)))))⟩
  · have hle : l.length ≤ i := by
      rcases Nat.lt_or_ge i l.length with k | k
      · have := ble_of (show Nat.succ i ≤ l.length from k); rw [show Nat.ble (Nat.succ i) l.length = false from h] at this; cases this
      · exact k
    obtain rfl : i = l.length := Nat.le_antisymm hi hle
    rw [List.take_length]
    refine JC.ex ?_
    refine JC.seq ?_
    refine JC.reg ?_
    refine JO.step (AO1.ldn 4 rfl rfl (by rw [putW_length, hw1]; rfl) (rdL_all _ (by rw [putW_length, hw1]))) rfl ?_
    refine JO.step0 (AO1.st 3 rfl rfl (by rw [show (AV.ag (putW ws1 l)).cells = putW ws1 l from rfl, putW_length, hw1]; rfl) rfl rfl (by rw [show (AV.ag (putW ws1 l)).cells = putW ws1 l from rfl, putW_length, hw1]; rfl) (ones_ints (putW_ints hi1))) ?_
    refine JO.step (AO1.mv rfl) rfl ?_
    refine JO.nil ?_
    refine JC.ret ?_
    have hu2 : updL [AV.i .i64 0, .i .i64 0, .i .i64 0, .i .i64 0, .i .i64 0, .i .i64 0, .i .i64 0, .i .i64 0] 0 (putW ws1 l) = putW ws1 l := updL_all _ _ (by rw [putW_length, hw1]; rfl)
    refine ⟨_, .cn 3 rfl rfl (by rw [updL_length]; rfl) (by rw [show (AV.ag (putW ws1 l)).cells = putW ws1 l from rfl, hu2]; exact rdL_all _ (by rw [putW_length, hw1])) (.t rfl .nil), rfl, rfl, .same hl (.same hp (.same h4 (.drop (Nat.le_refl _) (.drop (by show S.nxt ≤ S.nxt + 1 + 15; omega) .nil))))⟩
end L32
end Go.Ev
namespace Go.Ev
open Go Go.Proofs
namespace L32
set_option maxRecDepth 100000
theorem LineAt.of {t : T AV} {n o : Nat} {w0 w1 w2 w3 w4 w5 w6 w7 c p mk : AV} (hle : o + 11 ≤ n) (h : ∀ i, i < 11 → t.get (o + i) = [w0, w1, w2, w3, w4, w5, w6, w7, c, p, mk][i]?) : LineAt t n o [w0, w1, w2, w3, w4, w5, w6, w7] c p mk :=
  ⟨hle, rdT t 8 _ _ (fun i hi => by
    have := h i (by omega)
    rw [show Nat.add (Nat.add o 0) 0 + i = o + i from rfl, this]
    match i, hi with
    | 0, _ => rfl | 1, _ => rfl | 2, _ => rfl | 3, _ => rfl | 4, _ => rfl | 5, _ => rfl | 6, _ => rfl | 7, _ => rfl) rfl, h 8 (by omega), h 9 (by omega), h 10 (by omega)⟩
theorem list8 {l : List AV} (h : l.length = 8) : ∃ a b c d e f g i, l = [a, b, c, d, e, f, g, i] := by
  match l, h with
  | [a, b, c, d, e, f, g, i], _ => exact ⟨a, b, c, d, e, f, g, i, rfl⟩
theorem ones8 {l : List AV} {a b c d e f g i : AV} (h : ints1 l) (e' : l = [a, b, c, d, e, f, g, i]) : ones [a, b, c, d, e, f, g, i] = true := by rw [← e']; exact ones_ints h
theorem settle0 {S : St} {m lb bb pb kl nl lo ln n po np c born i : Nat} {lc : Option Nat} {lt pt mc : T AV} {w0 w1 w2 w3 w4 w5 w6 w7 cd c1 : AV} {ws1 : List AV} {en : Int} {l : List (Nat × Int)} {es : List (AV × AV × Nat)} {v : AV}
    (hd : [m, lb, bb, pb, 4].Nodup) {x4 : Blk} (h4 : S.heap.get 4 = some x4) (hS : S.heap.get m = some (.row 0 mc 4)) (m0 : mc.get 0 = some (.sl lb lo ln lc)) (m1 : mc.get 1 = some (.m bb))
    (hn : Nat.ble (Nat.succ n) ln = true) (hl : S.heap.get lb = some (.row kl lt nl)) (hk2 : Nat.beq kl 2 = false) (hle : Nat.add lo (Nat.mul n 11) + 11 ≤ nl)
    (hW : ∀ i, i < 11 → lt.get (Nat.add lo (Nat.mul n 11) + i) = [w0, w1, w2, w3, w4, w5, w6, w7, cd, .sl pb po l.length none, .i .i64 (.ofNat l.length)][i]?)
    (hp : S.heap.get pb = some (.row 5 pt np)) (hP : PendB pt np po l) (hz : Nat.ble l.length 1000000000 = true) (hpos : l ≠ [])
    (hw1 : ws1.length = 8) (hi1 : ints1 ws1) (hf : ∀ S, S.heap.get 4 = some x4 → GCall PP 108 [.ag [w0, w1, w2, w3, w4, w5, w6, w7], cd] S (isV (.tu [.ag ws1, c1, .i .i64 0]) S)) (hE : ∀ S, S.heap.get 4 = some x4 → GCall PP 68 [.ag (putW ws1 l)] S (isV (.i .i64 en) S))
    (hb : S.heap.get bb = some (.map es c)) (hfk : findKey 1 (.i .i64 (.ofNat n)) es = some (some (i, v, born))) :
    GCall PP 67 [.p m 0, .i .i64 (.ofNat n), .i .i64 (.ofNat l.length)] S (fun y S' => ∃ N' h', SH S N' h' S' ∧ y = .tu [] ∧ HSub S h' [(lb, .win kl lt nl (Nat.add lo (Nat.mul n 11)) (putW ws1 l ++ [.i .i64 en, .sl pb 0 0 (some 0), .i .i64 0])), (bb, .blk (.map (es.eraseIdx i) c))]) := by
  obtain ⟨v0, v1, v2, v3, v4, v5, v6, v7, hV⟩ := list8 (l := putW ws1 l) (by rw [putW_length, hw1])
  have ho8 := ones8 (putW_ints hi1) hV
  rw [hV] at hE
  rw [hV]
  have hd1 : [lb, pb, 4].Nodup := by simp only [List.nodup_cons, List.mem_cons, List.not_mem_nil, or_false, not_or] at hd ⊢; simp [hd]
  have hd2 : [m, lb, bb].Nodup := by simp only [List.nodup_cons, List.mem_cons, List.not_mem_nil, or_false, not_or] at hd ⊢; simp [hd]
  refine JF (h := [(m, .blk (.row 0 mc 4)), (lb, .win kl lt nl (Nat.add lo (Nat.mul n 11)) [w0, w1, w2, w3, w4, w5, w6, w7, cd, .sl pb po l.length none, .i .i64 (.ofNat l.length)]), (bb, .blk (.map es c)), (pb, .blk (.row 5 pt np)), (4, .blk x4)]) ok67 rfl ?_ hd ?_
  · intro p hp'
    simp only [List.mem_cons, List.not_mem_nil, or_false] at hp'
    rcases hp' with rfl | rfl | rfl | rfl | rfl
    · exact ⟨hS, rfl⟩
    · exact ⟨HB.win_of hl hle hW, rfl⟩
    · exact ⟨hb, rfl⟩
    · exact ⟨hp, rfl⟩
    · exact ⟨h4, rfl⟩
  intro G
  refine JC.seq ?_
  refine JC.reg ?_
  refine JO.step (AO1.mv rfl) rfl ?_
  refine JO.step (AO1.ncP rfl) rfl ?_
  refine JO.step (AO1.fa rfl) rfl ?_
  refine JO.step (AO1.ld1X 0 rfl rfl rfl m0) rfl ?_
  refine JO.step (AO1.mv rfl) rfl ?_
  refine JO.step (AO1.iaS rfl rfl hn) rfl ?_
  refine JO.step (AO1.mv rfl) rfl ?_
  refine JO.nil ?_
  refine JC.seq ?_
  refine JC.seq ?_
  refine JC.reg ?_
  refine JO.step (AO1.mv rfl) rfl ?_
  refine JO.step (AO1.eq rfl rfl rfl) rfl ?_
  refine JO.nil ?_
  refine JC.cnd rfl (fun h => ?_) (fun _ => ?_)
  · exact absurd (List.length_eq_zero_iff.1 (Nat.eq_of_beq_eq_true h)) hpos
  refine JC.skip ?_
  refine JC.seq ?_
  refine JC.reg ?_
  refine JO.step (AO1.mv rfl) rfl ?_
  refine JO.step (AO1.mv rfl) rfl ?_
  refine JO.step (AO1.mv rfl) rfl ?_
  refine JO.callP (y := .tu [.ag [v0, v1, v2, v3, v4, v5, v6, v7], .i .i64 0]) rfl rfl rfl (fun S1 G1 => ?_) rfl ?_
  · obtain ⟨t, e1, _, e2⟩ := G1.look (j := 1) rfl
    have e3 : S1.heap.get pb = some (.row 5 pt np) := G1.look (j := 3) rfl
    have := shows0 hd1 (G1.look (j := 4) rfl) hw1 hi1 e1 (LineAt.of hle (fun i hi => by rw [e2 _ (by omega), if_pos ⟨Nat.le_add_right _ _, Nat.add_lt_add_left hi _⟩, Nat.add_sub_cancel_left])) e3 hP (ble_of (Nat.le_refl _)) hz hf
    rw [hV] at this
    exact this
  refine JO.step (AO1.mv rfl) rfl ?_
  refine JO.step (AO1.ex rfl rfl) rfl ?_
  refine JO.step (AO1.ex rfl rfl) rfl ?_
  refine JO.step (AO1.ncP rfl) rfl ?_
  refine JO.step (AO1.fa rfl) rfl ?_
  refine JO.step (AO1.fa rfl) rfl ?_
  refine JO.step0 (AO1.stW (i := 0) 1 rfl rfl rfl rfl hk2 rfl ho8) ?_
  refine JO.nil ?_
  refine JC.seq ?_
  refine JC.reg ?_
  refine JO.step (AO1.mv rfl) rfl ?_
  refine JO.step (AO1.mv rfl) rfl ?_
  refine JO.step (AO1.ncP rfl) rfl ?_
  refine JO.step (AO1.fa rfl) rfl ?_
  refine JO.step (AO1.fa rfl) rfl ?_
  refine JO.step (AO1.ldnW (i := 0) 1 rfl rfl rfl rfl) rfl ?_
  refine JO.callP rfl rfl rfl (fun S1 G1 => hE S1 (G1.look (j := 4) rfl)) rfl ?_
  refine JO.step (AO1.ncP rfl) rfl ?_
  refine JO.step (AO1.fa rfl) rfl ?_
  refine JO.step (AO1.fa rfl) rfl ?_
  refine JO.step0 (AO1.stW (i := 8) 1 rfl rfl rfl rfl hk2 rfl rfl) ?_
  refine JO.nil ?_
  refine JC.seq ?_
  refine JC.reg ?_
  refine JO.step (AO1.mv rfl) rfl ?_
  refine JO.step (AO1.mv rfl) rfl ?_
  refine JO.step (AO1.ncP rfl) rfl ?_
  refine JO.step (AO1.fa rfl) rfl ?_
  refine JO.step (AO1.ld1W (i := 9) 1 rfl rfl rfl) rfl ?_
  refine JO.step (AO1.mv rfl) rfl ?_
  refine JO.step (AO1.slNX 3 rfl rfl rfl rfl (i' := l.length) (j' := l.length) rfl (by show @Bool.rec _ _ _ (Nat.ble l.length l.length) = _; rw [ble_of (Nat.le_refl _)]) rfl) rfl ?_
  rw [Nat.sub_self]
  refine JO.callP (y := .sl pb 0 0 (some 0)) rfl rfl rfl (fun S1 G1 => ?_) rfl ?_
  · have e3 : S1.heap.get pb = some (.row 5 pt np) := G1.look (j := 3) rfl
    exact clone0 e3 (by have := hP.1; omega)
  refine JO.step (AO1.ncP rfl) rfl ?_
  refine JO.step (AO1.fa rfl) rfl ?_
  refine JO.step0 (AO1.stW (i := 9) 1 rfl rfl rfl rfl hk2 rfl rfl) ?_
  refine JO.nil ?_
  refine JC.seq ?_
  refine JC.reg ?_
  refine JO.step (AO1.mv rfl) rfl ?_
  refine JO.step (AO1.mv rfl) rfl ?_
  refine JO.step (AO1.ncP rfl) rfl ?_
  refine JO.step (AO1.fa rfl) rfl ?_
  refine JO.step (AO1.ld1W (i := 10) 1 rfl rfl rfl) rfl ?_
  refine JO.step (AO1.mv rfl) rfl ?_
  refine JO.step (AO1.bn (v := .i .i64 0) rfl rfl ?_) rfl ?_
  · show some (AV.i .i64 (fwrap .i64 (Int.sub (.ofNat l.length) (.ofNat l.length)))) = _
    rw [show Int.sub (.ofNat l.length) (.ofNat l.length) = (0 : Int) from Int.sub_self _]; rfl
  refine JO.step (AO1.max rfl rfl rfl) rfl ?_
  refine JO.step (AO1.ncP rfl) rfl ?_
  refine JO.step (AO1.fa rfl) rfl ?_
  refine JO.step0 (AO1.stW (i := 10) 1 rfl rfl rfl rfl hk2 rfl rfl) ?_
  refine JO.nil ?_
  refine JC.reg ?_
  refine JO.step (AO1.mv rfl) rfl ?_
  refine JO.step (AO1.mv rfl) rfl ?_
  refine JO.call (fun _ _ => rfl) rfl rfl rfl (fun S1 G1 => rest0 hd2 (G1.look (j := 0) rfl) m0 m1 (G1.look (j := 1) rfl) hn rfl (G1.look (j := 2) rfl) hfk) (fun S1 G1 y S2 k => ?_) rfl
  obtain ⟨N', h', G', rfl, rfl⟩ := k
  refine ⟨N', _, G1.upds G' [0, 1, 2] ⟨⟨_, rfl⟩, ⟨_, rfl⟩, ⟨_, rfl⟩, trivial⟩, ?_⟩
  refine JO.nil ?_
  exact ⟨_, .nil, rfl, rfl, .same hS (.keep (.keep (.same hp (.same h4 .nil))))⟩
end L32
end Go.Ev
namespace Go.Ev
open Go Go.Proofs
namespace L32
set_option maxRecDepth 100000
def ev12 (n0 n1 n2 n3 n4 n5 n6 n7 n8 n9 n10 n11 : Int) : List AV := [.i .i64 n0, .i .i64 n1, .i .i64 n2, .i .i64 n3, .i .i64 n4, .i .i64 n5, .i .i64 n6, .i .i64 n7, .i .i64 n8, .i .i64 n9, .i .i64 n10, .i .i64 n11]
/-- an event more -/
theorem note0 {S : St} {m evb len : Nat} {c0 c1 c2 : AV} {n0 n1 n2 n3 n4 n5 n6 n7 n8 n9 n10 n11 : Int} {L : List AV}
    (hd : [m, evb].Nodup) (hS : (HB.row 0 [c0, c1, c2, .sl evb 0 len none]).at (S.heap.get m)) (he : (HB.row 15 L).at (S.heap.get evb)) (hl : L.length = len * 12) (hz : Nat.ble len 1000000000 = true) :
    GCall PP 186 [.p m 0, .ag (ev12 n0 n1 n2 n3 n4 n5 n6 n7 n8 n9 n10 n11)] S (fun y S' => ∃ N' h', SH S N' h' S' ∧ y = .tu [] ∧
      ∃ B, S.nxt ≤ B ∧ HSub S h' [(m, .row 0 [c0, c1, c2, .sl B 0 (len + 1) none]), (evb, .gone), (B, .row 15 (L ++ ev12 n0 n1 n2 n3 n4 n5 n6 n7 n8 n9 n10 n11))]) := by
  refine JF (h := [(m, .row 0 [c0, c1, c2, .sl evb 0 len none]), (evb, .row 15 L)]) ok186 rfl ?_ hd ?_
  · intro p hp'
    simp only [List.mem_cons, List.not_mem_nil, or_false] at hp'
    rcases hp' with rfl | rfl
    · exact ⟨hS, rfl⟩
    · exact ⟨he, rfl⟩
  intro G
  have hz' := ble_true hz
  refine JC.seq ?_
  refine JC.reg ?_
  refine JO.step (AO1.bx rfl) rfl ?_
  refine JO.nil ?_
  refine JC.drw hm [6] rfl ?_
  refine JD.cons ?_
  refine JI.op (AO1.mv rfl) rfl ?_
  refine JI.op (AO1.mv rfl) rfl ?_
  refine JI.op (AO1.ncP rfl) rfl ?_
  refine JI.op (AO1.fa rfl) rfl ?_
  refine JI.op (AO1.ld1 0 rfl rfl rfl) rfl ?_
  refine JI.op (AO1.ldn 2 rfl rfl rfl rfl) rfl ?_
  refine JI.pr ?_
  refine JI.al (L := ev12 n0 n1 n2 n3 n4 n5 n6 n7 n8 n9 n10 n11) 3 6 rfl (nBs rfl rfl rfl) rfl ?_
  refine JI.pr ?_
  refine JI.w (AO1.appGrow (n := 0) 1 rfl rfl (Src.sl (xs := ev12 n0 n1 n2 n3 n4 n5 n6 n7 n8 n9 n10 n11) 3 rfl rfl rfl) rfl ?_ rfl (ble_of (Nat.le_of_eq hl.symm))) rfl rfl ?_
  · show (ones _ && Nat.ble (Nat.mul (Nat.add len 1) 96) 1099511627776) = true
    rw [show Nat.ble (Nat.mul (Nat.add len 1) 96) 1099511627776 = true from ble_of (show (len + 1) * 96 ≤ 1099511627776 by omega)]; rfl
  refine JD.cons ?_
  refine JI.op (AO1.ncP rfl) rfl ?_
  refine JI.op (AO1.fa rfl) rfl ?_
  refine JI.pr ?_
  refine JI.wn (AO1.st 0 rfl rfl rfl rfl rfl rfl rfl) rfl ?_
  refine JD.cons ?_
  refine JI.pr ?_
  refine JI.w0 ?_
  refine JD.nil ?_
  refine ⟨_, .nil, rfl, rfl, _, ?_, .keep (.keep (.drop (Nat.le_refl _) (.drop ?_ (.keepE (congrArg (fun x => (_, HB.row 15 x)) (show L.take (len * 12) ++ _ = _ from ?_)) .nil))))⟩
  · show S.nxt ≤ S.nxt + 1 + 11; omega
  · show S.nxt ≤ S.nxt + 1 + 6; omega
  · rw [← hl, List.take_length]
end L32
end Go.Ev
namespace Go.Ev
open Go Go.Proofs
namespace L32
set_option maxRecDepth 100000
/-! a map from numbers -/
abbrev Ents := List (AV × AV × Nat)
def keyN : AV → Option Nat
  | .i .i64 (.ofNat n) => some n
  | _ => none
def keysN (es : Ents) : List Nat := es.filterMap fun e => keyN e.1
def KeysOk (es : Ents) : Prop := ∀ e ∈ es, ∃ n, e.1 = .i .i64 (.ofNat n)
theorem mem_keysN {es : Ents} {n : Nat} : n ∈ keysN es ↔ ∃ e ∈ es, e.1 = .i .i64 (.ofNat n) := by
  unfold keysN
  rw [List.mem_filterMap]
  constructor
  · rintro ⟨e, he, hk⟩
    refine ⟨e, he, ?_⟩
    unfold keyN at hk
    split at hk
    · rename_i e1; cases hk; exact e1
    · cases hk
  · rintro ⟨e, he, hk⟩
    exact ⟨e, he, by rw [hk]; rfl⟩
theorem ieq_ofNat (a b : Nat) : ieq (.ofNat a) (.ofNat b) = Nat.beq a b := rfl
theorem findAt_key : ∀ {es : Ents} {e : AV × AV × Nat} {n : Nat} (j : Nat), KeysOk es → (keysN es).Nodup → e ∈ es → e.1 = .i .i64 (.ofNat n) →
    ∃ i, findAt (.i .i64 (.ofNat n)) es j = some (some (j + i, e.2.1, e.2.2)) ∧ es[i]? = some e
  | [], e, n, j, _, _, h, _ => by cases h
  | x :: es, e, n, j, hk, hd, h, he => by
    obtain ⟨m, hm⟩ := hk x (List.mem_cons_self ..)
    obtain ⟨k', v, born⟩ := x
    simp only at hm
    subst hm
    have heq : eqv (.i .i64 (.ofNat n)) (.i .i64 (.ofNat m)) = some (Nat.beq n m) := rfl
    by_cases hnm : n = m
    · subst hnm
      have : e = (.i .i64 (.ofNat n), v, born) := by
        rcases List.mem_cons.1 h with k | k
        · exact k
        · exfalso
          have hd' : (n :: keysN es).Nodup := hd
          exact (List.nodup_cons.1 hd').1 (mem_keysN.2 ⟨e, k, he⟩)
      subst this
      refine ⟨0, ?_, rfl⟩
      simp only [findAt, heq, show Nat.beq n n = true from Nat.beq_refl n]; rfl
    · have hb : Nat.beq n m = false := by
        cases q : Nat.beq n m with
        | false => rfl
        | true => exact absurd (Nat.eq_of_beq_eq_true q) hnm
      have hmem : e ∈ es := by
        rcases List.mem_cons.1 h with k | k
        · subst k; simp only [AV.i.injEq, true_and] at he; cases he; exact absurd rfl hnm
        · exact k
      obtain ⟨i, h1, h2⟩ := findAt_key (j + 1) (fun y hy => hk y (List.mem_cons_of_mem _ hy)) (by
        have hd' : (m :: keysN es).Nodup := hd
        exact (List.nodup_cons.1 hd').2) hmem he
      refine ⟨i + 1, ?_, by rw [List.getElem?_cons_succ]; exact h2⟩
      simp only [findAt, heq, hb]
      rw [h1]
      congr 3; omega
theorem findKey_key {es : Ents} {e : AV × AV × Nat} {n : Nat} (hk : KeysOk es) (hd : (keysN es).Nodup) (h : e ∈ es) (he : e.1 = .i .i64 (.ofNat n)) : ∃ i, findKey 1 (.i .i64 (.ofNat n)) es = some (some (i, e.2.1, e.2.2)) ∧ es[i]? = some e := by
  obtain ⟨i, h1, h2⟩ := findAt_key 0 hk hd h he
  refine ⟨i, ?_, h2⟩
  show findAt _ es 0 = _
  rw [h1, Nat.zero_add]
theorem mem_erase {α : Type} {es : List α} {i : Nat} {e x : α} (h : es[i]? = some e) : x ∈ es ↔ x = e ∨ x ∈ es.eraseIdx i := by
  induction es generalizing i with
  | nil => simp at h
  | cons y es ih =>
    cases i with
    | zero => rw [List.getElem?_cons_zero] at h; cases h; simp
    | succ i =>
      rw [List.getElem?_cons_succ] at h
      rw [List.eraseIdx_cons_succ, List.mem_cons, List.mem_cons, ih h]
      constructor
      · rintro (h | h | h)
        · exact .inr (.inl h)
        · exact .inl h
        · exact .inr (.inr h)
      · rintro (h | h | h)
        · exact .inr (.inl h)
        · exact .inl h
        · exact .inr (.inr h)
theorem find_born {es : Ents} {e : AV × AV × Nat} (hd : (es.map (·.2.2)).Nodup) (h : e ∈ es) : es.find? (fun x => Nat.beq x.2.2 e.2.2) = some e := by
  induction es with
  | nil => cases h
  | cons x es ih =>
    rw [List.map_cons, List.nodup_cons] at hd
    rcases List.mem_cons.1 h with rfl | h
    · rw [List.find?_cons]; simp [show Nat.beq e.2.2 e.2.2 = true from Nat.beq_refl _]
    · rw [List.find?_cons]
      have : Nat.beq x.2.2 e.2.2 = false := by
        cases q : Nat.beq x.2.2 e.2.2 with
        | false => rfl
        | true => exact absurd (List.mem_map.2 ⟨e, h, (Nat.eq_of_beq_eq_true q).symm⟩) hd.1
      rw [this]
      exact ih hd.2 h
theorem cand_mem {es : Ents} {since : Nat} {seen : List Nat} (hb : ∀ e ∈ es, e.2.2 < since) (hs : ∀ e ∈ es, e.2.2 ∉ seen) {x : Option (AV × AV × Nat)} (h : x ∈ candidates es since seen) : (x = none ∧ es = []) ∨ ∃ e ∈ es, x = some e := by
  have hf : es.filter (fun e => !seen.contains e.2.2) = es := List.filter_eq_self.2 fun e he => by simp [hs e he]
  unfold candidates at h
  rw [hf] at h
  have hf2 : es.filter (fun e => Nat.ble (Nat.succ e.2.2) since) = es := List.filter_eq_self.2 fun e he => ble_of (hb e he)
  rw [hf2] at h
  rcases List.mem_append.1 h with h | h
  · split at h
    · rename_i q
      rw [List.mem_singleton] at h
      exact .inl ⟨h, List.isEmpty_iff.1 q⟩
    · cases h
  · obtain ⟨e, he, rfl⟩ := List.mem_map.1 h
    rcases List.mem_append.1 he with he | he
    · exact .inr ⟨e, he, rfl⟩
    · exact .inr ⟨e, (List.mem_filter.1 he).1, rfl⟩
theorem guard_ok {es : Ents} {since : Nat} {seen : List Nat} (hb : ∀ e ∈ es, e.2.2 < since) : (!seen.isEmpty && !es.isEmpty && es.all (fun e => Nat.ble since e.2.2)) = false := by
  cases es with
  | nil => simp
  | cons e es =>
    have : Nat.ble since e.2.2 = false := by
      cases q : Nat.ble since e.2.2 with
      | false => rfl
      | true => have := ble_true q; have := hb e (List.mem_cons_self ..); omega
    simp [this]
end L32
end Go.Ev
namespace Go.Ev
open Go Go.Proofs
theorem SH.view {S0 S : St} {N : Nat} {h : Hp} (G : SH S0 N h S) {j b : Nat} {x x' : HB} (e : hat h j = some (b, x)) (hv : x.at (S.heap.get b) → x'.at (S.heap.get b)) : SH S0 N (hset h x' j) S :=
  G.put e rfl (hv (G.look e)) fun _ _ => rfl
namespace L32
set_option maxRecDepth 100000
noncomputable def gF (lt : T AV) (lo : Nat) (newW : Nat → List AV) (V : Nat → Bool) (i : Nat) : Option AV := if lo ≤ i ∧ V ((i - lo) / 11) = true then (newW ((i - lo) / 11))[(i - lo) % 11]? else lt.get i
def setV (es cur : Ents) (n : Nat) : Bool := (keysN es).contains n && !(keysN cur).contains n
structure LineOk (S : St) (m lb bb evb nl lo : Nat) (x4 : Blk) (lt : T AV) (n : Nat) (W' : List AV) : Prop where
  ex : ∃ (pb po np : Nat) (pt : T AV) (w0 w1 w2 w3 w4 w5 w6 w7 cd c1 : AV) (ws1 : List AV) (en : Int) (l : List (Nat × Int)), [m, lb, bb, pb, 4].Nodup ∧ pb ≠ evb ∧ Nat.add lo (Nat.mul n 11) + 11 ≤ nl ∧
    (∀ i, i < 11 → lt.get (Nat.add lo (Nat.mul n 11) + i) = [w0, w1, w2, w3, w4, w5, w6, w7, cd, .sl pb po l.length none, .i .i64 (.ofNat l.length)][i]?) ∧
    S.heap.get pb = some (.row 5 pt np) ∧ PendB pt np po l ∧ Nat.ble l.length 1000000000 = true ∧ l ≠ [] ∧ ws1.length = 8 ∧ ints1 ws1 ∧
    (∀ S, S.heap.get 4 = some x4 → GCall PP 108 [.ag [w0, w1, w2, w3, w4, w5, w6, w7], cd] S (isV (.tu [.ag ws1, c1, .i .i64 0]) S)) ∧ (∀ S, S.heap.get 4 = some x4 → GCall PP 68 [.ag (putW ws1 l)] S (isV (.i .i64 en) S)) ∧
    W' = putW ws1 l ++ [.i .i64 en, .sl pb 0 0 (some 0), .i .i64 0]
theorem not_mem_erase {α β : Type} {f : α → β} : ∀ {es : List α} {i : Nat} {e : α}, (es.map f).Nodup → es[i]? = some e → ∀ x ∈ es.eraseIdx i, f x ≠ f e
  | [], i, e, _, h, x, hx => by simp at h
  | y :: es, 0, e, hd, h, x, hx => by
    rw [List.getElem?_cons_zero] at h; cases h
    rw [List.map_cons, List.nodup_cons] at hd
    intro q
    exact hd.1 (List.mem_map.2 ⟨x, hx, q⟩)
  | y :: es, i + 1, e, hd, h, x, hx => by
    rw [List.getElem?_cons_succ] at h
    rw [List.map_cons, List.nodup_cons] at hd
    rw [List.eraseIdx_cons_succ] at hx
    rcases List.mem_cons.1 hx with rfl | hx
    · intro q
      exact hd.1 (List.mem_map.2 ⟨e, List.mem_of_getElem? h, q.symm⟩)
    · exact not_mem_erase hd.2 h x hx
theorem gF_step {lt c : T AV} {lo nl n : Nat} {newW : Nat → List AV} {es cur cur' : Ents} {W : List AV} {kl : Nat} {o : Option Blk} (hc : ∀ i, i < nl → c.get i = gF lt lo newW (setV es cur) i)
    (hn : n ∈ keysN es) (hcur : ∀ k, k ∈ keysN cur ↔ k = n ∨ k ∈ keysN cur') (hn' : n ∉ keysN cur') (hW : newW n = W) (hl : W.length = 11)
    (h : (HB.win kl c nl (Nat.add lo (Nat.mul n 11)) W).at o) : (HB.fn kl nl (gF lt lo newW (setV es cur'))).at o := by
  obtain ⟨t, e, hle, hg⟩ := h
  refine ⟨t, e, fun i hi => ?_⟩
  have ho : Nat.add lo (Nat.mul n 11) = lo + n * 11 := rfl
  rw [ho] at hg hle
  rw [hg i hi]
  unfold gF
  by_cases hw : lo + n * 11 ≤ i ∧ i < lo + n * 11 + W.length
  · rw [if_pos hw]
    have h1 : (i - lo) / 11 = n := by omega
    have h2 : (i - lo) % 11 = i - (lo + n * 11) := by omega
    rw [h1, h2, hW, if_pos]
    refine ⟨by omega, ?_⟩
    unfold setV
    simp [hn, hn']
  · rw [if_neg hw, hc i hi]
    unfold gF
    by_cases hlo : lo ≤ i
    · have h1 : (i - lo) / 11 ≠ n := by omega
      have h2 : setV es cur' ((i - lo) / 11) = setV es cur ((i - lo) / 11) := by
        unfold setV
        have : (keysN cur).contains ((i - lo) / 11) = (keysN cur').contains ((i - lo) / 11) := by
          rw [Bool.eq_iff_iff, List.contains_iff_mem, List.contains_iff_mem, hcur]
          exact ⟨fun h => h.resolve_left h1, .inr⟩
        rw [this]
      rw [h2]
    · rw [if_neg (fun q => hlo q.1), if_neg (fun q => hlo q.1)]
structure FenceIn (S : St) (m lb bb evb lo ln kl nl len c : Nat) (lc : Option Nat) (mc lt : T AV) (sp : AV) (es : Ents) (L : List AV) (newW : Nat → List AV) (x4 : Blk) : Prop where
  hd : [m, lb, bb, evb, 4].Nodup
  h4 : S.heap.get 4 = some x4
  hS : S.heap.get m = some (.row 0 mc 4)
  m0 : mc.get 0 = some (.sl lb lo ln lc)
  m1 : mc.get 1 = some (.m bb)
  m2 : mc.get 2 = some sp
  m3 : mc.get 3 = some (.sl evb 0 len none)
  hl : S.heap.get lb = some (.row kl lt nl)
  hk2 : Nat.beq kl 2 = false
  hb : S.heap.get bb = some (.map es c)
  he : (HB.row 15 L).at (S.heap.get evb)
  hL : L.length = len * 12
  hz : Nat.ble len 1000000000 = true
  kok : KeysOk es
  kd : (keysN es).Nodup
  bd : (es.map (·.2.2)).Nodup
  bc : ∀ e ∈ es, e.2.2 < c
  hn : ∀ n ∈ keysN es, n < ln
  lines : ∀ n ∈ keysN es, LineOk S m lb bb evb nl lo x4 lt n (newW n)
theorem fence0 {S : St} {m lb bb evb lo ln kl nl len c : Nat} {lc : Option Nat} {mc lt : T AV} {sp : AV} {es : Ents} {L : List AV} {newW : Nat → List AV} {x4 : Blk} (I : FenceIn S m lb bb evb lo ln kl nl len c lc mc lt sp es L newW x4) :
    GCall PP 149 [.p m 0] S (fun y S' => ∃ N' h', SH S N' h' S' ∧ y = .tu [] ∧ ∃ B, S.nxt ≤ B ∧ HSub S h'
      [(m, .row 0 [.sl lb lo ln lc, .m bb, sp, .sl B 0 (len + 1) none]), (lb, .fn kl nl (gF lt lo newW (setV es []))), (bb, .blk (.map [] c)), (evb, .gone), (B, .row 15 (L ++ ev12 4 0 0 0 0 0 0 0 0 0 0 0))]) := by
  refine JF (h := [(m, .blk (.row 0 mc 4)), (lb, .fn kl nl (gF lt lo newW (setV es es))), (bb, .blk (.map es c)), (evb, .row 15 L), (4, .blk x4)]) ok149 rfl ?_ I.hd ?_
  · intro p hp'
    simp only [List.mem_cons, List.not_mem_nil, or_false] at hp'
    rcases hp' with rfl | rfl | rfl | rfl | rfl
    · exact ⟨I.hS, rfl⟩
    · refine ⟨⟨lt, I.hl, fun i hi => ?_⟩, rfl⟩
      have : ∀ n, setV es es n = false := fun n => by unfold setV; cases (keysN es).contains n <;> rfl
      unfold gF
      rw [if_neg (by rw [this]; simp)]
    · exact ⟨I.hb, rfl⟩
    · exact ⟨I.he, rfl⟩
    · exact ⟨I.h4, rfl⟩
  intro G
  refine JC.seq ?_
  refine JC.seq ?_
  refine JC.reg ?_
  refine JO.step (AO1.mv rfl) rfl ?_
  refine JO.step (AO1.ncP rfl) rfl ?_
  refine JO.step (AO1.fa rfl) rfl ?_
  refine JO.step (AO1.ld1X 0 rfl rfl rfl I.m1) rfl ?_
  refine JO.step (AO1.rgm 2 rfl rfl) rfl ?_
  refine JO.nil ?_
  refine JC.blk ?_
  refine JC.loop (α := Ents × List Nat × Nat) (fun _ => [(0, .p m 0), (7, .p S.nxt 0), (dslot, .tu [])]) (fun a => a.2.2)
    (fun a => [(m, .blk (.row 0 mc 4)), (lb, .fn kl nl (gF lt lo newW (setV es a.1))), (bb, .blk (.map a.1 c)), (evb, .row 15 L), (4, .blk x4), (S.nxt, .blk (.miter (some bb) c a.2.1 c))])
    (fun a => a.1.length) (fun a => (∀ e ∈ a.1, e ∈ es) ∧ (keysN a.1).Nodup ∧ (a.1.map (·.2.2)).Nodup ∧ (∀ e ∈ a.1, e.2.2 ∉ a.2.1) ∧ S.nxt + 1 ≤ a.2.2)
    (es, [], S.nxt + 1) ⟨fun e h => h, I.kd, I.bd, fun e _ h => (by cases h), Nat.le_refl _⟩ ⟨rfl, rfl, rfl, trivial⟩ rfl (HSub.refl _ _) ?_
  rintro ⟨cur, seen, M⟩ ⟨i1, i2, i3, i4, i5⟩
  refine JC.seq ?_
  refine JC.reg ?_
  refine JO.nx 5 2 rfl rfl rfl (guard_ok fun e he => I.bc e (i1 e he)) rfl (fun hc => ?_) (fun k v born hc => ?_)
  · -- no entry is left
    have hcur : cur = [] := by
      rcases cand_mem (fun e he => I.bc e (i1 e he)) i4 hc with ⟨_, h⟩ | ⟨e, _, h⟩
      · exact h
      · cases h
    subst hcur
    refine JO.step (AO1.ex rfl rfl) rfl ?_
    refine JO.nil ?_
    refine JC.seq ?_
    refine JC.cnd rfl (fun h => by cases h) (fun _ => ?_)
    refine JC.ex ?_
    refine JC.reg ?_
    refine JO.step (AO1.mv rfl) rfl ?_
    refine JO.step (AO1.bd (r := ev12 4 0 0 0 0 0 0 0 0 0 0 0) rfl rfl) rfl ?_
    have hd2 : [m, evb].Nodup := by
      have := I.hd
      simp only [List.nodup_cons, List.mem_cons, List.not_mem_nil, or_false, not_or] at this ⊢; simp [this]
    refine JO.call (fun _ _ => rfl) rfl rfl rfl (fun S1 G1 => note0 hd2 (c0 := .sl lb lo ln lc) (c1 := .m bb) (c2 := sp) ?_ (G1.look (j := 3) rfl) I.hL I.hz) (fun S1 G1 y S2 k => ?_) rfl
    · refine ⟨mc, G1.look (j := 0) rfl, fun i hi => ?_⟩
      match i, hi with
      | 0, _ => exact I.m0
      | 1, _ => exact I.m1
      | 2, _ => exact I.m2
      | 3, _ => exact I.m3
    obtain ⟨N', h', G', rfl, B, hB, hs⟩ := k
    rw [G1.nxt] at hB
    refine ⟨N', _, G1.updsN [(m, _), (evb, _)] [(B, _)] rfl (G'.sub hs) [0, 3] ⟨⟨_, rfl⟩, ⟨_, rfl⟩, trivial⟩ (fun p hp => by rw [List.mem_singleton] at hp; subst hp; exact hB), ?_⟩
    refine JO.nil ?_
    have h5 : S.nxt + 1 ≤ M := i5
    exact ⟨_, .nil, rfl, rfl, B, by omega, .keep (.keep (.keep (.keep (.same I.h4 (.drop (Nat.le_refl _) (.keep .nil))))))⟩
  · obtain ⟨e, he, hee⟩ : ∃ e ∈ cur, some (k, v, born) = some e := by
      rcases cand_mem (fun e he => I.bc e (i1 e he)) i4 hc with ⟨h, _⟩ | h
      · cases h
      · exact h
    cases hee
    obtain ⟨n, hn⟩ := I.kok _ (i1 _ he)
    simp only at hn
    subst hn
    have hnk : n ∈ keysN es := mem_keysN.2 ⟨_, i1 _ he, rfl⟩
    obtain ⟨pb, po, np, pt, w0, w1, w2, w3, w4, w5, w6, w7, cd, c1, ws1, en, l, q1, q2, q3, q4, q5, q6, q7, q8, q9, q10, q11, q12, q13⟩ := (I.lines n hnk).ex
    obtain ⟨ix, hf1, hf2⟩ := findKey_key (e := (.i .i64 (.ofNat n), v, born)) (fun e h => I.kok e (i1 e h)) i2 he rfl
    have hlt := I.hn n hnk
    have hnc : setV es cur n = false := by
      unfold setV
      have : (keysN cur).contains n = true := by rw [List.contains_iff_mem]; exact mem_keysN.2 ⟨_, he, rfl⟩
      rw [this]; simp
    have hg : ∀ i, i < 11 → gF lt lo newW (setV es cur) (Nat.add lo (Nat.mul n 11) + i) = lt.get (Nat.add lo (Nat.mul n 11) + i) := fun i hi => by
      have ho : Nat.add lo (Nat.mul n 11) = lo + n * 11 := rfl
      unfold gF
      rw [ho, show (lo + n * 11 + i - lo) / 11 = n by omega, hnc, if_neg (by simp)]
    refine JO.step (AO1.ex rfl rfl) rfl ?_
    refine JO.nil ?_
    refine JC.seq ?_
    refine JC.cnd rfl (fun _ => ?_) (fun h => by cases h)
    refine JC.skip ?_
    refine JC.blk ?_
    refine JC.seq ?_
    refine JC.reg ?_
    refine JO.step (AO1.en 5 2 rfl rfl rfl (find_born i3 he)) rfl ?_
    refine JO.step (AO1.ex rfl rfl) rfl ?_
    refine JO.step (AO1.mv rfl) rfl ?_
    refine JO.nil ?_
    refine JC.reg ?_
    refine JO.step (AO1.mv rfl) rfl ?_
    refine JO.step (AO1.mv rfl) rfl ?_
    refine JO.step (AO1.mv rfl) rfl ?_
    refine JO.step (AO1.ncP rfl) rfl ?_
    refine JO.step (AO1.fa rfl) rfl ?_
    refine JO.step (AO1.ld1X 0 rfl rfl rfl I.m0) rfl ?_
    refine JO.step (AO1.mv rfl) rfl ?_
    refine JO.step (AO1.iaS rfl rfl (ble_of hlt)) rfl ?_
    refine JO.step (AO1.fa rfl) rfl ?_
    refine JO.step (AO1.ld1F (v := .i .i64 (.ofNat l.length)) 1 rfl rfl (ble_of (show Nat.add lo (Nat.mul n 11) + 10 < nl by omega)) ((hg 10 (by omega)).trans (q4 10 (by omega)))) rfl ?_
    refine JO.call (Φ := fun S1 y S2 => ∃ N' t, S1.heap.get lb = some (.row kl t nl) ∧ (∀ i, i < nl → t.get i = gF lt lo newW (setV es cur) i) ∧ SH S1 N' [(lb, .win kl t nl (Nat.add lo (Nat.mul n 11)) (newW n)), (bb, .blk (.map (cur.eraseIdx ix) c))] S2 ∧ y = .tu [])
      (fun _ _ => rfl) rfl rfl rfl (fun S1 G1 => ?_) (fun S1 G1 y S2 k => ?_) rfl
    · obtain ⟨t, e1, e2⟩ := G1.look (j := 1) rfl
      have hpb : S1.heap.get pb = some (.row 5 pt np) := by
        have hlo : pb < S.nxt := by
          rcases Nat.lt_or_ge pb S.nxt with k | k
          · exact k
          · rw [G.wf pb k] at q5; cases q5
        rw [G1.els pb hlo fun p hp => ?_]; exact q5
        change p ∈ [_, _, _, _, _, _] at hp
        simp only [List.mem_cons, List.not_mem_nil, or_false] at hp
        simp only [List.nodup_cons, List.mem_cons, List.not_mem_nil, or_false, not_or] at q1
        rcases hp with rfl | rfl | rfl | rfl | rfl | rfl
        · exact q1.1.2.2.1
        · exact q1.2.1.2.1
        · exact q1.2.2.1.1
        · exact fun e => q2 e.symm
        · exact fun e => q1.2.2.2.1 e.symm
        · exact fun e => by have : S.nxt = pb := e; omega
      refine (settle0 q1 (G1.look (j := 4) rfl) (G1.look (j := 0) rfl) I.m0 I.m1 (ble_of hlt) e1 I.hk2 q3 (fun i hi => ?_) hpb q6 q7 q8 q9 q10 q11 q12 (G1.look (j := 2) rfl) hf1).mono fun y S2 ⟨N', h', G', hy, hs⟩ => ⟨N', t, e1, e2, ?_, hy⟩
      · rw [e2 _ (by omega), hg i hi]; exact q4 i hi
      · rw [q13]; exact G'.sub hs
    obtain ⟨N', t, e1, e2, G', rfl⟩ := k
    have hle' : M ≤ N' := by have := G'.le; rw [G1.nxt] at this; exact this
    have hW11 : (newW n).length = 11 := by rw [q13, List.length_append, putW_length, q9]; rfl
    have hmem := fun x => mem_erase (x := x) hf2
    have hkeys : ∀ k, k ∈ keysN cur ↔ k = n ∨ k ∈ keysN (cur.eraseIdx ix) := fun k => by
      rw [mem_keysN, mem_keysN]
      constructor
      · rintro ⟨x, hx, hk⟩
        rcases (hmem x).1 hx with rfl | hx
        · simp only [AV.i.injEq, true_and] at hk; cases hk; exact .inl rfl
        · exact .inr ⟨x, hx, hk⟩
      · rintro (rfl | ⟨x, hx, hk⟩)
        · exact ⟨_, he, rfl⟩
        · exact ⟨x, (hmem x).2 (.inr hx), hk⟩
    have hne := not_mem_erase i3 hf2
    have hnn : n ∉ keysN (cur.eraseIdx ix) := fun q => by
      obtain ⟨x, hx, hk⟩ := mem_keysN.1 q
      obtain ⟨ix2, g1, g2⟩ := findKey_key (e := x) (fun e h => I.kok e (i1 e h)) i2 ((hmem x).2 (.inr hx)) hk
      rw [hf1] at g1
      cases g1
      rw [hf2] at g2
      have g3 := Option.some.inj g2
      exact hne _ hx (by rw [← g3])
    have G2 := (G1.upds G' [1, 2] ⟨⟨_, rfl⟩, ⟨_, rfl⟩, trivial⟩).view (j := 1) (x' := .fn kl nl (gF lt lo newW (setV es (cur.eraseIdx ix)))) rfl (gF_step e2 hnk hkeys hnn rfl hW11)
    refine ⟨N', _, G2, ?_⟩
    refine JO.nil ?_
    refine ⟨(cur.eraseIdx ix, seen ++ [born], N'), ⟨fun x hx => i1 x ((hmem x).2 (.inr hx)), ?_, ?_, fun x hx => ?_, ?_⟩, ?_, ⟨rfl, rfl, rfl, trivial⟩, rfl, HSub.refl _ _⟩
    · exact i2.sublist ((List.eraseIdx_sublist _ _).filterMap _)
    · exact i3.sublist ((List.eraseIdx_sublist _ _).map _)
    · have h1 := i4 x ((hmem x).2 (.inr hx))
      have h2 := hne x hx
      simp only [List.mem_append, List.mem_singleton, not_or]
      exact ⟨h1, h2⟩
    · have h5 : S.nxt + 1 ≤ M := i5
      show S.nxt + 1 ≤ N'; omega
    · have : ix < cur.length := (List.getElem?_eq_some_iff.1 hf2).1
      show (cur.eraseIdx ix).length < cur.length
      rw [List.length_eraseIdx_of_lt this]
      show cur.length - 1 < cur.length
      omega
end L32
end Go.Ev
namespace Go.Ev
open Go Go.Proofs
namespace L32
set_option maxRecDepth 100000
noncomputable section
/-! what functions yield that know of the heap only a table -/
def tab64 : List Int := [0, 1, 56, 2, 57, 49, 28, 3, 61, 58, 42, 50, 38, 29, 17, 4, 62, 47, 59, 36, 45, 43, 51, 22, 53, 39, 33, 30, 24, 18, 12, 5, 63, 55, 48, 27, 60, 41, 37, 16, 46, 35, 44, 21, 52, 32, 23, 11, 54, 26, 40, 15, 34, 20, 31, 10, 25, 14, 19, 9, 13, 8, 7, 6]
def tabA : List AV := tab64.map fun n => .i .u8 n
def g4 : Blk := .row 2 (T.ofList tabA) 64
def Sm : St := ⟨T.set .nil 4 g4, 5, 0⟩
def noU : Sums := fun _ => none
theorem noU_ok : ∀ n, EvOk PP (evT noU F n) := fun n => by rw [evT_eq]; exact ev_ok hm HF (fun f g args S r h => by cases h) n
theorem memo {f n : Nat} {args : List AV} {y : AV} {S2 : St} (h : evT noU F n (.call f args) Sm = .v y S2) (ha : args.all pureA = true) (hy : pureA y = true) {S : St} {x4 : Blk} (h4 : S.heap.get 4 = some x4) (hle : g4.le x4) : GCall PP f args S (isV y S) := by
  have h1 : GCall PP f args Sm (isV y S2) := noU_ok n (.call f args) Sm y S2 h
  refine (h1.pure (S := S) ha (fun y' S' k => by obtain ⟨rfl, rfl⟩ := k; exact hy) (fun β x e => ?_) (fun β hβ => ?_) (by show Tryz.prog.globals.size ≤ 5; exact of_decide_eq_true (by kernel_rfl))).mono fun y' S' k => ?_
  · have e : (T.set .nil 4 g4 : T Blk).get β = some x := e
    rw [T.get_set] at e
    by_cases hb : β = 4
    · subst hb
      rw [if_pos rfl] at e; cases e
      refine ⟨⟨rfl, fun i hi a ha => ?_⟩, x4, h4, hle⟩
      rw [T.get_ofList] at ha
      have hm := List.mem_of_getElem? ha
      unfold tabA at hm
      obtain ⟨z, _, rfl⟩ := List.mem_map.1 hm
      exact .inl rfl
    · rw [if_neg hb] at e; cases e
  · show (T.set .nil 4 g4 : T Blk).get β = none
    rw [T.get_set, if_neg (by have : 5 ≤ β := hβ; omega)]; rfl
  · obtain ⟨rfl, S3, rfl, _⟩ := k
    exact ⟨rfl, rfl⟩
/-! the parts of a state -/
def getRow : Option Blk → Option (Nat × T AV × Nat)
  | some (.row k c n) => some (k, c, n)
  | _ => none
def getMap : Option Blk → Option (Ents × Nat)
  | some (.map es c) => some (es, c)
  | _ => none
def getSl : Option AV → Option (Nat × Nat × Nat × Option Nat)
  | some (.sl b o n c) => some (b, o, n, c)
  | _ => none
def getSlN : Option AV → Option (Nat × Nat × Nat)
  | some (.sl b o n none) => some (b, o, n)
  | _ => none
def getM : Option AV → Option Nat
  | some (.m b) => some b
  | _ => none
def getN : Option AV → Option Nat
  | some (.i .i64 (.ofNat n)) => some n
  | _ => none
def gd (b : Bool) : Option Unit := @Bool.rec (fun _ => Option Unit) none (some ()) b
theorem gd_eq {b : Bool} {u : Unit} (h : gd b = some u) : b = true := by cases b with
  | true => rfl
  | false => cases h
theorem getRow_eq {x : Option Blk} {r : Nat × T AV × Nat} (h : getRow x = some r) : x = some (.row r.1 r.2.1 r.2.2) := by
  unfold getRow at h; split at h <;> cases h; rfl
theorem getMap_eq {x : Option Blk} {r : Ents × Nat} (h : getMap x = some r) : x = some (.map r.1 r.2) := by
  unfold getMap at h; split at h <;> cases h; rfl
theorem getSl_eq {x : Option AV} {r : Nat × Nat × Nat × Option Nat} (h : getSl x = some r) : x = some (.sl r.1 r.2.1 r.2.2.1 r.2.2.2) := by
  unfold getSl at h; split at h <;> cases h; rfl
theorem getSlN_eq {x : Option AV} {r : Nat × Nat × Nat} (h : getSlN x = some r) : x = some (.sl r.1 r.2.1 r.2.2 none) := by
  unfold getSlN at h; split at h <;> cases h; rfl
theorem getM_eq {x : Option AV} {r : Nat} (h : getM x = some r) : x = some (.m r) := by
  unfold getM at h; split at h <;> cases h; rfl
theorem getN_eq {x : Option AV} {r : Nat} (h : getN x = some r) : x = some (.i .i64 (.ofNat r)) := by
  unfold getN at h; split at h <;> cases h; rfl
def isIntB : AV → Bool
  | .i _ _ => true
  | _ => false
theorem intsB_ok {l : List AV} (h : l.all isIntB = true) : ints1 l := fun x hx => by
  have := List.all_eq_true.1 h x hx
  cases x <;> first | exact ⟨_, _, rfl⟩ | cases this
theorem ints_pureA {l : List AV} (h : ints1 l) : pureA (.ag l) = true := ints1_pure h
/-- a fuel for closed runs -/
def fuel : Nat := 1000000
def valOf : R → Option AV
  | .v y _ => some y
  | _ => none
theorem valOf_eq {r : R} {y : AV} (h : valOf r = some y) : ∃ S, r = .v y S := by
  cases r <;> first | (cases h; exact ⟨_, rfl⟩) | cases h
def fixP : AV → Option (List AV × AV)
  | .tu [.ag w, c, .i .i64 (.ofNat 0)] => some (w, c)
  | _ => none
theorem fixP_eq {y : AV} {r : List AV × AV} (h : fixP y = some r) : y = .tu [.ag r.1, r.2, .i .i64 0] := by
  unfold fixP at h; split at h <;> cases h; rfl
def fixV (ws : List AV) (c : AV) : Option (List AV × AV) := (valOf (evT noU F fuel (.call 108 [.ag ws, c]) Sm)).bind fixP
def encP : AV → Option Int
  | .i .i64 n => some n
  | _ => none
def encV (ws : List AV) : Option Int := (valOf (evT noU F fuel (.call 68 [.ag ws]) Sm)).bind encP
def pendL (t : T AV) : Nat → Nat → Option (List (Nat × Int))
  | 0, _ => some []
  | k + 1, po => match readCells t po 2 with
    | some [.i .i64 (.ofNat w), .i .i64 v] => (gd (Nat.blt w 8)).bind fun _ => (pendL t k (po + 2)).bind fun l => some ((w, v) :: l)
    | _ => none
theorem pendL_ok {t : T AV} : ∀ {k po : Nat} {l : List (Nat × Int)}, pendL t k po = some l → l.length = k ∧ ∀ i p, l[i]? = some p → p.1 < 8 ∧ readCells t (po + i * 2) 2 = some [.i .i64 (.ofNat p.1), .i .i64 p.2]
  | 0, po, l, h => by cases h; exact ⟨rfl, fun i p h => by simp at h⟩
  | k + 1, po, l, h => by
    unfold pendL at h
    split at h
    · rename_i w v hr
      simp only [Option.bind_eq_some_iff] at h
      obtain ⟨u, h1, l', h2, h3⟩ := h
      cases h3
      obtain ⟨g1, g2⟩ := pendL_ok h2
      refine ⟨by simp [g1], fun i p hp => ?_⟩
      cases i with
      | zero =>
        rw [List.getElem?_cons_zero] at hp; cases hp
        exact ⟨blt_true (gd_eq h1), by rw [Nat.zero_mul, Nat.add_zero]; exact hr⟩
      | succ i =>
        rw [List.getElem?_cons_succ] at hp
        have := g2 i p hp
        rw [show po + (i + 1) * 2 = po + 2 + i * 2 by omega]; exact this
    · cases h
def nb (a b : Nat) : Bool := not (Nat.beq a b)
theorem nb_ne {a b : Nat} (h : nb a b = true) : a ≠ b := fun e => by subst e; unfold nb at h; rw [show Nat.beq a a = true from Nat.beq_refl a] at h; cases h
def wins : List AV → Option (List AV × AV × AV × AV)
  | [w0, w1, w2, w3, w4, w5, w6, w7, c, p, k] => some ([w0, w1, w2, w3, w4, w5, w6, w7], c, p, k)
  | _ => none
def lineG (S : St) (m lb bb evb nl lo : Nat) (lt : T AV) (n : Nat) : Option (List AV) :=
  (gd (Nat.ble (lo + n * 11 + 11) nl)).bind fun _ => (readCells lt (lo + n * 11) 11).bind fun cs => (wins cs).bind fun w => (getSlN (some w.2.2.1)).bind fun p => (getN (some w.2.2.2)).bind fun k =>
  (gd (Nat.beq k p.2.2 && (Nat.blt 0 k && (Nat.ble k 1000000000 && (nb p.1 m && (nb p.1 lb && (nb p.1 bb && (nb p.1 4 && nb p.1 evb)))))))).bind fun _ => (getRow (S.heap.get p.1)).bind fun r =>
  (gd (Nat.beq r.1 5 && Nat.ble (p.2.1 + k * 2) r.2.2)).bind fun _ => (pendL r.2.1 k p.2.1).bind fun l => (fixV w.1 w.2.1).bind fun f => (encV (putW f.1 l)).bind fun en =>
  (gd (w.1.all isIntB && (isIntB w.2.1 && (Nat.beq f.1.length 8 && (f.1.all isIntB && isIntB f.2))))).bind fun _ => some (putW f.1 l ++ [.i .i64 en, .sl p.1 0 0 (some 0), .i .i64 0])
theorem wins_eq {l : List AV} {r : List AV × AV × AV × AV} (h : wins l = some r) : ∃ w0 w1 w2 w3 w4 w5 w6 w7, r.1 = [w0, w1, w2, w3, w4, w5, w6, w7] ∧ l = [w0, w1, w2, w3, w4, w5, w6, w7, r.2.1, r.2.2.1, r.2.2.2] := by
  unfold wins at h; split at h <;> cases h; exact ⟨_, _, _, _, _, _, _, _, rfl, rfl⟩
theorem lineG_ok {S : St} {m lb bb evb nl lo n : Nat} {lt : T AV} {W : List AV} {x4 : Blk} (hd : [m, lb, bb, evb, 4].Nodup) (h4 : g4.le x4) (h : lineG S m lb bb evb nl lo lt n = some W) : LineOk S m lb bb evb nl lo x4 lt n W := by
  unfold lineG at h
  simp only [Option.bind_eq_some_iff] at h
  obtain ⟨_, h1, cs, h2, w, h3, p, h5, k, h6, _, h7, r, h8, _, h9, l, h10, f, h11, en, h12, _, h13, h14⟩ := h
  have h1 := ble_true (gd_eq h1)
  have h7 := gd_eq h7
  have h9 := gd_eq h9
  have h13 := gd_eq h13
  simp only [Bool.and_eq_true] at h7 h9 h13
  obtain ⟨a1, a2, a3, a4, a5, a6, a7, a8⟩ := h7
  obtain ⟨b1, b2⟩ := h9
  obtain ⟨c1, c2, c3, c4, c5⟩ := h13
  obtain ⟨w0, w1, w2, w3, w4, w5, w6, w7, hw, hcs⟩ := wins_eq h3
  have hp := Option.some.inj (getSlN_eq h5)
  have hk := Option.some.inj (getN_eq h6)
  have hr := getRow_eq h8
  obtain ⟨g1, g2⟩ := pendL_ok h10
  unfold fixV at h11
  unfold encV at h12
  obtain ⟨y1, d1, d2⟩ := Option.bind_eq_some_iff.1 h11
  obtain ⟨y2, d3, d4⟩ := Option.bind_eq_some_iff.1 h12
  obtain ⟨S1, e1⟩ := valOf_eq d1
  obtain ⟨S2, e2⟩ := valOf_eq d3
  have hy1 := fixP_eq d2
  have hy2 : y2 = .i .i64 en := by unfold encP at d4; split at d4 <;> cases d4; rfl
  subst hy1 hy2
  have e5 := Nat.eq_of_beq_eq_true a1
  have hf8 := Nat.eq_of_beq_eq_true c3
  have hfi := intsB_ok c4
  have hcdi : ∃ kk n, w.2.1 = .i kk n := by cases hq : w.2.1 <;> rw [hq] at c2 <;> first | exact ⟨_, _, rfl⟩ | cases c2
  obtain ⟨kk, nn, hcd⟩ := hcdi
  have hf2i : ∃ kk n, f.2 = .i kk n := by cases hq : f.2 <;> rw [hq] at c5 <;> first | exact ⟨_, _, rfl⟩ | cases c5
  obtain ⟨kk2, nn2, hfd⟩ := hf2i
  have hread := readCells_some h2
  refine ⟨p.1, p.2.1, r.2.2, r.2.1, w0, w1, w2, w3, w4, w5, w6, w7, w.2.1, f.2, f.1, en, l, ?_, nb_ne a8, h1, fun i hi => ?_, ?_, ⟨by rw [g1]; exact ble_true b2, g2⟩, by rw [g1]; exact a3, ?_, hf8, hfi, fun S h => ?_, fun S h => ?_, ?_⟩
  · simp only [List.nodup_cons, List.mem_cons, List.not_mem_nil, or_false, not_or] at hd ⊢
    exact ⟨⟨hd.1.1, hd.1.2.1, fun e => nb_ne a4 e.symm, hd.1.2.2.2⟩, ⟨hd.2.1.1, fun e => nb_ne a5 e.symm, hd.2.1.2.2⟩, ⟨fun e => nb_ne a6 e.symm, hd.2.2.1.2⟩, nb_ne a7, by simp, List.nodup_nil⟩
  · rw [show Nat.add lo (Nat.mul n 11) + i = lo + n * 11 + i from rfl, hread.2 i hi, hcs, hp, hk, g1, e5]
  · rw [hr, Nat.eq_of_beq_eq_true b1]
  · intro q; subst q
    have := blt_true a2
    simp at g1; omega
  · rw [← hw]
    refine memo e1 ?_ ?_ h h4
    · have : pureA (.ag w.1) = true := ints_pureA (intsB_ok c1)
      simp only [List.all_cons, List.all_nil, Bool.and_true, this, hcd]; rfl
    · rw [hfd]
      show ((f.1.all pure1) && true) = true
      rw [ints1_pure hfi]; rfl
  · refine memo e2 ?_ rfl h h4
    have : pureA (.ag (putW f.1 l)) = true := ints_pureA (putW_ints hfi)
    simp only [List.all_cons, List.all_nil, Bool.and_true, this]
  · exact (Option.some.inj h14).symm
end
end L32
end Go.Ev
namespace Go.Ev
open Go Go.Proofs
namespace L32
set_option maxRecDepth 100000
noncomputable section
def getP0 : List AV → Option Nat
  | [.p m 0] => some m
  | _ => none
def ndB : List Nat → Bool
  | [] => true
  | x :: l => l.all (fun y => nb x y) && ndB l
theorem ndB_ok : ∀ {l : List Nat}, ndB l = true → l.Nodup
  | [], _ => List.nodup_nil
  | x :: l, h => by
    simp only [ndB, Bool.and_eq_true, List.all_eq_true] at h
    exact List.nodup_cons.2 ⟨fun hm => nb_ne (h.1 x hm) rfl, ndB_ok h.2⟩
def setLines (w : Nat → Option (List AV)) (lo : Nat) : Ents → T AV → Option (T AV)
  | [], c => some c
  | e :: es, c => (keyN e.1).bind fun n => (w n).bind fun W => setLines w lo es (setCells W c (lo + n * 11))
theorem keyN_eq {a : AV} {n : Nat} (h : keyN a = some n) : a = .i .i64 (.ofNat n) := by
  unfold keyN at h; split at h <;> cases h; rfl
theorem setLines_ok {w : Nat → Option (List AV)} {lo : Nat} (hw : ∀ n W, w n = some W → W.length = 11) {lt : T AV} {es0 : Ents} : ∀ {es : Ents} {c c' : T AV}, setLines w lo es c = some c' → (keysN es).Nodup → (∀ e ∈ es, e ∈ es0) → (∀ k ∈ keysN es0, k ∈ keysN es ∨ ∃ W, w k = some W) →
    (∀ i, c.get i = gF lt lo (fun n => (w n).getD []) (setV es0 es) i) →
    (∀ e ∈ es, ∃ n W, e.1 = .i .i64 (.ofNat n) ∧ w n = some W) ∧ ∀ i, c'.get i = gF lt lo (fun n => (w n).getD []) (setV es0 []) i
  | [], c, c', h, _, _, _, hc => by cases h; exact ⟨fun e h => (by cases h), hc⟩
  | e :: es, c, c', h, hnd, hm, hk, hc => by
    simp only [setLines, Option.bind_eq_some_iff] at h
    obtain ⟨n, h1, W, h2, h3⟩ := h
    have hkey := keyN_eq h1
    have h11 := hw n W h2
    have hnd' : n ∉ keysN es ∧ (keysN es).Nodup := by
      have : keysN (e :: es) = n :: keysN es := by unfold keysN; rw [List.filterMap_cons, h1]
      rw [this] at hnd; exact List.nodup_cons.1 hnd
    have hn0 : n ∈ keysN es0 := mem_keysN.2 ⟨e, hm e (List.mem_cons_self ..), hkey⟩
    have hkc : ∀ k, k ∈ keysN (e :: es) ↔ k = n ∨ k ∈ keysN es := fun k => by
      rw [mem_keysN, mem_keysN]
      constructor
      · rintro ⟨x, hx, he⟩
        rcases List.mem_cons.1 hx with rfl | hx
        · rw [hkey] at he; simp only [AV.i.injEq, true_and] at he; cases he; exact .inl rfl
        · exact .inr ⟨x, hx, he⟩
      · rintro (rfl | ⟨x, hx, he⟩)
        · exact ⟨e, List.mem_cons_self .., hkey⟩
        · exact ⟨x, List.mem_cons_of_mem _ hx, he⟩
    obtain ⟨g1, g2⟩ := setLines_ok hw h3 hnd'.2 (fun x hx => hm x (List.mem_cons_of_mem _ hx)) (fun k hk' => by
      rcases hk k hk' with q | q
      · rcases (hkc k).1 q with rfl | q
        · exact .inr ⟨W, h2⟩
        · exact .inl q
      · exact .inr q) (fun i => by
      rw [get_setCells, h11]
      have key : ∀ j, setV es0 es j = true → j = n ∨ setV es0 (e :: es) j = true := fun j hj => by
        by_cases hjn : j = n
        · exact .inl hjn
        · right
          unfold setV at hj ⊢
          have : (keysN (e :: es)).contains j = (keysN es).contains j := by
            rw [Bool.eq_iff_iff, List.contains_iff_mem, List.contains_iff_mem, hkc]
            exact ⟨fun h => h.resolve_left hjn, .inr⟩
          rw [this]; exact hj
      have key2 : ∀ j, j ≠ n → setV es0 es j = setV es0 (e :: es) j := fun j hjn => by
        unfold setV
        have : (keysN (e :: es)).contains j = (keysN es).contains j := by
          rw [Bool.eq_iff_iff, List.contains_iff_mem, List.contains_iff_mem, hkc]
          exact ⟨fun h => h.resolve_left hjn, .inr⟩
        rw [this]
      by_cases hi : lo + n * 11 ≤ i ∧ i < lo + n * 11 + 11
      · rw [if_pos hi]
        have e1 : (i - lo) / 11 = n := by omega
        have e2 : (i - lo) % 11 = i - (lo + n * 11) := by omega
        unfold gF
        by_cases hV : setV es0 es n = true
        · rw [e1, if_pos ⟨by omega, hV⟩, e2]
          show _ = ((w n).getD [])[_]?
          rw [h2]; rfl
        · -- the key comes once more
          have hin : n ∈ keysN es := by
            unfold setV at hV
            have : (keysN es0).contains n = true := List.contains_iff_mem.2 hn0
            rw [this] at hV
            cases hq : (keysN es).contains n with
            | true => exact List.contains_iff_mem.1 hq
            | false => rw [hq] at hV; exact absurd rfl hV
          exact absurd hin hnd'.1
      · rw [if_neg hi, hc i]
        unfold gF
        by_cases hlo : lo ≤ i
        · have hj : (i - lo) / 11 ≠ n := by omega
          rw [key2 _ hj]
        · rw [if_neg (fun q => hlo q.1), if_neg (fun q => hlo q.1)])
    exact ⟨fun x hx => by
      rcases List.mem_cons.1 hx with rfl | hx
      · exact ⟨n, W, hkey, h2⟩
      · exact g1 x hx, g2⟩
theorem LineOk.len {S : St} {m lb bb evb nl lo n : Nat} {lt : T AV} {W : List AV} {x4 : Blk} (h : LineOk S m lb bb evb nl lo x4 lt n W) : W.length = 11 := by
  obtain ⟨pb, po, np, pt, w0, w1, w2, w3, w4, w5, w6, w7, cd, c1, ws1, en, l, q1, q2, q3, q4, q5, q6, q7, q8, q9, q10, q11, q12, q13⟩ := h.ex
  rw [q13, List.length_append, putW_length, q9]; rfl
theorem LineOk.cell {S : St} {m lb bb evb nl lo n : Nat} {lt : T AV} {W : List AV} {x4 : Blk} (h : LineOk S m lb bb evb nl lo x4 lt n W) {a : AV} (ha : a ∈ W) : pureA a = true ∨ ∃ pb x, a = .sl pb 0 0 (some 0) ∧ S.heap.get pb = some x := by
  obtain ⟨pb, po, np, pt, w0, w1, w2, w3, w4, w5, w6, w7, cd, c1, ws1, en, l, q1, q2, q3, q4, q5, q6, q7, q8, q9, q10, q11, q12, q13⟩ := h.ex
  rw [q13] at ha
  rcases List.mem_append.1 ha with ha | ha
  · obtain ⟨k, n, rfl⟩ := putW_ints q10 a ha
    exact .inl rfl
  · simp only [List.mem_cons, List.not_mem_nil, or_false] at ha
    rcases ha with rfl | rfl | rfl
    · exact .inl rfl
    · exact .inr ⟨pb, _, rfl, q5⟩
    · exact .inl rfl
def E4 : List AV := ev12 4 0 0 0 0 0 0 0 0 0 0 0
/-- what a fence makes of a state, where all that is pending has been flushed -/
def fenceG (args : List AV) (S : St) : Option (AV × St) :=
  (getP0 args).bind fun m => (getRow (S.heap.get m)).bind fun r => (gd (Nat.beq r.1 0 && Nat.beq r.2.2 4)).bind fun _ => (getSl (r.2.1.get 0)).bind fun ls => (getM (r.2.1.get 1)).bind fun bb => (r.2.1.get 2).bind fun sp => (getSlN (r.2.1.get 3)).bind fun ev =>
  (getRow (S.heap.get ls.1)).bind fun lr => (getMap (S.heap.get bb)).bind fun mp => (getRow (S.heap.get ev.1)).bind fun er => (getRow (S.heap.get 4)).bind fun tr =>
  (gd (ndB [m, ls.1, bb, ev.1, 4] && (not (Nat.beq lr.1 2) && (Nat.beq er.1 15 && (Nat.beq ev.2.1 0 && (Nat.beq er.2.2 (ev.2.2 * 12) && (Nat.ble ev.2.2 1000000000 && (Nat.beq tr.1 2 && Nat.beq tr.2.2 64)))))))).bind fun _ =>
  (gd (mp.1.all (fun e => (keyN e.1).isSome) && (ndB (keysN mp.1) && (ndB (mp.1.map (·.2.2)) && (mp.1.all (fun e => Nat.blt e.2.2 mp.2) && (keysN mp.1).all (fun n => Nat.blt n ls.2.2.1)))))).bind fun _ =>
  (readCells tr.2.1 0 64).bind fun tb => (gd (eqs1 tb tabA)).bind fun _ => (readCells er.2.1 0 (ev.2.2 * 12)).bind fun _ =>
  (setLines (lineG S m ls.1 bb ev.1 lr.2.2 ls.2.1 lr.2.1) ls.2.1 mp.1 lr.2.1).bind fun lt' =>
  some (.tu [], ⟨((((S.heap.del ev.1).set m (.row 0 (r.2.1.set 3 (.sl S.nxt 0 (ev.2.2 + 1) none)) 4)).set ls.1 (.row lr.1 lt' lr.2.2)).set bb (.map [] mp.2)).set S.nxt (.row 15 (setCells E4 er.2.1 (ev.2.2 * 12)) (ev.2.2 * 12 + 12)), S.nxt + 1, S.drw⟩)
theorem fenceG_ok {args : List AV} {S : St} {r : AV × St} (h : fenceG args S = some r) : GCall PP 149 args S (isV r.1 r.2) := by
  unfold fenceG at h
  simp only [Option.bind_eq_some_iff] at h
  obtain ⟨m, h1, mr, h2, _, h3, ls, h4, bb, h5, sp, h6, ev, h7, lr, h8, mp, h9, er, h10, tr, h11, _, h12, _, h13, tb, h14, _, h15, L, h16, lt', h17, h18⟩ := h
  have a1 : args = [.p m 0] := by unfold getP0 at h1; split at h1 <;> cases h1; rfl
  subst a1
  have h2 := getRow_eq h2
  have h3 := gd_eq h3
  have h4 := getSl_eq h4
  have h5 := getM_eq h5
  have h7 := getSlN_eq h7
  have h8 := getRow_eq h8
  have h9 := getMap_eq h9
  have h10 := getRow_eq h10
  have h11 := getRow_eq h11
  have h12 := gd_eq h12
  have h13 := gd_eq h13
  have h15 := eqs1_eq (gd_eq h15)
  simp only [Bool.and_eq_true, Bool.not_eq_true'] at h3 h12 h13
  obtain ⟨b1, b2⟩ := h3
  obtain ⟨c1, c2, c3, c4, c5, c6, c7, c8⟩ := h12
  obtain ⟨d1, d2, d3, d4, d5⟩ := h13
  have hd := ndB_ok c1
  have e0 := Nat.eq_of_beq_eq_true c4
  have e1 := Nat.eq_of_beq_eq_true c5
  have hrd := readCells_some h16
  have htb := readCells_some h14
  have hle4 : g4.le (.row tr.1 tr.2.1 tr.2.2) := by
    rw [Nat.eq_of_beq_eq_true c7, Nat.eq_of_beq_eq_true c8]
    refine ⟨tr.2.1, rfl, fun i hi a ha => ?_⟩
    rw [T.get_ofList, ← h15] at ha
    have := htb.2 i hi
    rw [Nat.zero_add] at this
    rw [this]; exact ha
  rw [Nat.eq_of_beq_eq_true b1, Nat.eq_of_beq_eq_true b2] at h2
  rw [e0] at h7
  rw [Nat.eq_of_beq_eq_true c3, e1] at h10
  have kok : KeysOk mp.1 := fun e he => by
    have := List.all_eq_true.1 d1 e he
    obtain ⟨n, hn⟩ := Option.isSome_iff_exists.1 this
    exact ⟨n, keyN_eq hn⟩
  have hw11 : ∀ n W, lineG S m ls.1 bb ev.1 lr.2.2 ls.2.1 lr.2.1 n = some W → W.length = 11 := fun n W h => by
    exact (lineG_ok hd hle4 h).len
  obtain ⟨hlines, hgf⟩ := setLines_ok hw11 h17 (ndB_ok d2) (fun e h => h) (fun k hk => .inl hk) (fun i => by
    have : ∀ n, setV mp.1 mp.1 n = false := fun n => by unfold setV; cases (keysN mp.1).contains n <;> rfl
    unfold gF
    rw [if_neg (by rw [this]; simp)])
  have hline : ∀ n ∈ keysN mp.1, LineOk S m ls.1 bb ev.1 lr.2.2 ls.2.1 (.row tr.1 tr.2.1 tr.2.2) lr.2.1 n ((lineG S m ls.1 bb ev.1 lr.2.2 ls.2.1 lr.2.1 n).getD []) := fun n hn => by
    obtain ⟨e, he, hk⟩ := mem_keysN.1 hn
    obtain ⟨n', W, hk', hW⟩ := hlines e he
    rw [hk] at hk'
    simp only [AV.i.injEq, true_and] at hk'
    cases hk'
    rw [hW]
    exact lineG_ok hd hle4 hW
  have I : FenceIn S m ls.1 bb ev.1 ls.2.1 ls.2.2.1 lr.1 lr.2.2 ev.2.2 mp.2 ls.2.2.2 mr.2.1 lr.2.1 sp mp.1 L (fun n => (lineG S m ls.1 bb ev.1 lr.2.2 ls.2.1 lr.2.1 n).getD []) (.row tr.1 tr.2.1 tr.2.2) :=
    ⟨hd, h11, h2, h4, h5, h6, h7, h8, c2, h9, ⟨er.2.1, by rw [h10, hrd.1], fun i hi => by rw [hrd.1] at hi; have := hrd.2 i hi; rw [Nat.zero_add] at this; exact this⟩, hrd.1, c6, kok, ndB_ok d2, ndB_ok d3,
      fun e he => blt_true (List.all_eq_true.1 d4 e he), fun n hn => blt_true (List.all_eq_true.1 d5 n hn), hline⟩
  have hr := Option.some.inj h18
  subst hr
  refine (fence0 I).compact (Nat.le_succ _) fun y' S' k => ?_
  obtain ⟨N', h', G', rfl, B, hB, hs⟩ := k
  have G := G'.sub hs
  refine ⟨fun _ => B, fun _ => hB, fun i j h1 h2 _ => ?_, fun ι κ hl kn => ⟨VV.pure rfl, fun β x e => ?_⟩⟩
  · have h1 : S.nxt + i < S.nxt + 1 := h1
    have h2 : S.nxt + j < S.nxt + 1 := h2
    omega
  have hle' : ι.le (reIm ι κ S.nxt (S.nxt + 1) fun _ => B) := reIm_le kn.low
  have hlt : ∀ β x, S.heap.get β = some x → β < S.nxt := fun β x e => by
    rcases Nat.lt_or_ge β S.nxt with q | q
    · exact q
    · rw [G.wf β q] at e; cases e
  have hcl : ∀ a, Cl ι a → VV κ (reIm ι κ S.nxt (S.nxt + 1) fun _ => B) a a := fun a h => .cl h hl hle'
  change (((((S.heap.del ev.1).set m (.row 0 (mr.2.1.set 3 (.sl S.nxt 0 (ev.2.2 + 1) none)) 4)).set ls.1 (.row lr.1 lt' lr.2.2)).set bb (.map [] mp.2)).set S.nxt (.row 15 (setCells E4 er.2.1 (ev.2.2 * 12)) (ev.2.2 * 12 + 12))).get β = some x at e
  rw [T.get_set] at e
  by_cases hβ : β = S.nxt
  · -- the events
    subst hβ
    rw [if_pos rfl] at e; cases e
    refine ⟨Nat.lt_succ_self _, fun h => absurd h (Nat.lt_irrefl _), ?_⟩
    obtain ⟨c, e2, hc⟩ := G.get (B, .row 15 (L ++ E4)) (by simp [E4])
    rw [if_neg (Nat.lt_irrefl _)]
    have hlen : (L ++ E4).length = ev.2.2 * 12 + 12 := by rw [List.length_append, hrd.1]; rfl
    rw [hlen] at e2 hc
    refine ⟨_, e2, .inl ⟨c, rfl, fun i hi a ha => ⟨a, ?_, ?_⟩⟩⟩
    · rw [hc i hi, ← ha, get_setCells]
      by_cases h1 : i < ev.2.2 * 12
      · rw [if_neg (by omega), List.getElem?_append_left (by rw [hrd.1]; exact h1)]
        have := hrd.2 i h1
        rw [Nat.zero_add] at this; exact this.symm
      · rw [if_pos ⟨by omega, hi⟩, List.getElem?_append_right (by rw [hrd.1]; omega), hrd.1]
    · rw [get_setCells] at ha
      split at ha
      · refine .pure ?_
        have hm := List.mem_of_getElem? ha
        simp only [E4, ev12, List.mem_cons, List.not_mem_nil, or_false] at hm
        rcases hm with rfl | rfl | rfl | rfl | rfl | rfl | rfl | rfl | rfl | rfl | rfl | rfl <;> rfl
      · rename_i h1
        exact hcl a (kn.cell ev.1 15 er.2.1 _ i a h10 (by have : E4.length = 12 := rfl; omega) ha)
  rw [if_neg hβ] at e
  rw [T.get_set] at e
  by_cases hbb : β = bb
  · subst hbb
    rw [if_pos rfl] at e; cases e
    have hb := hlt _ _ h9
    refine ⟨by show _ < S.nxt + 1; omega, fun _ => ⟨_, h9⟩, ?_⟩
    rw [if_pos hb]
    have e2 := G.get (β, .blk (.map [] mp.2)) (by simp)
    exact ⟨_, e2, .inl ⟨[], rfl, trivial⟩⟩
  rw [if_neg hbb] at e
  rw [T.get_set] at e
  by_cases hlb : β = ls.1
  · subst hlb
    rw [if_pos rfl] at e; cases e
    have hb := hlt _ _ h8
    refine ⟨by show _ < S.nxt + 1; omega, fun _ => ⟨_, h8⟩, ?_⟩
    rw [if_pos hb]
    obtain ⟨c, e2, hc⟩ := G.get (ls.1, .fn lr.1 lr.2.2 _) (List.mem_cons_of_mem _ (List.mem_cons_self ..))
    refine ⟨_, e2, .inl ⟨c, rfl, fun i hi a ha => ⟨a, by rw [hc i hi, ← hgf i]; exact ha, ?_⟩⟩⟩
    rw [hgf i] at ha
    unfold gF at ha
    split at ha
    · rename_i h1
      have hin : (i - ls.2.1) / 11 ∈ keysN mp.1 := by
        have := h1.2
        unfold setV at this
        rw [Bool.and_eq_true] at this
        exact List.contains_iff_mem.1 this.1
      rcases (hline _ hin).cell (List.mem_of_getElem? ha) with q | ⟨pb, x, rfl, q⟩
      · exact .pure q
      · obtain ⟨M, hM⟩ := kn.dom pb x q
        exact hcl _ ⟨.slice (some ⟨M.b, M.o + 0, none⟩) 0 0, .sl hM (.inr rfl) ⟨rfl, Nat.le_refl _⟩⟩
    · exact hcl a (kn.cell ls.1 lr.1 lr.2.1 _ i a h8 hi ha)
  rw [if_neg hlb] at e
  rw [T.get_set] at e
  by_cases hbm : β = m
  · subst hbm
    rw [if_pos rfl] at e; cases e
    have hb := hlt _ _ h2
    refine ⟨by show _ < S.nxt + 1; omega, fun _ => ⟨_, h2⟩, ?_⟩
    rw [if_pos hb]
    obtain ⟨c, e2, hc⟩ := G.get (β, .row 0 _) (List.mem_cons_self ..)
    refine ⟨_, e2, .inl ⟨c, rfl, fun i hi a ha => ?_⟩⟩
    rw [T.get_set] at ha
    have hc := hc i hi
    by_cases h3i : i = 3
    · subst h3i
      rw [if_pos rfl] at ha; cases ha
      refine ⟨_, hc, .slN ?_⟩
      show (if S.nxt < S.nxt then ι S.nxt else if S.nxt < S.nxt + 1 then κ B else none) = _
      rw [if_neg (Nat.lt_irrefl _), if_pos (Nat.lt_succ_self _)]
    · rw [if_neg h3i] at ha
      refine ⟨a, ?_, hcl a (kn.cell β 0 mr.2.1 4 i a h2 hi ha)⟩
      rw [hc, ← ha]
      match i, hi, h3i with
      | 0, _, _ => exact h4.symm
      | 1, _, _ => exact h5.symm
      | 2, _, _ => exact h6.symm
      | 3, _, h => exact absurd rfl h
  rw [if_neg hbm] at e
  rw [T.get_del] at e
  by_cases hev : β = ev.1
  · rw [if_pos hev] at e; cases e
  rw [if_neg hev] at e
  have hb := hlt _ _ e
  refine ⟨by show _ < S.nxt + 1; omega, fun _ => ⟨x, e⟩, ?_⟩
  rw [if_pos hb]
  refine ⟨x, ?_, .inr ⟨rfl, e⟩⟩
  rw [G.els β hb fun p hp q => ?_]
  · exact e
  · simp only [List.mem_cons, List.not_mem_nil, or_false] at hp
    rcases hp with rfl | rfl | rfl | rfl | rfl
    · exact hbm q.symm
    · exact hlb q.symm
    · exact hbb q.symm
    · exact hev q.symm
    · have : B = β := q; omega
end
end L32
end Go.Ev
namespace Go.Ev
open Go Go.Proofs
namespace L32
set_option maxRecDepth 100000
noncomputable section
/-- whether a state has the table -/
def chk4 (S : St) : Bool := @Option.rec _ (fun _ => Bool) false (fun r : Nat × T AV × Nat => and (and (Nat.beq r.1 2) (Nat.beq r.2.2 64)) (@Option.rec _ (fun _ => Bool) false (fun tb => eqs1 tb tabA) (readCells r.2.1 0 64))) (getRow (S.heap.get 4))
theorem chk4_ok {S : St} (h : chk4 S = true) : ∃ x4, S.heap.get 4 = some x4 ∧ g4.le x4 := by
  unfold chk4 at h
  cases hr : getRow (S.heap.get 4) with
  | none => rw [hr] at h; cases h
  | some r =>
    rw [hr] at h
    change and (and (Nat.beq r.1 2) (Nat.beq r.2.2 64)) (@Option.rec _ (fun _ => Bool) false (fun tb => eqs1 tb tabA) (readCells r.2.1 0 64)) = true at h
    simp only [Bool.and_eq_true] at h
    obtain ⟨⟨h1, h2⟩, h3⟩ := h
    cases hb : readCells r.2.1 0 64 with
    | none => rw [hb] at h3; cases h3
    | some tb =>
      rw [hb] at h3
      have htb := readCells_some hb
      have he := eqs1_eq h3
      refine ⟨_, getRow_eq hr, ?_⟩
      rw [Nat.eq_of_beq_eq_true h1, Nat.eq_of_beq_eq_true h2]
      refine ⟨r.2.1, rfl, fun i hi a ha => ?_⟩
      rw [T.get_ofList, ← he] at ha
      have := htb.2 i hi
      rw [Nat.zero_add] at this
      rw [this]; exact ha
def fAVs {β : Type} (l : List AV) : (List AV → β) → β := @List.rec AV (fun _ => (List AV → β) → β) (fun k => k []) (fun x _ ih k => fAV x fun x => ih fun l => k (x :: l)) l
theorem fAVs_eq {β : Type} : ∀ (l : List AV) (k : List AV → β), fAVs l k = k l
  | [], k => rfl
  | x :: l, k => by show fAV x (fun x => fAVs l fun l => k (x :: l)) = _; rw [fAV_eq, fAVs_eq l]
def fArg {β : Type} (x : AV) (k : AV → β) : β := match x with
  | .ag l => fAVs l fun l => k (.ag l)
  | x => fAV x k
theorem fArg_eq {β : Type} (x : AV) (k : AV → β) : fArg x k = k x := by
  unfold fArg
  split
  · exact fAVs_eq _ _
  · exact fAV_eq _ _
def fArgs {β : Type} (l : List AV) : (List AV → β) → β := @List.rec AV (fun _ => (List AV → β) → β) (fun k => k []) (fun x _ ih k => fArg x fun x => ih fun l => k (x :: l)) l
theorem fArgs_eq {β : Type} : ∀ (l : List AV) (k : List AV → β), fArgs l k = k l
  | [], k => rfl
  | x :: l, k => by show fArg x (fun x => fArgs l fun l => k (x :: l)) = _; rw [fArg_eq, fArgs_eq l]
/-- values that functions yield -/
def fRes {β : Type} (x : AV) (k : AV → β) : β := match x with
  | .tu l => fArgs l fun l => k (.tu l)
  | x => fArg x k
theorem fRes_eq {β : Type} (x : AV) (k : AV → β) : fRes x k = k x := by
  unfold fRes
  split
  · exact fArgs_eq _ _
  · exact fArg_eq _ _
/-- a call's value in the small state -/
def memoV (f : Nat) (args : List AV) : Option AV :=
  (gd (args.all pureA)).bind fun _ => (valOf (evT noU F fuel (.call f args) Sm)).bind fun y => (gd (pureA y)).bind fun _ => fRes y fun y => some y
/-- a call whose value is known from the small state -/
def memoU (f : Nat) (args : List AV) (S : St) : Option (AV × St) :=
  (gd (chk4 S)).bind fun _ => fArgs args fun args => (memoV f args).bind fun y => some (y, S)
theorem memoU_ok {f : Nat} {args : List AV} {S : St} {r : AV × St} (h : memoU f args S = some r) : GCall PP f args S (isV r.1 r.2) := by
  unfold memoU at h
  rw [fArgs_eq] at h
  simp only [memoV, fRes_eq, Option.bind_eq_some_iff] at h
  obtain ⟨_, h1, y', ⟨_, h2, y, h3, _, h4, h5⟩, h6⟩ := h
  cases h5
  cases h6
  obtain ⟨x4, g1, g2⟩ := chk4_ok (gd_eq h1)
  obtain ⟨S2, e⟩ := valOf_eq h3
  exact memo e (gd_eq h2) (gd_eq h4) g1 g2
def memoFs : List Nat := [68, 108, 152]
def UF : Sums := fun f => @Bool.rec (fun _ => Option (List AV → St → Option (AV × St))) (@Bool.rec (fun _ => Option (List AV → St → Option (AV × St))) none (some (memoU f)) (memoFs.any fun g => Nat.beq g f)) (some fenceG) (Nat.beq f 149)
theorem UF_ok : ∀ f g args S r, UF f = some g → g args S = some r → GCall PP f args S (isV r.1 r.2) := fun f g args S r h k => by
  unfold UF at h
  cases hb : Nat.beq f 149 with
  | true =>
    rw [hb] at h
    cases Nat.eq_of_beq_eq_true hb
    cases h
    exact fenceG_ok k
  | false =>
    rw [hb] at h
    cases hm : memoFs.any (fun g => Nat.beq g f) with
    | false => rw [hm] at h; cases h
    | true => rw [hm] at h; cases h; exact memoU_ok k
theorem evF_ok : ∀ n, EvOk PP (evT UF F n) := fun n => by rw [evT_eq]; exact ev_ok hm HF UF_ok n
end
end L32
end Go.Ev
