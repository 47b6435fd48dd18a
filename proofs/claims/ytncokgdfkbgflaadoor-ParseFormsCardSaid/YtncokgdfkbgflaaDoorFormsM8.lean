/- Texts of this claim, joined: what the others lean on. -/
import Derived.Test.YtncokgdfkbgflaaDoorFormsM4
import Derived.Test.YtncokgdfkbgflaaDoorFormsM7
import Derived.Test.YtncokgdfkbgflaaDoorFormsM6
set_option linter.unusedVariables false
set_option linter.unusedSimpArgs false
namespace Go.Proofs.YtncokgdfkbgflaaDoor.P
open Go.RowKit Go.Proofs.YtncokgdfkbgflaaDoorW.PrintWords Go.Proofs.YtncokgdfkbgflaaDoorW.PrintLast Go.Proofs.YtncokgdfkbgflaaDoorW.PrintMore
attribute [local go_sem] max2_int min2_int max_two min_two max_three min_three max_four min_four   -- for this text's walks alone
set_option linter.unusedVariables false
set_option linter.unusedSimpArgs false
def shelfmarklaw11_ParseForms.f (k : Nat) (a0 : Int) : Option (Bool) := (shelfmarkref10_Str.f k (⟨#[110, 105, 120, 45, 97, 114, 99, 104, 105, 118, 101, 45, 49]⟩ : ByteArray)).bind fun t210 => ((shelfmarkref10_Str.f k (⟨#[40]⟩ : ByteArray)).bind fun t211 => (if t210.size + t211.size ≤ 9223372036854775807 then ((shelfmarkref10_Str.f k (⟨#[116, 121, 112, 101]⟩ : ByteArray)).bind fun t212 => (if (t210 ++ t211).size + t212.size ≤ 9223372036854775807 then ((shelfmarkref10_Str.f k (⟨#[40]⟩ : ByteArray)).bind fun t213 => ((shelfmarkref10_Str.f k (⟨#[116, 121, 112, 101]⟩ : ByteArray)).bind fun t214 => (if t213.size + t214.size ≤ 9223372036854775807 then ((shelfmarkref10_Str.f k (⟨#[114, 101, 103, 117, 108, 97, 114]⟩ : ByteArray)).bind fun t215 => (if (t213 ++ t214).size + t215.size ≤ 9223372036854775807 then ((shelfmarkref10_Str.f k (⟨#[99, 111, 110, 116, 101, 110, 116, 115]⟩ : ByteArray)).bind fun t216 => (if ((t213 ++ t214) ++ t215).size + t216.size ≤ 9223372036854775807 then ((shelfmarkref10_Str.f k (⟨#[]⟩ : ByteArray)).bind fun t217 => (if (((t213 ++ t214) ++ t215) ++ t216).size + t217.size ≤ 9223372036854775807 then ((shelfmarkref10_Str.f k (⟨#[41]⟩ : ByteArray)).bind fun t218 => (if ((((t213 ++ t214) ++ t215) ++ t216) ++ t217).size + t218.size ≤ 9223372036854775807 then ((shelfmarkref10_Str.f k (⟨#[101, 110, 116, 114, 121]⟩ : ByteArray)).bind fun t219 => ((shelfmarkref10_Str.f k (⟨#[40]⟩ : ByteArray)).bind fun t220 => (if t219.size + t220.size ≤ 9223372036854775807 then ((shelfmarkref10_Str.f k (⟨#[110, 97, 109, 101]⟩ : ByteArray)).bind fun t221 => (if (t219 ++ t220).size + t221.size ≤ 9223372036854775807 then ((shelfmarkref10_Str.f k (⟨#[97]⟩ : ByteArray)).bind fun t222 => (if ((t219 ++ t220) ++ t221).size + t222.size ≤ 9223372036854775807 then ((shelfmarkref10_Str.f k (⟨#[110, 111, 100, 101]⟩ : ByteArray)).bind fun t223 => (if (((t219 ++ t220) ++ t221) ++ t222).size + t223.size ≤ 9223372036854775807 then (if ((((t219 ++ t220) ++ t221) ++ t222) ++ t223).size + (((((t213 ++ t214) ++ t215) ++ t216) ++ t217) ++ t218).size ≤ 9223372036854775807 then ((shelfmarkref10_Str.f k (⟨#[41]⟩ : ByteArray)).bind fun t224 => (if (((((t219 ++ t220) ++ t221) ++ t222) ++ t223) ++ (((((t213 ++ t214) ++ t215) ++ t216) ++ t217) ++ t218)).size + t224.size ≤ 9223372036854775807 then ((shelfmarkref10_Str.f k (⟨#[111, 116, 104, 101, 114]⟩ : ByteArray)).bind fun t225 => (if ((t210 ++ t211) ++ t212).size + t225.size ≤ 9223372036854775807 then ((shelfmarkref10_Str.f k (⟨#[115, 121, 109, 108, 105, 110, 107]⟩ : ByteArray)).bind fun t226 => (if ((t210 ++ t211) ++ t212).size + t226.size ≤ 9223372036854775807 then ((shelfmarkref10_Str.f k (⟨#[116, 97, 114, 103, 101, 116]⟩ : ByteArray)).bind fun t227 => (if (((t210 ++ t211) ++ t212) ++ t226).size + t227.size ≤ 9223372036854775807 then ((shelfmarkref10_Str.f k (⟨#[]⟩ : ByteArray)).bind fun t228 => (if ((((t210 ++ t211) ++ t212) ++ t226) ++ t227).size + t228.size ≤ 9223372036854775807 then ((shelfmarkref10_Str.f k (⟨#[41]⟩ : ByteArray)).bind fun t229 => (if (((((t210 ++ t211) ++ t212) ++ t226) ++ t227) ++ t228).size + t229.size ≤ 9223372036854775807 then ((shelfmarkref10_Str.f k (⟨#[114, 101, 103, 117, 108, 97, 114]⟩ : ByteArray)).bind fun t230 => (if ((t210 ++ t211) ++ t212).size + t230.size ≤ 9223372036854775807 then ((shelfmarkref10_Str.f k (⟨#[101, 120, 101, 99, 117, 116, 97, 98, 108, 101]⟩ : ByteArray)).bind fun t231 => (if (((t210 ++ t211) ++ t212) ++ t230).size + t231.size ≤ 9223372036854775807 then ((shelfmarkref10_Str.f k (⟨#[120]⟩ : ByteArray)).bind fun t232 => (if ((((t210 ++ t211) ++ t212) ++ t230) ++ t231).size + t232.size ≤ 9223372036854775807 then ((shelfmarkref10_Str.f k (⟨#[100, 105, 114, 101, 99, 116, 111, 114, 121]⟩ : ByteArray)).bind fun t233 => (if ((t210 ++ t211) ++ t212).size + t233.size ≤ 9223372036854775807 then (if (((t210 ++ t211) ++ t212) ++ t233).size + ((((((t219 ++ t220) ++ t221) ++ t222) ++ t223) ++ (((((t213 ++ t214) ++ t215) ++ t216) ++ t217) ++ t218)) ++ t224).size ≤ 9223372036854775807 then (if ((((t210 ++ t211) ++ t212) ++ t233) ++ ((((((t219 ++ t220) ++ t221) ++ t222) ++ t223) ++ (((((t213 ++ t214) ++ t215) ++ t216) ++ t217) ++ t218)) ++ t224)).size + ((((((t219 ++ t220) ++ t221) ++ t222) ++ t223) ++ (((((t213 ++ t214) ++ t215) ++ t216) ++ t217) ++ t218)) ++ t224).size ≤ 9223372036854775807 then ((shelfmarkref10_Str.f k (⟨#[100, 105, 114, 101, 99, 116, 111, 114, 121]⟩ : ByteArray)).bind fun t234 => (if ((t210 ++ t211) ++ t212).size + t234.size ≤ 9223372036854775807 then ((shelfmarkref10_Str.f k (⟨#[101, 110, 116, 114, 121]⟩ : ByteArray)).bind fun t235 => (if (((t210 ++ t211) ++ t212) ++ t234).size + t235.size ≤ 9223372036854775807 then ((shelfmarkref10_Str.f k (⟨#[40]⟩ : ByteArray)).bind fun t236 => (if ((((t210 ++ t211) ++ t212) ++ t234) ++ t235).size + t236.size ≤ 9223372036854775807 then ((shelfmarkref10_Str.f k (⟨#[110, 97, 109, 101]⟩ : ByteArray)).bind fun t237 => (if (((((t210 ++ t211) ++ t212) ++ t234) ++ t235) ++ t236).size + t237.size ≤ 9223372036854775807 then ((shelfmarkref10_Str.f k (⟨#[46, 46]⟩ : ByteArray)).bind fun t238 => (if ((((((t210 ++ t211) ++ t212) ++ t234) ++ t235) ++ t236) ++ t237).size + t238.size ≤ 9223372036854775807 then ((shelfmarkref10_Str.f k (⟨#[114, 101, 103, 117, 108, 97, 114]⟩ : ByteArray)).bind fun t239 => (if ((t210 ++ t211) ++ t212).size + t239.size ≤ 9223372036854775807 then ((shelfmarkref10_Str.f k (⟨#[99, 111, 110, 116, 101, 110, 116, 115]⟩ : ByteArray)).bind fun t240 => (if (((t210 ++ t211) ++ t212) ++ t239).size + t240.size ≤ 9223372036854775807 then ((shelfmarkref10_Str.f k (⟨#[120]⟩ : ByteArray)).bind fun t241 => (if 0 ≤ 9 then (if 9 ≤ (t241.size : Int) then (if ((((t210 ++ t211) ++ t212) ++ t239) ++ t240).size + (t241.extract 0 9).size ≤ 9223372036854775807 then (if (((((t210 ++ t211) ++ t212) ++ t239) ++ t240) ++ (t241.extract 0 9)).size + 7 ≤ 9223372036854775807 then ((shelfmarkref10_Word.f k 14).bind fun t242 => ((shelfmarkref10_Str.f k (⟨#[110, 105, 120, 45, 97, 114, 99, 104, 105, 118, 101, 45, 50]⟩ : ByteArray)).bind fun t243 => ((shelfmarkref10_Str.f k (⟨#[114, 101, 103, 117, 108, 97, 114]⟩ : ByteArray)).bind fun t244 => (if ((t210 ++ t211) ++ t212).size + t244.size ≤ 9223372036854775807 then ((shelfmarkref10_Str.f k (⟨#[41]⟩ : ByteArray)).bind fun t245 => (if (((t210 ++ t211) ++ t212) ++ t244).size + t245.size ≤ 9223372036854775807 then ((shelfmarkref10_Str.f k (⟨#[100, 105, 114, 101, 99, 116, 111, 114, 121]⟩ : ByteArray)).bind fun t246 => (if ((t210 ++ t211) ++ t212).size + t246.size ≤ 9223372036854775807 then (if (((t210 ++ t211) ++ t212) ++ t246).size + ((((((t219 ++ t220) ++ t221) ++ t222) ++ t223) ++ (((((t213 ++ t214) ++ t215) ++ t216) ++ t217) ++ t218)) ++ t224).size ≤ 9223372036854775807 then ((shelfmarkref10_Str.f k (⟨#[41]⟩ : ByteArray)).bind fun t247 => (if ((((t210 ++ t211) ++ t212) ++ t246) ++ ((((((t219 ++ t220) ++ t221) ++ t222) ++ t223) ++ (((((t213 ++ t214) ++ t215) ++ t216) ++ t217) ++ t218)) ++ t224)).size + t247.size ≤ 9223372036854775807 then ((shelfmarkref10_Str.f k (⟨#[41]⟩ : ByteArray)).bind fun t248 => (if (((((t210 ++ t211) ++ t212) ++ t246) ++ ((((((t219 ++ t220) ++ t221) ++ t222) ++ t223) ++ (((((t213 ++ t214) ++ t215) ++ t216) ++ t217) ++ t218)) ++ t224)) ++ t247).size + t248.size ≤ 9223372036854775807 then ((some (([((t210 ++ t211) ++ t212) ++ t225, (((((t210 ++ t211) ++ t212) ++ t226) ++ t227) ++ t228) ++ t229, ((((t210 ++ t211) ++ t212) ++ t230) ++ t231) ++ t232, ((((t210 ++ t211) ++ t212) ++ t233) ++ ((((((t219 ++ t220) ++ t221) ++ t222) ++ t223) ++ (((((t213 ++ t214) ++ t215) ++ t216) ++ t217) ++ t218)) ++ t224)) ++ ((((((t219 ++ t220) ++ t221) ++ t222) ++ t223) ++ (((((t213 ++ t214) ++ t215) ++ t216) ++ t217) ++ t218)) ++ t224), ((((((t210 ++ t211) ++ t212) ++ t234) ++ t235) ++ t236) ++ t237) ++ t238, (((((t210 ++ t211) ++ t212) ++ t239) ++ t240) ++ (t241.extract 0 9)) ++ (⟨#[49, 50, 51, 52, 53, 54, 55]⟩ : ByteArray), t242, t243, (((t210 ++ t211) ++ t212) ++ t244) ++ t245, (((((t210 ++ t211) ++ t212) ++ t246) ++ ((((((t219 ++ t220) ++ t221) ++ t222) ++ t223) ++ (((((t213 ++ t214) ++ t215) ++ t216) ++ t217) ++ t218)) ++ t224)) ++ t247) ++ t248] : List ByteArray) : List ByteArray)).bind fun y249 => (if (y249.length : Int) = 0 then (none) else (if 0 ≤ (Int.tmod (wrap64 (a0)) (y249.length : Int)) then (if (Int.tmod (wrap64 (a0)) (y249.length : Int)) < (y249.length : Int) then ((parse_Get.f (rdOf ByteArray.empty y249 (Int.tmod (wrap64 (a0)) (y249.length : Int)))).bind fun bt253 => (if (rdOf ByteArray.empty y249 (Int.tmod (wrap64 (a0)) (y249.length : Int))).size + 4 ≤ 9223372036854775807 then ((parse_Get.f ((rdOf ByteArray.empty y249 (Int.tmod (wrap64 (a0)) (y249.length : Int))) ++ (⟨#[109, 111, 114, 101]⟩ : ByteArray))).bind fun bt258 => ((shelfmarklaw1_Err.f bt253.2).bind fun t262 => (if t262 = 4 then ((shelfmarklaw1_Err.f bt258.2).bind fun t263 => (if t263 = 4 then ((shelfmarklaw11_awake.f k).bind fun t264 => (some t264)) else (some false))) else (some false)))) else (none))) else (none)) else (none)))) else (none))) else (none))) else (none)) else (none))) else (none))) else (none))))) else (none)) else (none)) else (none)) else (none))) else (none))) else (none))) else (none))) else (none))) else (none))) else (none))) else (none))) else (none)) else (none)) else (none))) else (none))) else (none))) else (none))) else (none))) else (none))) else (none))) else (none))) else (none))) else (none))) else (none)) else (none))) else (none))) else (none))) else (none)))) else (none))) else (none))) else (none))) else (none))) else (none)))) else (none))) else (none)))
def shelfmarklaw11_ParseForms.T4 : Bool × List (List Nat × List Nat) := (true, [([], []), ([], []), ([0, 1], [0, 1]), ([], []), ([1], []), ([3, 4], [3, 4]), ([4], []), ([5, 6], [5, 6]), ([6], []), ([7, 8], [7, 8]), ([8], []), ([9, 10], [9, 10]), ([], []), ([10], []), ([12, 13], [12, 13]), ([13], []), ([14, 15], [14, 15]), ([15], []), ([16, 17], [16, 17]), ([], []), ([17], []), ([19, 20], [19, 20]), ([], []), ([21, 22], [21, 22]), ([], []), ([23, 24], [23, 24]), ([], []), ([20], []), ([26, 27], [26, 27]), ([27], []), ([28, 29], [28, 29]), ([29], []), ([30, 31], [30, 31]), ([31], []), ([32, 33], [32, 33]), ([33], []), ([34, 35], [34, 35]), ([], []), ([35], []), ([37, 38], [37, 38]), ([38], []), ([39, 40], [39, 40]), ([40], []), ([42], [42]), ([41, 43], [41, 43]), ([44], [44]), ([42], []), ([46], []), ([], []), ([47], []), ([48, 49], [48, 49]), ([49], []), ([50, 51], [50, 51]), ([], []), ([51], []), ([53, 54], [53, 54]), ([], []), ([55, 56], [55, 56]), ([54], []), ([57, 58], [57, 58]), ([58], []), ([59, 60], [59, 60]), ([2, 11, 18, 25, 36, 45, 46, 47, 52, 61], [2, 11, 18, 25, 36, 45, 46, 47, 52, 61]), ([62, 60, 0, 1, 2, 3, 4, 5, 6, 7, 8, 9, 10, 11, 12, 13, 14, 15, 16, 17, 18, 19, 20, 21, 22, 23, 24, 25, 26, 27, 28, 29, 30, 31, 32, 33, 34, 35, 36, 37, 38, 39, 40, 41, 42, 43, 44, 45, 46, 47, 48, 49, 50, 51, 52, 53, 54, 55, 56, 57, 58, 59, 60, 61, 62], [62])])
def shelfmarklaw11_ParseForms.B4 : List Nat := [0, 0, 3, 0, 2, 26, 18, 122, 82, 506, 338, 2042, 0, 1362, 13650, 9554, 62802, 42322, 259410, 0, 173394, 1746258, 0, 8037714, 0, 33203538, 0, 1221970, 202548562, 135439698, 1007854930, 672310610, 4229080402, 2819794258, 17113982290, 11409728850, 68653589842, 0, 45769467218, 458086327634, 320647374162, 2107353769298, 1420159001938, 5818205513042, 17500516558162, 35092702602578, 5818205513042, 76186949690706, 0, 216924438046034, 1061349368178002, 779874391467346, 4439049088705874, 0, 3031674205152594, 30053271969375570, 0, 138139663026267474, 21046072714634578, 570485227253835090, 309276448866346322, 2299867484164105554, 4611686018427387903, 9223372036854775807]
theorem shelfmarklaw11_ParseForms.tab4 : rtab .any (opsOf Tryd.f6 4) = shelfmarklaw11_ParseForms.T4 := by kernel_rfl
theorem shelfmarklaw11_ParseForms.bits4 : waitsOk shelfmarklaw11_ParseForms.T4.2 shelfmarklaw11_ParseForms.B4 = true := by kernel_rfl
set_option maxHeartbeats 8000000 in
set_option maxRecDepth 100000 in
theorem shelfmarklaw11_ParseForms.calls (k : Nat) (a0 : Int) (r : Bool) (w : World) (h : shelfmarklaw11_ParseForms.f k a0 = some r) (hr : r = true := by rfl) :
    Calls Tryd.prog 6 #[.int .u8 a0] w fun e w' => e = .returned (.bool r) ∧ Below w.heap.size w w' := by
  have HB := Aside0.mk (Below.refl w.heap.size w)
  have H : ((shelfmarkref10_Str.f k (⟨#[110, 105, 120, 45, 97, 114, 99, 104, 105, 118, 101, 45, 49]⟩ : ByteArray)).bind fun t210 => ((shelfmarkref10_Str.f k (⟨#[40]⟩ : ByteArray)).bind fun t211 => (if t210.size + t211.size ≤ 9223372036854775807 then ((shelfmarkref10_Str.f k (⟨#[116, 121, 112, 101]⟩ : ByteArray)).bind fun t212 => (if (t210 ++ t211).size + t212.size ≤ 9223372036854775807 then ((shelfmarkref10_Str.f k (⟨#[40]⟩ : ByteArray)).bind fun t213 => ((shelfmarkref10_Str.f k (⟨#[116, 121, 112, 101]⟩ : ByteArray)).bind fun t214 => (if t213.size + t214.size ≤ 9223372036854775807 then ((shelfmarkref10_Str.f k (⟨#[114, 101, 103, 117, 108, 97, 114]⟩ : ByteArray)).bind fun t215 => (if (t213 ++ t214).size + t215.size ≤ 9223372036854775807 then ((shelfmarkref10_Str.f k (⟨#[99, 111, 110, 116, 101, 110, 116, 115]⟩ : ByteArray)).bind fun t216 => (if ((t213 ++ t214) ++ t215).size + t216.size ≤ 9223372036854775807 then ((shelfmarkref10_Str.f k (⟨#[]⟩ : ByteArray)).bind fun t217 => (if (((t213 ++ t214) ++ t215) ++ t216).size + t217.size ≤ 9223372036854775807 then ((shelfmarkref10_Str.f k (⟨#[41]⟩ : ByteArray)).bind fun t218 => (if ((((t213 ++ t214) ++ t215) ++ t216) ++ t217).size + t218.size ≤ 9223372036854775807 then ((shelfmarkref10_Str.f k (⟨#[101, 110, 116, 114, 121]⟩ : ByteArray)).bind fun t219 => ((shelfmarkref10_Str.f k (⟨#[40]⟩ : ByteArray)).bind fun t220 => (if t219.size + t220.size ≤ 9223372036854775807 then ((shelfmarkref10_Str.f k (⟨#[110, 97, 109, 101]⟩ : ByteArray)).bind fun t221 => (if (t219 ++ t220).size + t221.size ≤ 9223372036854775807 then ((shelfmarkref10_Str.f k (⟨#[97]⟩ : ByteArray)).bind fun t222 => (if ((t219 ++ t220) ++ t221).size + t222.size ≤ 9223372036854775807 then ((shelfmarkref10_Str.f k (⟨#[110, 111, 100, 101]⟩ : ByteArray)).bind fun t223 => (if (((t219 ++ t220) ++ t221) ++ t222).size + t223.size ≤ 9223372036854775807 then (if ((((t219 ++ t220) ++ t221) ++ t222) ++ t223).size + (((((t213 ++ t214) ++ t215) ++ t216) ++ t217) ++ t218).size ≤ 9223372036854775807 then ((shelfmarkref10_Str.f k (⟨#[41]⟩ : ByteArray)).bind fun t224 => (if (((((t219 ++ t220) ++ t221) ++ t222) ++ t223) ++ (((((t213 ++ t214) ++ t215) ++ t216) ++ t217) ++ t218)).size + t224.size ≤ 9223372036854775807 then ((shelfmarkref10_Str.f k (⟨#[111, 116, 104, 101, 114]⟩ : ByteArray)).bind fun t225 => (if ((t210 ++ t211) ++ t212).size + t225.size ≤ 9223372036854775807 then ((shelfmarkref10_Str.f k (⟨#[115, 121, 109, 108, 105, 110, 107]⟩ : ByteArray)).bind fun t226 => (if ((t210 ++ t211) ++ t212).size + t226.size ≤ 9223372036854775807 then ((shelfmarkref10_Str.f k (⟨#[116, 97, 114, 103, 101, 116]⟩ : ByteArray)).bind fun t227 => (if (((t210 ++ t211) ++ t212) ++ t226).size + t227.size ≤ 9223372036854775807 then ((shelfmarkref10_Str.f k (⟨#[]⟩ : ByteArray)).bind fun t228 => (if ((((t210 ++ t211) ++ t212) ++ t226) ++ t227).size + t228.size ≤ 9223372036854775807 then ((shelfmarkref10_Str.f k (⟨#[41]⟩ : ByteArray)).bind fun t229 => (if (((((t210 ++ t211) ++ t212) ++ t226) ++ t227) ++ t228).size + t229.size ≤ 9223372036854775807 then ((shelfmarkref10_Str.f k (⟨#[114, 101, 103, 117, 108, 97, 114]⟩ : ByteArray)).bind fun t230 => (if ((t210 ++ t211) ++ t212).size + t230.size ≤ 9223372036854775807 then ((shelfmarkref10_Str.f k (⟨#[101, 120, 101, 99, 117, 116, 97, 98, 108, 101]⟩ : ByteArray)).bind fun t231 => (if (((t210 ++ t211) ++ t212) ++ t230).size + t231.size ≤ 9223372036854775807 then ((shelfmarkref10_Str.f k (⟨#[120]⟩ : ByteArray)).bind fun t232 => (if ((((t210 ++ t211) ++ t212) ++ t230) ++ t231).size + t232.size ≤ 9223372036854775807 then ((shelfmarkref10_Str.f k (⟨#[100, 105, 114, 101, 99, 116, 111, 114, 121]⟩ : ByteArray)).bind fun t233 => (if ((t210 ++ t211) ++ t212).size + t233.size ≤ 9223372036854775807 then (if (((t210 ++ t211) ++ t212) ++ t233).size + ((((((t219 ++ t220) ++ t221) ++ t222) ++ t223) ++ (((((t213 ++ t214) ++ t215) ++ t216) ++ t217) ++ t218)) ++ t224).size ≤ 9223372036854775807 then (if ((((t210 ++ t211) ++ t212) ++ t233) ++ ((((((t219 ++ t220) ++ t221) ++ t222) ++ t223) ++ (((((t213 ++ t214) ++ t215) ++ t216) ++ t217) ++ t218)) ++ t224)).size + ((((((t219 ++ t220) ++ t221) ++ t222) ++ t223) ++ (((((t213 ++ t214) ++ t215) ++ t216) ++ t217) ++ t218)) ++ t224).size ≤ 9223372036854775807 then ((shelfmarkref10_Str.f k (⟨#[100, 105, 114, 101, 99, 116, 111, 114, 121]⟩ : ByteArray)).bind fun t234 => (if ((t210 ++ t211) ++ t212).size + t234.size ≤ 9223372036854775807 then ((shelfmarkref10_Str.f k (⟨#[101, 110, 116, 114, 121]⟩ : ByteArray)).bind fun t235 => (if (((t210 ++ t211) ++ t212) ++ t234).size + t235.size ≤ 9223372036854775807 then ((shelfmarkref10_Str.f k (⟨#[40]⟩ : ByteArray)).bind fun t236 => (if ((((t210 ++ t211) ++ t212) ++ t234) ++ t235).size + t236.size ≤ 9223372036854775807 then ((shelfmarkref10_Str.f k (⟨#[110, 97, 109, 101]⟩ : ByteArray)).bind fun t237 => (if (((((t210 ++ t211) ++ t212) ++ t234) ++ t235) ++ t236).size + t237.size ≤ 9223372036854775807 then ((shelfmarkref10_Str.f k (⟨#[46, 46]⟩ : ByteArray)).bind fun t238 => (if ((((((t210 ++ t211) ++ t212) ++ t234) ++ t235) ++ t236) ++ t237).size + t238.size ≤ 9223372036854775807 then ((shelfmarkref10_Str.f k (⟨#[114, 101, 103, 117, 108, 97, 114]⟩ : ByteArray)).bind fun t239 => (if ((t210 ++ t211) ++ t212).size + t239.size ≤ 9223372036854775807 then ((shelfmarkref10_Str.f k (⟨#[99, 111, 110, 116, 101, 110, 116, 115]⟩ : ByteArray)).bind fun t240 => (if (((t210 ++ t211) ++ t212) ++ t239).size + t240.size ≤ 9223372036854775807 then ((shelfmarkref10_Str.f k (⟨#[120]⟩ : ByteArray)).bind fun t241 => (if 0 ≤ 9 then (if 9 ≤ (t241.size : Int) then (if ((((t210 ++ t211) ++ t212) ++ t239) ++ t240).size + (t241.extract 0 9).size ≤ 9223372036854775807 then (if (((((t210 ++ t211) ++ t212) ++ t239) ++ t240) ++ (t241.extract 0 9)).size + 7 ≤ 9223372036854775807 then ((shelfmarkref10_Word.f k 14).bind fun t242 => ((shelfmarkref10_Str.f k (⟨#[110, 105, 120, 45, 97, 114, 99, 104, 105, 118, 101, 45, 50]⟩ : ByteArray)).bind fun t243 => ((shelfmarkref10_Str.f k (⟨#[114, 101, 103, 117, 108, 97, 114]⟩ : ByteArray)).bind fun t244 => (if ((t210 ++ t211) ++ t212).size + t244.size ≤ 9223372036854775807 then ((shelfmarkref10_Str.f k (⟨#[41]⟩ : ByteArray)).bind fun t245 => (if (((t210 ++ t211) ++ t212) ++ t244).size + t245.size ≤ 9223372036854775807 then ((shelfmarkref10_Str.f k (⟨#[100, 105, 114, 101, 99, 116, 111, 114, 121]⟩ : ByteArray)).bind fun t246 => (if ((t210 ++ t211) ++ t212).size + t246.size ≤ 9223372036854775807 then (if (((t210 ++ t211) ++ t212) ++ t246).size + ((((((t219 ++ t220) ++ t221) ++ t222) ++ t223) ++ (((((t213 ++ t214) ++ t215) ++ t216) ++ t217) ++ t218)) ++ t224).size ≤ 9223372036854775807 then ((shelfmarkref10_Str.f k (⟨#[41]⟩ : ByteArray)).bind fun t247 => (if ((((t210 ++ t211) ++ t212) ++ t246) ++ ((((((t219 ++ t220) ++ t221) ++ t222) ++ t223) ++ (((((t213 ++ t214) ++ t215) ++ t216) ++ t217) ++ t218)) ++ t224)).size + t247.size ≤ 9223372036854775807 then ((shelfmarkref10_Str.f k (⟨#[41]⟩ : ByteArray)).bind fun t248 => (if (((((t210 ++ t211) ++ t212) ++ t246) ++ ((((((t219 ++ t220) ++ t221) ++ t222) ++ t223) ++ (((((t213 ++ t214) ++ t215) ++ t216) ++ t217) ++ t218)) ++ t224)) ++ t247).size + t248.size ≤ 9223372036854775807 then ((some (([((t210 ++ t211) ++ t212) ++ t225, (((((t210 ++ t211) ++ t212) ++ t226) ++ t227) ++ t228) ++ t229, ((((t210 ++ t211) ++ t212) ++ t230) ++ t231) ++ t232, ((((t210 ++ t211) ++ t212) ++ t233) ++ ((((((t219 ++ t220) ++ t221) ++ t222) ++ t223) ++ (((((t213 ++ t214) ++ t215) ++ t216) ++ t217) ++ t218)) ++ t224)) ++ ((((((t219 ++ t220) ++ t221) ++ t222) ++ t223) ++ (((((t213 ++ t214) ++ t215) ++ t216) ++ t217) ++ t218)) ++ t224), ((((((t210 ++ t211) ++ t212) ++ t234) ++ t235) ++ t236) ++ t237) ++ t238, (((((t210 ++ t211) ++ t212) ++ t239) ++ t240) ++ (t241.extract 0 9)) ++ (⟨#[49, 50, 51, 52, 53, 54, 55]⟩ : ByteArray), t242, t243, (((t210 ++ t211) ++ t212) ++ t244) ++ t245, (((((t210 ++ t211) ++ t212) ++ t246) ++ ((((((t219 ++ t220) ++ t221) ++ t222) ++ t223) ++ (((((t213 ++ t214) ++ t215) ++ t216) ++ t217) ++ t218)) ++ t224)) ++ t247) ++ t248] : List ByteArray) : List ByteArray)).bind fun y249 => (if (y249.length : Int) = 0 then (none) else (if 0 ≤ (Int.tmod (wrap64 (a0)) (y249.length : Int)) then (if (Int.tmod (wrap64 (a0)) (y249.length : Int)) < (y249.length : Int) then ((parse_Get.f (rdOf ByteArray.empty y249 (Int.tmod (wrap64 (a0)) (y249.length : Int)))).bind fun bt253 => (if (rdOf ByteArray.empty y249 (Int.tmod (wrap64 (a0)) (y249.length : Int))).size + 4 ≤ 9223372036854775807 then ((parse_Get.f ((rdOf ByteArray.empty y249 (Int.tmod (wrap64 (a0)) (y249.length : Int))) ++ (⟨#[109, 111, 114, 101]⟩ : ByteArray))).bind fun bt258 => ((shelfmarklaw1_Err.f bt253.2).bind fun t262 => (if t262 = 4 then ((shelfmarklaw1_Err.f bt258.2).bind fun t263 => (if t263 = 4 then ((shelfmarklaw11_awake.f k).bind fun t264 => (some t264)) else (some false))) else (some false)))) else (none))) else (none)) else (none)))) else (none))) else (none))) else (none)) else (none))) else (none))) else (none))))) else (none)) else (none)) else (none)) else (none))) else (none))) else (none))) else (none))) else (none))) else (none))) else (none))) else (none))) else (none)) else (none)) else (none))) else (none))) else (none))) else (none))) else (none))) else (none))) else (none))) else (none))) else (none))) else (none))) else (none)) else (none))) else (none))) else (none))) else (none)))) else (none))) else (none))) else (none))) else (none))) else (none)))) else (none))) else (none)))) = some r := h
  clear h
  replace H := Option.bind_eq_some_iff.mp H
  obtain ⟨t210, A20, H⟩ := H
  (try dsimp only at H)
  have A2 := Aside0.mk A20
  clear A20
  replace H := Option.bind_eq_some_iff.mp H
  obtain ⟨t211, A30, H⟩ := H
  (try dsimp only at H)
  have A3 := Aside0.mk A30
  clear A30
  by_cases c4 : t210.size + t211.size ≤ 9223372036854775807
  · rw [if_pos c4] at H
    have c4b0 := eq_true c4
    have c4b1 : decide (t210.size + t211.size ≤ 9223372036854775807) = true := decide_eq_true c4
    try have c4b2 : (9223372036854775807 < t210.size + t211.size) = False := eq_false (Nat.not_lt.2 c4)
    replace H := Option.bind_eq_some_iff.mp H
    obtain ⟨t212, A50, H⟩ := H
    (try dsimp only at H)
    have A5 := Aside0.mk A50
    clear A50
    by_cases c6 : (t210 ++ t211).size + t212.size ≤ 9223372036854775807
    · rw [if_pos c6] at H
      have c6b0 := eq_true c6
      have c6b1 : decide ((t210 ++ t211).size + t212.size ≤ 9223372036854775807) = true := decide_eq_true c6
      try have c6b2 : (9223372036854775807 < (t210 ++ t211).size + t212.size) = False := eq_false (Nat.not_lt.2 c6)
      (try (have c6b2_l := c6b2; simp only [ByteArray.size_append] at c6b2_l))
      replace H := Option.bind_eq_some_iff.mp H
      obtain ⟨t213, A70, H⟩ := H
      (try dsimp only at H)
      have A7 := Aside0.mk A70
      clear A70
      replace H := Option.bind_eq_some_iff.mp H
      obtain ⟨t214, A80, H⟩ := H
      (try dsimp only at H)
      have A8 := Aside0.mk A80
      clear A80
      by_cases c9 : t213.size + t214.size ≤ 9223372036854775807
      · rw [if_pos c9] at H
        have c9b0 := eq_true c9
        have c9b1 : decide (t213.size + t214.size ≤ 9223372036854775807) = true := decide_eq_true c9
        try have c9b2 : (9223372036854775807 < t213.size + t214.size) = False := eq_false (Nat.not_lt.2 c9)
        replace H := Option.bind_eq_some_iff.mp H
        obtain ⟨t215, A100, H⟩ := H
        (try dsimp only at H)
        have A10 := Aside0.mk A100
        clear A100
        by_cases c11 : (t213 ++ t214).size + t215.size ≤ 9223372036854775807
        · rw [if_pos c11] at H
          have c11b0 := eq_true c11
          have c11b1 : decide ((t213 ++ t214).size + t215.size ≤ 9223372036854775807) = true := decide_eq_true c11
          try have c11b2 : (9223372036854775807 < (t213 ++ t214).size + t215.size) = False := eq_false (Nat.not_lt.2 c11)
          (try (have c11b2_l := c11b2; simp only [ByteArray.size_append] at c11b2_l))
          replace H := Option.bind_eq_some_iff.mp H
          obtain ⟨t216, A120, H⟩ := H
          (try dsimp only at H)
          have A12 := Aside0.mk A120
          clear A120
          by_cases c13 : ((t213 ++ t214) ++ t215).size + t216.size ≤ 9223372036854775807
          · rw [if_pos c13] at H
            have c13b0 := eq_true c13
            have c13b1 : decide (((t213 ++ t214) ++ t215).size + t216.size ≤ 9223372036854775807) = true := decide_eq_true c13
            try have c13b2 : (9223372036854775807 < ((t213 ++ t214) ++ t215).size + t216.size) = False := eq_false (Nat.not_lt.2 c13)
            (try (have c13b2_l := c13b2; simp only [ByteArray.size_append] at c13b2_l))
            replace H := Option.bind_eq_some_iff.mp H
            obtain ⟨t217, A140, H⟩ := H
            (try dsimp only at H)
            have A14 := Aside0.mk A140
            clear A140
            by_cases c15 : (((t213 ++ t214) ++ t215) ++ t216).size + t217.size ≤ 9223372036854775807
            · rw [if_pos c15] at H
              have c15b0 := eq_true c15
              have c15b1 : decide ((((t213 ++ t214) ++ t215) ++ t216).size + t217.size ≤ 9223372036854775807) = true := decide_eq_true c15
              try have c15b2 : (9223372036854775807 < (((t213 ++ t214) ++ t215) ++ t216).size + t217.size) = False := eq_false (Nat.not_lt.2 c15)
              (try (have c15b2_l := c15b2; simp only [ByteArray.size_append] at c15b2_l))
              replace H := Option.bind_eq_some_iff.mp H
              obtain ⟨t218, A160, H⟩ := H
              (try dsimp only at H)
              have A16 := Aside0.mk A160
              clear A160
              by_cases c17 : ((((t213 ++ t214) ++ t215) ++ t216) ++ t217).size + t218.size ≤ 9223372036854775807
              · rw [if_pos c17] at H
                have c17b0 := eq_true c17
                have c17b1 : decide (((((t213 ++ t214) ++ t215) ++ t216) ++ t217).size + t218.size ≤ 9223372036854775807) = true := decide_eq_true c17
                try have c17b2 : (9223372036854775807 < ((((t213 ++ t214) ++ t215) ++ t216) ++ t217).size + t218.size) = False := eq_false (Nat.not_lt.2 c17)
                (try (have c17b2_l := c17b2; simp only [ByteArray.size_append] at c17b2_l))
                replace H := Option.bind_eq_some_iff.mp H
                obtain ⟨t219, A180, H⟩ := H
                (try dsimp only at H)
                have A18 := Aside0.mk A180
                clear A180
                replace H := Option.bind_eq_some_iff.mp H
                obtain ⟨t220, A190, H⟩ := H
                (try dsimp only at H)
                have A19 := Aside0.mk A190
                clear A190
                by_cases c20 : t219.size + t220.size ≤ 9223372036854775807
                · rw [if_pos c20] at H
                  have c20b0 := eq_true c20
                  have c20b1 : decide (t219.size + t220.size ≤ 9223372036854775807) = true := decide_eq_true c20
                  try have c20b2 : (9223372036854775807 < t219.size + t220.size) = False := eq_false (Nat.not_lt.2 c20)
                  replace H := Option.bind_eq_some_iff.mp H
                  obtain ⟨t221, A210, H⟩ := H
                  (try dsimp only at H)
                  have A21 := Aside0.mk A210
                  clear A210
                  by_cases c22 : (t219 ++ t220).size + t221.size ≤ 9223372036854775807
                  · rw [if_pos c22] at H
                    have c22b0 := eq_true c22
                    have c22b1 : decide ((t219 ++ t220).size + t221.size ≤ 9223372036854775807) = true := decide_eq_true c22
                    try have c22b2 : (9223372036854775807 < (t219 ++ t220).size + t221.size) = False := eq_false (Nat.not_lt.2 c22)
                    (try (have c22b2_l := c22b2; simp only [ByteArray.size_append] at c22b2_l))
                    replace H := Option.bind_eq_some_iff.mp H
                    obtain ⟨t222, A230, H⟩ := H
                    (try dsimp only at H)
                    have A23 := Aside0.mk A230
                    clear A230
                    by_cases c24 : ((t219 ++ t220) ++ t221).size + t222.size ≤ 9223372036854775807
                    · rw [if_pos c24] at H
                      have c24b0 := eq_true c24
                      have c24b1 : decide (((t219 ++ t220) ++ t221).size + t222.size ≤ 9223372036854775807) = true := decide_eq_true c24
                      try have c24b2 : (9223372036854775807 < ((t219 ++ t220) ++ t221).size + t222.size) = False := eq_false (Nat.not_lt.2 c24)
                      (try (have c24b2_l := c24b2; simp only [ByteArray.size_append] at c24b2_l))
                      replace H := Option.bind_eq_some_iff.mp H
                      obtain ⟨t223, A250, H⟩ := H
                      (try dsimp only at H)
                      have A25 := Aside0.mk A250
                      clear A250
                      by_cases c26 : (((t219 ++ t220) ++ t221) ++ t222).size + t223.size ≤ 9223372036854775807
                      · rw [if_pos c26] at H
                        have c26b0 := eq_true c26
                        have c26b1 : decide ((((t219 ++ t220) ++ t221) ++ t222).size + t223.size ≤ 9223372036854775807) = true := decide_eq_true c26
                        try have c26b2 : (9223372036854775807 < (((t219 ++ t220) ++ t221) ++ t222).size + t223.size) = False := eq_false (Nat.not_lt.2 c26)
                        (try (have c26b2_l := c26b2; simp only [ByteArray.size_append] at c26b2_l))
                        by_cases c27 : ((((t219 ++ t220) ++ t221) ++ t222) ++ t223).size + (((((t213 ++ t214) ++ t215) ++ t216) ++ t217) ++ t218).size ≤ 9223372036854775807
                        · rw [if_pos c27] at H
                          have c27b0 := eq_true c27
                          have c27b1 : decide (((((t219 ++ t220) ++ t221) ++ t222) ++ t223).size + (((((t213 ++ t214) ++ t215) ++ t216) ++ t217) ++ t218).size ≤ 9223372036854775807) = true := decide_eq_true c27
                          try have c27b2 : (9223372036854775807 < ((((t219 ++ t220) ++ t221) ++ t222) ++ t223).size + (((((t213 ++ t214) ++ t215) ++ t216) ++ t217) ++ t218).size) = False := eq_false (Nat.not_lt.2 c27)
                          (try (have c27b2_l := c27b2; simp only [ByteArray.size_append] at c27b2_l))
                          replace H := Option.bind_eq_some_iff.mp H
                          obtain ⟨t224, A280, H⟩ := H
                          (try dsimp only at H)
                          have A28 := Aside0.mk A280
                          clear A280
                          by_cases c29 : (((((t219 ++ t220) ++ t221) ++ t222) ++ t223) ++ (((((t213 ++ t214) ++ t215) ++ t216) ++ t217) ++ t218)).size + t224.size ≤ 9223372036854775807
                          · rw [if_pos c29] at H
                            have c29b0 := eq_true c29
                            have c29b1 : decide ((((((t219 ++ t220) ++ t221) ++ t222) ++ t223) ++ (((((t213 ++ t214) ++ t215) ++ t216) ++ t217) ++ t218)).size + t224.size ≤ 9223372036854775807) = true := decide_eq_true c29
                            try have c29b2 : (9223372036854775807 < (((((t219 ++ t220) ++ t221) ++ t222) ++ t223) ++ (((((t213 ++ t214) ++ t215) ++ t216) ++ t217) ++ t218)).size + t224.size) = False := eq_false (Nat.not_lt.2 c29)
                            (try (have c29b2_l := c29b2; simp only [ByteArray.size_append] at c29b2_l))
                            replace H := Option.bind_eq_some_iff.mp H
                            obtain ⟨t225, A300, H⟩ := H
                            (try dsimp only at H)
                            have A30 := Aside0.mk A300
                            clear A300
                            by_cases c31 : ((t210 ++ t211) ++ t212).size + t225.size ≤ 9223372036854775807
                            · rw [if_pos c31] at H
                              have c31b0 := eq_true c31
                              have c31b1 : decide (((t210 ++ t211) ++ t212).size + t225.size ≤ 9223372036854775807) = true := decide_eq_true c31
                              try have c31b2 : (9223372036854775807 < ((t210 ++ t211) ++ t212).size + t225.size) = False := eq_false (Nat.not_lt.2 c31)
                              (try (have c31b2_l := c31b2; simp only [ByteArray.size_append] at c31b2_l))
                              replace H := Option.bind_eq_some_iff.mp H
                              obtain ⟨t226, A320, H⟩ := H
                              (try dsimp only at H)
                              have A32 := Aside0.mk A320
                              clear A320
                              by_cases c33 : ((t210 ++ t211) ++ t212).size + t226.size ≤ 9223372036854775807
                              · rw [if_pos c33] at H
                                have c33b0 := eq_true c33
                                have c33b1 : decide (((t210 ++ t211) ++ t212).size + t226.size ≤ 9223372036854775807) = true := decide_eq_true c33
                                try have c33b2 : (9223372036854775807 < ((t210 ++ t211) ++ t212).size + t226.size) = False := eq_false (Nat.not_lt.2 c33)
                                (try (have c33b2_l := c33b2; simp only [ByteArray.size_append] at c33b2_l))
                                replace H := Option.bind_eq_some_iff.mp H
                                obtain ⟨t227, A340, H⟩ := H
                                (try dsimp only at H)
                                have A34 := Aside0.mk A340
                                clear A340
                                by_cases c35 : (((t210 ++ t211) ++ t212) ++ t226).size + t227.size ≤ 9223372036854775807
                                · rw [if_pos c35] at H
                                  have c35b0 := eq_true c35
                                  have c35b1 : decide ((((t210 ++ t211) ++ t212) ++ t226).size + t227.size ≤ 9223372036854775807) = true := decide_eq_true c35
                                  try have c35b2 : (9223372036854775807 < (((t210 ++ t211) ++ t212) ++ t226).size + t227.size) = False := eq_false (Nat.not_lt.2 c35)
                                  (try (have c35b2_l := c35b2; simp only [ByteArray.size_append] at c35b2_l))
                                  replace H := Option.bind_eq_some_iff.mp H
                                  obtain ⟨t228, A360, H⟩ := H
                                  (try dsimp only at H)
                                  have A36 := Aside0.mk A360
                                  clear A360
                                  by_cases c37 : ((((t210 ++ t211) ++ t212) ++ t226) ++ t227).size + t228.size ≤ 9223372036854775807
                                  · rw [if_pos c37] at H
                                    have c37b0 := eq_true c37
                                    have c37b1 : decide (((((t210 ++ t211) ++ t212) ++ t226) ++ t227).size + t228.size ≤ 9223372036854775807) = true := decide_eq_true c37
                                    try have c37b2 : (9223372036854775807 < ((((t210 ++ t211) ++ t212) ++ t226) ++ t227).size + t228.size) = False := eq_false (Nat.not_lt.2 c37)
                                    (try (have c37b2_l := c37b2; simp only [ByteArray.size_append] at c37b2_l))
                                    replace H := Option.bind_eq_some_iff.mp H
                                    obtain ⟨t229, A380, H⟩ := H
                                    (try dsimp only at H)
                                    have A38 := Aside0.mk A380
                                    clear A380
                                    by_cases c39 : (((((t210 ++ t211) ++ t212) ++ t226) ++ t227) ++ t228).size + t229.size ≤ 9223372036854775807
                                    · rw [if_pos c39] at H
                                      have c39b0 := eq_true c39
                                      have c39b1 : decide ((((((t210 ++ t211) ++ t212) ++ t226) ++ t227) ++ t228).size + t229.size ≤ 9223372036854775807) = true := decide_eq_true c39
                                      try have c39b2 : (9223372036854775807 < (((((t210 ++ t211) ++ t212) ++ t226) ++ t227) ++ t228).size + t229.size) = False := eq_false (Nat.not_lt.2 c39)
                                      (try (have c39b2_l := c39b2; simp only [ByteArray.size_append] at c39b2_l))
                                      replace H := Option.bind_eq_some_iff.mp H
                                      obtain ⟨t230, A400, H⟩ := H
                                      (try dsimp only at H)
                                      have A40 := Aside0.mk A400
                                      clear A400
                                      by_cases c41 : ((t210 ++ t211) ++ t212).size + t230.size ≤ 9223372036854775807
                                      · rw [if_pos c41] at H
                                        have c41b0 := eq_true c41
                                        have c41b1 : decide (((t210 ++ t211) ++ t212).size + t230.size ≤ 9223372036854775807) = true := decide_eq_true c41
                                        try have c41b2 : (9223372036854775807 < ((t210 ++ t211) ++ t212).size + t230.size) = False := eq_false (Nat.not_lt.2 c41)
                                        (try (have c41b2_l := c41b2; simp only [ByteArray.size_append] at c41b2_l))
                                        replace H := Option.bind_eq_some_iff.mp H
                                        obtain ⟨t231, A420, H⟩ := H
                                        (try dsimp only at H)
                                        have A42 := Aside0.mk A420
                                        clear A420
                                        by_cases c43 : (((t210 ++ t211) ++ t212) ++ t230).size + t231.size ≤ 9223372036854775807
                                        · rw [if_pos c43] at H
                                          have c43b0 := eq_true c43
                                          have c43b1 : decide ((((t210 ++ t211) ++ t212) ++ t230).size + t231.size ≤ 9223372036854775807) = true := decide_eq_true c43
                                          try have c43b2 : (9223372036854775807 < (((t210 ++ t211) ++ t212) ++ t230).size + t231.size) = False := eq_false (Nat.not_lt.2 c43)
                                          (try (have c43b2_l := c43b2; simp only [ByteArray.size_append] at c43b2_l))
                                          replace H := Option.bind_eq_some_iff.mp H
                                          obtain ⟨t232, A440, H⟩ := H
                                          (try dsimp only at H)
                                          have A44 := Aside0.mk A440
                                          clear A440
                                          by_cases c45 : ((((t210 ++ t211) ++ t212) ++ t230) ++ t231).size + t232.size ≤ 9223372036854775807
                                          · rw [if_pos c45] at H
                                            have c45b0 := eq_true c45
                                            have c45b1 : decide (((((t210 ++ t211) ++ t212) ++ t230) ++ t231).size + t232.size ≤ 9223372036854775807) = true := decide_eq_true c45
                                            try have c45b2 : (9223372036854775807 < ((((t210 ++ t211) ++ t212) ++ t230) ++ t231).size + t232.size) = False := eq_false (Nat.not_lt.2 c45)
                                            (try (have c45b2_l := c45b2; simp only [ByteArray.size_append] at c45b2_l))
                                            replace H := Option.bind_eq_some_iff.mp H
                                            obtain ⟨t233, A460, H⟩ := H
                                            (try dsimp only at H)
                                            have A46 := Aside0.mk A460
                                            clear A460
                                            by_cases c47 : ((t210 ++ t211) ++ t212).size + t233.size ≤ 9223372036854775807
                                            · rw [if_pos c47] at H
                                              have c47b0 := eq_true c47
                                              have c47b1 : decide (((t210 ++ t211) ++ t212).size + t233.size ≤ 9223372036854775807) = true := decide_eq_true c47
                                              try have c47b2 : (9223372036854775807 < ((t210 ++ t211) ++ t212).size + t233.size) = False := eq_false (Nat.not_lt.2 c47)
                                              (try (have c47b2_l := c47b2; simp only [ByteArray.size_append] at c47b2_l))
                                              by_cases c48 : (((t210 ++ t211) ++ t212) ++ t233).size + ((((((t219 ++ t220) ++ t221) ++ t222) ++ t223) ++ (((((t213 ++ t214) ++ t215) ++ t216) ++ t217) ++ t218)) ++ t224).size ≤ 9223372036854775807
                                              · rw [if_pos c48] at H
                                                have c48b0 := eq_true c48
                                                have c48b1 : decide ((((t210 ++ t211) ++ t212) ++ t233).size + ((((((t219 ++ t220) ++ t221) ++ t222) ++ t223) ++ (((((t213 ++ t214) ++ t215) ++ t216) ++ t217) ++ t218)) ++ t224).size ≤ 9223372036854775807) = true := decide_eq_true c48
                                                try have c48b2 : (9223372036854775807 < (((t210 ++ t211) ++ t212) ++ t233).size + ((((((t219 ++ t220) ++ t221) ++ t222) ++ t223) ++ (((((t213 ++ t214) ++ t215) ++ t216) ++ t217) ++ t218)) ++ t224).size) = False := eq_false (Nat.not_lt.2 c48)
                                                (try (have c48b2_l := c48b2; simp only [ByteArray.size_append] at c48b2_l))
                                                by_cases c49 : ((((t210 ++ t211) ++ t212) ++ t233) ++ ((((((t219 ++ t220) ++ t221) ++ t222) ++ t223) ++ (((((t213 ++ t214) ++ t215) ++ t216) ++ t217) ++ t218)) ++ t224)).size + ((((((t219 ++ t220) ++ t221) ++ t222) ++ t223) ++ (((((t213 ++ t214) ++ t215) ++ t216) ++ t217) ++ t218)) ++ t224).size ≤ 9223372036854775807
                                                · rw [if_pos c49] at H
                                                  have c49b0 := eq_true c49
                                                  have c49b1 : decide (((((t210 ++ t211) ++ t212) ++ t233) ++ ((((((t219 ++ t220) ++ t221) ++ t222) ++ t223) ++ (((((t213 ++ t214) ++ t215) ++ t216) ++ t217) ++ t218)) ++ t224)).size + ((((((t219 ++ t220) ++ t221) ++ t222) ++ t223) ++ (((((t213 ++ t214) ++ t215) ++ t216) ++ t217) ++ t218)) ++ t224).size ≤ 9223372036854775807) = true := decide_eq_true c49
                                                  try have c49b2 : (9223372036854775807 < ((((t210 ++ t211) ++ t212) ++ t233) ++ ((((((t219 ++ t220) ++ t221) ++ t222) ++ t223) ++ (((((t213 ++ t214) ++ t215) ++ t216) ++ t217) ++ t218)) ++ t224)).size + ((((((t219 ++ t220) ++ t221) ++ t222) ++ t223) ++ (((((t213 ++ t214) ++ t215) ++ t216) ++ t217) ++ t218)) ++ t224).size) = False := eq_false (Nat.not_lt.2 c49)
                                                  (try (have c49b2_l := c49b2; simp only [ByteArray.size_append] at c49b2_l))
                                                  replace H := Option.bind_eq_some_iff.mp H
                                                  obtain ⟨t234, A500, H⟩ := H
                                                  (try dsimp only at H)
                                                  have A50 := Aside0.mk A500
                                                  clear A500
                                                  by_cases c51 : ((t210 ++ t211) ++ t212).size + t234.size ≤ 9223372036854775807
                                                  · rw [if_pos c51] at H
                                                    have c51b0 := eq_true c51
                                                    have c51b1 : decide (((t210 ++ t211) ++ t212).size + t234.size ≤ 9223372036854775807) = true := decide_eq_true c51
                                                    try have c51b2 : (9223372036854775807 < ((t210 ++ t211) ++ t212).size + t234.size) = False := eq_false (Nat.not_lt.2 c51)
                                                    (try (have c51b2_l := c51b2; simp only [ByteArray.size_append] at c51b2_l))
                                                    replace H := Option.bind_eq_some_iff.mp H
                                                    obtain ⟨t235, A520, H⟩ := H
                                                    (try dsimp only at H)
                                                    have A52 := Aside0.mk A520
                                                    clear A520
                                                    by_cases c53 : (((t210 ++ t211) ++ t212) ++ t234).size + t235.size ≤ 9223372036854775807
                                                    · rw [if_pos c53] at H
                                                      have c53b0 := eq_true c53
                                                      have c53b1 : decide ((((t210 ++ t211) ++ t212) ++ t234).size + t235.size ≤ 9223372036854775807) = true := decide_eq_true c53
                                                      try have c53b2 : (9223372036854775807 < (((t210 ++ t211) ++ t212) ++ t234).size + t235.size) = False := eq_false (Nat.not_lt.2 c53)
                                                      (try (have c53b2_l := c53b2; simp only [ByteArray.size_append] at c53b2_l))
                                                      replace H := Option.bind_eq_some_iff.mp H
                                                      obtain ⟨t236, A540, H⟩ := H
                                                      (try dsimp only at H)
                                                      have A54 := Aside0.mk A540
                                                      clear A540
                                                      by_cases c55 : ((((t210 ++ t211) ++ t212) ++ t234) ++ t235).size + t236.size ≤ 9223372036854775807
                                                      · rw [if_pos c55] at H
                                                        have c55b0 := eq_true c55
                                                        have c55b1 : decide (((((t210 ++ t211) ++ t212) ++ t234) ++ t235).size + t236.size ≤ 9223372036854775807) = true := decide_eq_true c55
                                                        try have c55b2 : (9223372036854775807 < ((((t210 ++ t211) ++ t212) ++ t234) ++ t235).size + t236.size) = False := eq_false (Nat.not_lt.2 c55)
                                                        (try (have c55b2_l := c55b2; simp only [ByteArray.size_append] at c55b2_l))
                                                        replace H := Option.bind_eq_some_iff.mp H
                                                        obtain ⟨t237, A560, H⟩ := H
                                                        (try dsimp only at H)
                                                        have A56 := Aside0.mk A560
                                                        clear A560
                                                        by_cases c57 : (((((t210 ++ t211) ++ t212) ++ t234) ++ t235) ++ t236).size + t237.size ≤ 9223372036854775807
                                                        · rw [if_pos c57] at H
                                                          have c57b0 := eq_true c57
                                                          have c57b1 : decide ((((((t210 ++ t211) ++ t212) ++ t234) ++ t235) ++ t236).size + t237.size ≤ 9223372036854775807) = true := decide_eq_true c57
                                                          try have c57b2 : (9223372036854775807 < (((((t210 ++ t211) ++ t212) ++ t234) ++ t235) ++ t236).size + t237.size) = False := eq_false (Nat.not_lt.2 c57)
                                                          (try (have c57b2_l := c57b2; simp only [ByteArray.size_append] at c57b2_l))
                                                          replace H := Option.bind_eq_some_iff.mp H
                                                          obtain ⟨t238, A580, H⟩ := H
                                                          (try dsimp only at H)
                                                          have A58 := Aside0.mk A580
                                                          clear A580
                                                          by_cases c59 : ((((((t210 ++ t211) ++ t212) ++ t234) ++ t235) ++ t236) ++ t237).size + t238.size ≤ 9223372036854775807
                                                          · rw [if_pos c59] at H
                                                            have c59b0 := eq_true c59
                                                            have c59b1 : decide (((((((t210 ++ t211) ++ t212) ++ t234) ++ t235) ++ t236) ++ t237).size + t238.size ≤ 9223372036854775807) = true := decide_eq_true c59
                                                            try have c59b2 : (9223372036854775807 < ((((((t210 ++ t211) ++ t212) ++ t234) ++ t235) ++ t236) ++ t237).size + t238.size) = False := eq_false (Nat.not_lt.2 c59)
                                                            (try (have c59b2_l := c59b2; simp only [ByteArray.size_append] at c59b2_l))
                                                            replace H := Option.bind_eq_some_iff.mp H
                                                            obtain ⟨t239, A600, H⟩ := H
                                                            (try dsimp only at H)
                                                            have A60 := Aside0.mk A600
                                                            clear A600
                                                            by_cases c61 : ((t210 ++ t211) ++ t212).size + t239.size ≤ 9223372036854775807
                                                            · rw [if_pos c61] at H
                                                              have c61b0 := eq_true c61
                                                              have c61b1 : decide (((t210 ++ t211) ++ t212).size + t239.size ≤ 9223372036854775807) = true := decide_eq_true c61
                                                              try have c61b2 : (9223372036854775807 < ((t210 ++ t211) ++ t212).size + t239.size) = False := eq_false (Nat.not_lt.2 c61)
                                                              (try (have c61b2_l := c61b2; simp only [ByteArray.size_append] at c61b2_l))
                                                              replace H := Option.bind_eq_some_iff.mp H
                                                              obtain ⟨t240, A620, H⟩ := H
                                                              (try dsimp only at H)
                                                              have A62 := Aside0.mk A620
                                                              clear A620
                                                              by_cases c63 : (((t210 ++ t211) ++ t212) ++ t239).size + t240.size ≤ 9223372036854775807
                                                              · rw [if_pos c63] at H
                                                                have c63b0 := eq_true c63
                                                                have c63b1 : decide ((((t210 ++ t211) ++ t212) ++ t239).size + t240.size ≤ 9223372036854775807) = true := decide_eq_true c63
                                                                try have c63b2 : (9223372036854775807 < (((t210 ++ t211) ++ t212) ++ t239).size + t240.size) = False := eq_false (Nat.not_lt.2 c63)
                                                                (try (have c63b2_l := c63b2; simp only [ByteArray.size_append] at c63b2_l))
                                                                replace H := Option.bind_eq_some_iff.mp H
                                                                obtain ⟨t241, A640, H⟩ := H
                                                                (try dsimp only at H)
                                                                have A64 := Aside0.mk A640
                                                                clear A640
                                                                by_cases c65 : 0 ≤ 9
                                                                · rw [if_pos c65] at H
                                                                  have c65b0 := eq_true c65
                                                                  have c65b1 : decide (0 ≤ 9) = true := decide_eq_true c65
                                                                  clear c65
                                                                  by_cases c66 : 9 ≤ (t241.size : Int)
                                                                  · rw [if_pos c66] at H
                                                                    have c66b0 := eq_true c66
                                                                    have c66b1 : decide (9 ≤ (t241.size : Int)) = true := decide_eq_true c66
                                                                    clear c66
                                                                    by_cases c67 : ((((t210 ++ t211) ++ t212) ++ t239) ++ t240).size + (t241.extract 0 9).size ≤ 9223372036854775807
                                                                    · rw [if_pos c67] at H
                                                                      have c67b0 := eq_true c67
                                                                      have c67b1 : decide (((((t210 ++ t211) ++ t212) ++ t239) ++ t240).size + (t241.extract 0 9).size ≤ 9223372036854775807) = true := decide_eq_true c67
                                                                      try have c67b2 : (9223372036854775807 < ((((t210 ++ t211) ++ t212) ++ t239) ++ t240).size + (t241.extract 0 9).size) = False := eq_false (Nat.not_lt.2 c67)
                                                                      (try (have c67b2_e := c67b2; simp only [ByteArray.size_append, ByteArray.size_extract, Nat.sub_zero] at c67b2_e))
                                                                      (try (have c67b2_l := c67b2; simp only [ByteArray.size_append] at c67b2_l))
                                                                      by_cases c68 : (((((t210 ++ t211) ++ t212) ++ t239) ++ t240) ++ (t241.extract 0 9)).size + 7 ≤ 9223372036854775807
                                                                      · rw [if_pos c68] at H
                                                                        have c68b0 := eq_true c68
                                                                        have c68b1 : decide ((((((t210 ++ t211) ++ t212) ++ t239) ++ t240) ++ (t241.extract 0 9)).size + 7 ≤ 9223372036854775807) = true := decide_eq_true c68
                                                                        try have c68b2 : (9223372036854775807 < (((((t210 ++ t211) ++ t212) ++ t239) ++ t240) ++ (t241.extract 0 9)).size + 7) = False := eq_false (Nat.not_lt.2 c68)
                                                                        (try (have c68b2_e := c68b2; simp only [ByteArray.size_append, ByteArray.size_extract, Nat.sub_zero] at c68b2_e))
                                                                        (try (have c68b2_l := c68b2; simp only [ByteArray.size_append] at c68b2_l))
                                                                        replace H := Option.bind_eq_some_iff.mp H
                                                                        obtain ⟨t242, A690, H⟩ := H
                                                                        (try dsimp only at H)
                                                                        have A69 := Aside0.mk A690
                                                                        clear A690
                                                                        replace H := Option.bind_eq_some_iff.mp H
                                                                        obtain ⟨t243, A700, H⟩ := H
                                                                        (try dsimp only at H)
                                                                        have A70 := Aside0.mk A700
                                                                        clear A700
                                                                        replace H := Option.bind_eq_some_iff.mp H
                                                                        obtain ⟨t244, A710, H⟩ := H
                                                                        (try dsimp only at H)
                                                                        have A71 := Aside0.mk A710
                                                                        clear A710
                                                                        by_cases c72 : ((t210 ++ t211) ++ t212).size + t244.size ≤ 9223372036854775807
                                                                        · rw [if_pos c72] at H
                                                                          have c72b0 := eq_true c72
                                                                          have c72b1 : decide (((t210 ++ t211) ++ t212).size + t244.size ≤ 9223372036854775807) = true := decide_eq_true c72
                                                                          try have c72b2 : (9223372036854775807 < ((t210 ++ t211) ++ t212).size + t244.size) = False := eq_false (Nat.not_lt.2 c72)
                                                                          (try (have c72b2_l := c72b2; simp only [ByteArray.size_append] at c72b2_l))
                                                                          replace H := Option.bind_eq_some_iff.mp H
                                                                          obtain ⟨t245, A730, H⟩ := H
                                                                          (try dsimp only at H)
                                                                          have A73 := Aside0.mk A730
                                                                          clear A730
                                                                          by_cases c74 : (((t210 ++ t211) ++ t212) ++ t244).size + t245.size ≤ 9223372036854775807
                                                                          · rw [if_pos c74] at H
                                                                            have c74b0 := eq_true c74
                                                                            have c74b1 : decide ((((t210 ++ t211) ++ t212) ++ t244).size + t245.size ≤ 9223372036854775807) = true := decide_eq_true c74
                                                                            try have c74b2 : (9223372036854775807 < (((t210 ++ t211) ++ t212) ++ t244).size + t245.size) = False := eq_false (Nat.not_lt.2 c74)
                                                                            (try (have c74b2_l := c74b2; simp only [ByteArray.size_append] at c74b2_l))
                                                                            replace H := Option.bind_eq_some_iff.mp H
                                                                            obtain ⟨t246, A750, H⟩ := H
                                                                            (try dsimp only at H)
                                                                            have A75 := Aside0.mk A750
                                                                            clear A750
                                                                            by_cases c76 : ((t210 ++ t211) ++ t212).size + t246.size ≤ 9223372036854775807
                                                                            · rw [if_pos c76] at H
                                                                              have c76b0 := eq_true c76
                                                                              have c76b1 : decide (((t210 ++ t211) ++ t212).size + t246.size ≤ 9223372036854775807) = true := decide_eq_true c76
                                                                              try have c76b2 : (9223372036854775807 < ((t210 ++ t211) ++ t212).size + t246.size) = False := eq_false (Nat.not_lt.2 c76)
                                                                              (try (have c76b2_l := c76b2; simp only [ByteArray.size_append] at c76b2_l))
                                                                              by_cases c77 : (((t210 ++ t211) ++ t212) ++ t246).size + ((((((t219 ++ t220) ++ t221) ++ t222) ++ t223) ++ (((((t213 ++ t214) ++ t215) ++ t216) ++ t217) ++ t218)) ++ t224).size ≤ 9223372036854775807
                                                                              · rw [if_pos c77] at H
                                                                                have c77b0 := eq_true c77
                                                                                have c77b1 : decide ((((t210 ++ t211) ++ t212) ++ t246).size + ((((((t219 ++ t220) ++ t221) ++ t222) ++ t223) ++ (((((t213 ++ t214) ++ t215) ++ t216) ++ t217) ++ t218)) ++ t224).size ≤ 9223372036854775807) = true := decide_eq_true c77
                                                                                try have c77b2 : (9223372036854775807 < (((t210 ++ t211) ++ t212) ++ t246).size + ((((((t219 ++ t220) ++ t221) ++ t222) ++ t223) ++ (((((t213 ++ t214) ++ t215) ++ t216) ++ t217) ++ t218)) ++ t224).size) = False := eq_false (Nat.not_lt.2 c77)
                                                                                (try (have c77b2_l := c77b2; simp only [ByteArray.size_append] at c77b2_l))
                                                                                replace H := Option.bind_eq_some_iff.mp H
                                                                                obtain ⟨t247, A780, H⟩ := H
                                                                                (try dsimp only at H)
                                                                                have A78 := Aside0.mk A780
                                                                                clear A780
                                                                                by_cases c79 : ((((t210 ++ t211) ++ t212) ++ t246) ++ ((((((t219 ++ t220) ++ t221) ++ t222) ++ t223) ++ (((((t213 ++ t214) ++ t215) ++ t216) ++ t217) ++ t218)) ++ t224)).size + t247.size ≤ 9223372036854775807
                                                                                · rw [if_pos c79] at H
                                                                                  have c79b0 := eq_true c79
                                                                                  have c79b1 : decide (((((t210 ++ t211) ++ t212) ++ t246) ++ ((((((t219 ++ t220) ++ t221) ++ t222) ++ t223) ++ (((((t213 ++ t214) ++ t215) ++ t216) ++ t217) ++ t218)) ++ t224)).size + t247.size ≤ 9223372036854775807) = true := decide_eq_true c79
                                                                                  try have c79b2 : (9223372036854775807 < ((((t210 ++ t211) ++ t212) ++ t246) ++ ((((((t219 ++ t220) ++ t221) ++ t222) ++ t223) ++ (((((t213 ++ t214) ++ t215) ++ t216) ++ t217) ++ t218)) ++ t224)).size + t247.size) = False := eq_false (Nat.not_lt.2 c79)
                                                                                  (try (have c79b2_l := c79b2; simp only [ByteArray.size_append] at c79b2_l))
                                                                                  replace H := Option.bind_eq_some_iff.mp H
                                                                                  obtain ⟨t248, A800, H⟩ := H
                                                                                  (try dsimp only at H)
                                                                                  have A80 := Aside0.mk A800
                                                                                  clear A800
                                                                                  by_cases c81 : (((((t210 ++ t211) ++ t212) ++ t246) ++ ((((((t219 ++ t220) ++ t221) ++ t222) ++ t223) ++ (((((t213 ++ t214) ++ t215) ++ t216) ++ t217) ++ t218)) ++ t224)) ++ t247).size + t248.size ≤ 9223372036854775807
                                                                                  · rw [if_pos c81] at H
                                                                                    have c81b0 := eq_true c81
                                                                                    have c81b1 : decide ((((((t210 ++ t211) ++ t212) ++ t246) ++ ((((((t219 ++ t220) ++ t221) ++ t222) ++ t223) ++ (((((t213 ++ t214) ++ t215) ++ t216) ++ t217) ++ t218)) ++ t224)) ++ t247).size + t248.size ≤ 9223372036854775807) = true := decide_eq_true c81
                                                                                    try have c81b2 : (9223372036854775807 < (((((t210 ++ t211) ++ t212) ++ t246) ++ ((((((t219 ++ t220) ++ t221) ++ t222) ++ t223) ++ (((((t213 ++ t214) ++ t215) ++ t216) ++ t217) ++ t218)) ++ t224)) ++ t247).size + t248.size) = False := eq_false (Nat.not_lt.2 c81)
                                                                                    (try (have c81b2_l := c81b2; simp only [ByteArray.size_append] at c81b2_l))
                                                                                    obtain ⟨y249, hy249⟩ : ∃ y_ : List ByteArray, y_ = (([((t210 ++ t211) ++ t212) ++ t225, (((((t210 ++ t211) ++ t212) ++ t226) ++ t227) ++ t228) ++ t229, ((((t210 ++ t211) ++ t212) ++ t230) ++ t231) ++ t232, ((((t210 ++ t211) ++ t212) ++ t233) ++ ((((((t219 ++ t220) ++ t221) ++ t222) ++ t223) ++ (((((t213 ++ t214) ++ t215) ++ t216) ++ t217) ++ t218)) ++ t224)) ++ ((((((t219 ++ t220) ++ t221) ++ t222) ++ t223) ++ (((((t213 ++ t214) ++ t215) ++ t216) ++ t217) ++ t218)) ++ t224), ((((((t210 ++ t211) ++ t212) ++ t234) ++ t235) ++ t236) ++ t237) ++ t238, (((((t210 ++ t211) ++ t212) ++ t239) ++ t240) ++ (t241.extract 0 9)) ++ (⟨#[49, 50, 51, 52, 53, 54, 55]⟩ : ByteArray), t242, t243, (((t210 ++ t211) ++ t212) ++ t244) ++ t245, (((((t210 ++ t211) ++ t212) ++ t246) ++ ((((((t219 ++ t220) ++ t221) ++ t222) ++ t223) ++ (((((t213 ++ t214) ++ t215) ++ t216) ++ t217) ++ t218)) ++ t224)) ++ t247) ++ t248] : List ByteArray)) := ⟨_, rfl⟩
                                                                                    replace H : (if (y249.length : Int) = 0 then (none) else (if 0 ≤ (Int.tmod (wrap64 (a0)) (y249.length : Int)) then (if (Int.tmod (wrap64 (a0)) (y249.length : Int)) < (y249.length : Int) then ((parse_Get.f (rdOf ByteArray.empty y249 (Int.tmod (wrap64 (a0)) (y249.length : Int)))).bind fun bt253 => (if (rdOf ByteArray.empty y249 (Int.tmod (wrap64 (a0)) (y249.length : Int))).size + 4 ≤ 9223372036854775807 then ((parse_Get.f ((rdOf ByteArray.empty y249 (Int.tmod (wrap64 (a0)) (y249.length : Int))) ++ (⟨#[109, 111, 114, 101]⟩ : ByteArray))).bind fun bt258 => ((shelfmarklaw1_Err.f bt253.2).bind fun t262 => (if t262 = 4 then ((shelfmarklaw1_Err.f bt258.2).bind fun t263 => (if t263 = 4 then ((shelfmarklaw11_awake.f k).bind fun t264 => (some t264)) else (some false))) else (some false)))) else (none))) else (none)) else (none))) = some r := by first | (rw [hy249]; with_reducible exact H) | (have H2_ := (Option.bind_some _ _).symm.trans H; rw [hy249]; with_reducible exact H2_) | (have H2_ := (Option.bind_some _ _).symm.trans H; with_reducible exact H2_) | with_reducible exact H | (rw [hy249]; exact H) | exact H
                                                                                    have Ny249 := Aside0.mk hy249
                                                                                    clear hy249
                                                                                    by_cases c82 : (y249.length : Int) = 0
                                                                                    · rw [if_pos c82] at H
                                                                                      exact absurd H (by simp)
                                                                                    · rw [if_neg c82] at H
                                                                                      have c82b0 : ((y249.length : Int) == 0) = false := beq_eq_false_iff_ne.mpr c82
                                                                                      have c82b1 : ((y249.length : Int) != 0) = true := bne_iff_ne.mpr c82
                                                                                      have c82b2 : ¬ (y249 = []) := fun h_ => c82 (by rw [h_]; rfl)
                                                                                      obtain ⟨ji83, hji83⟩ : ∃ j_ : Int, (Int.tmod (wrap64 (a0)) (y249.length : Int)) = j_ := ⟨_, rfl⟩
                                                                                      replace H : (if 0 ≤ (ji83) then (if (ji83) < (y249.length : Int) then ((parse_Get.f (rdOf ByteArray.empty y249 (ji83))).bind fun bt253 => (if (rdOf ByteArray.empty y249 (ji83)).size + 4 ≤ 9223372036854775807 then ((parse_Get.f ((rdOf ByteArray.empty y249 (ji83)) ++ (⟨#[109, 111, 114, 101]⟩ : ByteArray))).bind fun bt258 => ((shelfmarklaw1_Err.f bt253.2).bind fun t262 => (if t262 = 4 then ((shelfmarklaw1_Err.f bt258.2).bind fun t263 => (if t263 = 4 then ((shelfmarklaw11_awake.f k).bind fun t264 => (some t264)) else (some false))) else (some false)))) else (none))) else (none)) else (none)) = some r := by first | (rw [hji83] at H; exact H) | (simp only [hji83] at H ⊢; exact H)
                                                                                      (try rw [hji83] at A2)
                                                                                      (try rw [hji83] at A3)
                                                                                      (try rw [hji83] at A5)
                                                                                      (try rw [hji83] at A7)
                                                                                      (try rw [hji83] at A8)
                                                                                      (try rw [hji83] at A10)
                                                                                      (try rw [hji83] at A12)
                                                                                      (try rw [hji83] at A14)
                                                                                      (try rw [hji83] at A16)
                                                                                      (try rw [hji83] at A18)
                                                                                      (try rw [hji83] at A19)
                                                                                      (try rw [hji83] at A21)
                                                                                      (try rw [hji83] at A23)
                                                                                      (try rw [hji83] at A25)
                                                                                      (try rw [hji83] at A28)
                                                                                      (try rw [hji83] at A30)
                                                                                      (try rw [hji83] at A32)
                                                                                      (try rw [hji83] at A34)
                                                                                      (try rw [hji83] at A36)
                                                                                      (try rw [hji83] at A38)
                                                                                      (try rw [hji83] at A40)
                                                                                      (try rw [hji83] at A42)
                                                                                      (try rw [hji83] at A44)
                                                                                      (try rw [hji83] at A46)
                                                                                      (try rw [hji83] at A50)
                                                                                      (try rw [hji83] at A52)
                                                                                      (try rw [hji83] at A54)
                                                                                      (try rw [hji83] at A56)
                                                                                      (try rw [hji83] at A58)
                                                                                      (try rw [hji83] at A60)
                                                                                      (try rw [hji83] at A62)
                                                                                      (try rw [hji83] at A64)
                                                                                      (try rw [hji83] at A69)
                                                                                      (try rw [hji83] at A70)
                                                                                      (try rw [hji83] at A71)
                                                                                      (try rw [hji83] at A73)
                                                                                      (try rw [hji83] at A75)
                                                                                      (try rw [hji83] at A78)
                                                                                      (try rw [hji83] at A80)
                                                                                      by_cases c84 : 0 ≤ (ji83)
                                                                                      · rw [if_pos c84] at H
                                                                                        have c84b0 : decide (0 ≤ (ji83)) = true := decide_eq_true c84
                                                                                        clear c84
                                                                                        by_cases c85 : (ji83) < (y249.length : Int)
                                                                                        · rw [if_pos c85] at H
                                                                                          have c85b0 : decide ((ji83) < (y249.length : Int)) = true := decide_eq_true c85
                                                                                          clear c85
                                                                                          replace H := Option.bind_eq_some_iff.mp H
                                                                                          obtain ⟨⟨t253, t254⟩, A860, H⟩ := H
                                                                                          (try dsimp only at H)
                                                                                          have A86 := Aside0.mk A860
                                                                                          clear A860
                                                                                          by_cases c87 : (rdOf ByteArray.empty y249 (ji83)).size + 4 ≤ 9223372036854775807
                                                                                          · rw [if_pos c87] at H
                                                                                            have c87b0 := eq_true c87
                                                                                            have c87b1 : decide ((rdOf ByteArray.empty y249 (ji83)).size + 4 ≤ 9223372036854775807) = true := decide_eq_true c87
                                                                                            try have c87b2 : (9223372036854775807 < (rdOf ByteArray.empty y249 (ji83)).size + 4) = False := eq_false (Nat.not_lt.2 c87)
                                                                                            replace H := Option.bind_eq_some_iff.mp H
                                                                                            obtain ⟨⟨t258, t259⟩, A880, H⟩ := H
                                                                                            replace H : ((shelfmarklaw1_Err.f t254).bind fun t262 => (if t262 = 4 then ((shelfmarklaw1_Err.f t259).bind fun t263 => (if t263 = 4 then ((shelfmarklaw11_awake.f k).bind fun t264 => (some t264)) else (some false))) else (some false))) = some r := H
                                                                                            have A88 := Aside0.mk A880
                                                                                            clear A880
                                                                                            replace H := Option.bind_eq_some_iff.mp H
                                                                                            obtain ⟨t262, A890, H⟩ := H
                                                                                            replace H : (if t262 = 4 then ((shelfmarklaw1_Err.f t259).bind fun t263 => (if t263 = 4 then ((shelfmarklaw11_awake.f k).bind fun t264 => (some t264)) else (some false))) else (some false)) = some r := H
                                                                                            have A89 := Aside0.mk A890
                                                                                            clear A890
                                                                                            by_cases c90 : t262 = 4
                                                                                            · rw [if_pos c90] at H
                                                                                              have c90b0 : (t262 == 4) = true := beq_iff_eq.mpr c90
                                                                                              have c90b1 : (t262 != 4) = false := bne_eq_false_iff_eq.mpr c90
                                                                                              clear c90
                                                                                              replace H := Option.bind_eq_some_iff.mp H
                                                                                              obtain ⟨t263, A910, H⟩ := H
                                                                                              replace H : (if t263 = 4 then ((shelfmarklaw11_awake.f k).bind fun t264 => (some t264)) else (some false)) = some r := H
                                                                                              have A91 := Aside0.mk A910
                                                                                              clear A910
                                                                                              by_cases c92 : t263 = 4
                                                                                              · rw [if_pos c92] at H
                                                                                                have c92b0 : (t263 == 4) = true := beq_iff_eq.mpr c92
                                                                                                have c92b1 : (t263 != 4) = false := bne_eq_false_iff_eq.mpr c92
                                                                                                clear c92
                                                                                                replace H := Option.bind_eq_some_iff.mp H
                                                                                                obtain ⟨t264, A930, H⟩ := H
                                                                                                replace H : (some t264) = some r := H
                                                                                                have A93 := Aside0.mk A930
                                                                                                clear A930
                                                                                                obtain rfl := Option.some.inj H
                                                                                                go_enter Tryd.func6, Tryd.ntmps6
                                                                                                try go_wp2_with (first | ((with_reducible refine gate_callee (f := 21) rfl ?_); refine goesL_ (some 12) rfl rfl Tryd.func21 (by kernel_rfl) rfl #[.string (⟨#[110, 105, 120, 45, 97, 114, 99, 104, 105, 118, 101, 45, 49]⟩ : ByteArray)] rfl (by (try simp only [List.map_toArray, List.map_cons, List.map_nil]); first | done | rfl | (simp only [List.length_drop, List.length_take]; rfl)) ?_; (with_reducible refine (shelfmarkref10_Str.calls k (⟨#[110, 105, 120, 45, 97, 114, 99, 104, 105, 118, 101, 45, 49]⟩ : ByteArray) t210 _ A2.out).mono ?_); rintro e w94 ⟨rfl, hb⟩; refine ⟨_, rfl, ?_⟩; have n0_ := Aside0.mk (below_step (by repeat (first | (with_reducible first | exact HB.out | apply below_alloc | apply pw_below_drewN | apply below_drew1) | exact HB.out)) hb); clear HB; have HB := n0_; clear n0_; (try clear hb); (try clear hb2); (try clear hk); (try clear hi)) | ((with_reducible refine gate_callee (f := 21) rfl ?_); refine goesL_ (some 13) rfl rfl Tryd.func21 (by kernel_rfl) rfl #[.string (⟨#[40]⟩ : ByteArray)] rfl (by (try simp only [List.map_toArray, List.map_cons, List.map_nil]); first | done | rfl | (simp only [List.length_drop, List.length_take]; rfl)) ?_; (with_reducible refine (shelfmarkref10_Str.calls k (⟨#[40]⟩ : ByteArray) t211 _ A3.out).mono ?_); rintro e w95 ⟨rfl, hb⟩; refine ⟨_, rfl, ?_⟩; have n0_ := Aside0.mk (below_step (by repeat (first | (with_reducible first | exact HB.out | apply below_alloc | apply pw_below_drewN | apply below_drew1) | exact HB.out)) hb); clear HB; have HB := n0_; clear n0_; (try clear hb); (try clear hb2); (try clear hk); (try clear hi)) | ((with_reducible refine gate_callee (f := 21) rfl ?_); refine goesL_ (some 15) rfl rfl Tryd.func21 (by kernel_rfl) rfl #[.string (⟨#[116, 121, 112, 101]⟩ : ByteArray)] rfl (by (try simp only [List.map_toArray, List.map_cons, List.map_nil]); first | done | rfl | (simp only [List.length_drop, List.length_take]; rfl)) ?_; (with_reducible refine (shelfmarkref10_Str.calls k (⟨#[116, 121, 112, 101]⟩ : ByteArray) t212 _ A5.out).mono ?_); rintro e w96 ⟨rfl, hb⟩; refine ⟨_, rfl, ?_⟩; have n0_ := Aside0.mk (below_step (by repeat (first | (with_reducible first | exact HB.out | apply below_alloc | apply pw_below_drewN | apply below_drew1) | exact HB.out)) hb); clear HB; have HB := n0_; clear n0_; (try clear hb); (try clear hb2); (try clear hk); (try clear hi)) | ((with_reducible refine gate_callee (f := 21) rfl ?_); refine goesL_ (some 17) rfl rfl Tryd.func21 (by kernel_rfl) rfl #[.string (⟨#[40]⟩ : ByteArray)] rfl (by (try simp only [List.map_toArray, List.map_cons, List.map_nil]); first | done | rfl | (simp only [List.length_drop, List.length_take]; rfl)) ?_; (with_reducible refine (shelfmarkref10_Str.calls k (⟨#[40]⟩ : ByteArray) t213 _ A7.out).mono ?_); rintro e w97 ⟨rfl, hb⟩; refine ⟨_, rfl, ?_⟩; have n0_ := Aside0.mk (below_step (by repeat (first | (with_reducible first | exact HB.out | apply below_alloc | apply pw_below_drewN | apply below_drew1) | exact HB.out)) hb); clear HB; have HB := n0_; clear n0_; (try clear hb); (try clear hb2); (try clear hk); (try clear hi)) | ((with_reducible refine gate_callee (f := 21) rfl ?_); refine goesL_ (some 18) rfl rfl Tryd.func21 (by kernel_rfl) rfl #[.string (⟨#[116, 121, 112, 101]⟩ : ByteArray)] rfl (by (try simp only [List.map_toArray, List.map_cons, List.map_nil]); first | done | rfl | (simp only [List.length_drop, List.length_take]; rfl)) ?_; (with_reducible refine (shelfmarkref10_Str.calls k (⟨#[116, 121, 112, 101]⟩ : ByteArray) t214 _ A8.out).mono ?_); rintro e w98 ⟨rfl, hb⟩; refine ⟨_, rfl, ?_⟩; have n0_ := Aside0.mk (below_step (by repeat (first | (with_reducible first | exact HB.out | apply below_alloc | apply pw_below_drewN | apply below_drew1) | exact HB.out)) hb); clear HB; have HB := n0_; clear n0_; (try clear hb); (try clear hb2); (try clear hk); (try clear hi)) | ((with_reducible refine gate_callee (f := 21) rfl ?_); refine goesL_ (some 20) rfl rfl Tryd.func21 (by kernel_rfl) rfl #[.string (⟨#[114, 101, 103, 117, 108, 97, 114]⟩ : ByteArray)] rfl (by (try simp only [List.map_toArray, List.map_cons, List.map_nil]); first | done | rfl | (simp only [List.length_drop, List.length_take]; rfl)) ?_; (with_reducible refine (shelfmarkref10_Str.calls k (⟨#[114, 101, 103, 117, 108, 97, 114]⟩ : ByteArray) t215 _ A10.out).mono ?_); rintro e w99 ⟨rfl, hb⟩; refine ⟨_, rfl, ?_⟩; have n0_ := Aside0.mk (below_step (by repeat (first | (with_reducible first | exact HB.out | apply below_alloc | apply pw_below_drewN | apply below_drew1) | exact HB.out)) hb); clear HB; have HB := n0_; clear n0_; (try clear hb); (try clear hb2); (try clear hk); (try clear hi)) | ((with_reducible refine gate_callee (f := 21) rfl ?_); refine goesL_ (some 22) rfl rfl Tryd.func21 (by kernel_rfl) rfl #[.string (⟨#[99, 111, 110, 116, 101, 110, 116, 115]⟩ : ByteArray)] rfl (by (try simp only [List.map_toArray, List.map_cons, List.map_nil]); first | done | rfl | (simp only [List.length_drop, List.length_take]; rfl)) ?_; (with_reducible refine (shelfmarkref10_Str.calls k (⟨#[99, 111, 110, 116, 101, 110, 116, 115]⟩ : ByteArray) t216 _ A12.out).mono ?_); rintro e w100 ⟨rfl, hb⟩; refine ⟨_, rfl, ?_⟩; have n0_ := Aside0.mk (below_step (by repeat (first | (with_reducible first | exact HB.out | apply below_alloc | apply pw_below_drewN | apply below_drew1) | exact HB.out)) hb); clear HB; have HB := n0_; clear n0_; (try clear hb); (try clear hb2); (try clear hk); (try clear hi)) | ((with_reducible refine gate_callee (f := 21) rfl ?_); refine goesL_ (some 24) rfl rfl Tryd.func21 (by kernel_rfl) rfl #[.string (⟨#[]⟩ : ByteArray)] rfl (by (try simp only [List.map_toArray, List.map_cons, List.map_nil]); first | done | rfl | (simp only [List.length_drop, List.length_take]; rfl)) ?_; (with_reducible refine (shelfmarkref10_Str.calls k (⟨#[]⟩ : ByteArray) t217 _ A14.out).mono ?_); rintro e w101 ⟨rfl, hb⟩; refine ⟨_, rfl, ?_⟩; have n0_ := Aside0.mk (below_step (by repeat (first | (with_reducible first | exact HB.out | apply below_alloc | apply pw_below_drewN | apply below_drew1) | exact HB.out)) hb); clear HB; have HB := n0_; clear n0_; (try clear hb); (try clear hb2); (try clear hk); (try clear hi)) | ((with_reducible refine gate_callee (f := 21) rfl ?_); refine goesL_ (some 26) rfl rfl Tryd.func21 (by kernel_rfl) rfl #[.string (⟨#[41]⟩ : ByteArray)] rfl (by (try simp only [List.map_toArray, List.map_cons, List.map_nil]); first | done | rfl | (simp only [List.length_drop, List.length_take]; rfl)) ?_; (with_reducible refine (shelfmarkref10_Str.calls k (⟨#[41]⟩ : ByteArray) t218 _ A16.out).mono ?_); rintro e w102 ⟨rfl, hb⟩; refine ⟨_, rfl, ?_⟩; have n0_ := Aside0.mk (below_step (by repeat (first | (with_reducible first | exact HB.out | apply below_alloc | apply pw_below_drewN | apply below_drew1) | exact HB.out)) hb); clear HB; have HB := n0_; clear n0_; (try clear hb); (try clear hb2); (try clear hk); (try clear hi)) | ((with_reducible refine gate_callee (f := 21) rfl ?_); refine goesL_ (some 28) rfl rfl Tryd.func21 (by kernel_rfl) rfl #[.string (⟨#[101, 110, 116, 114, 121]⟩ : ByteArray)] rfl (by (try simp only [List.map_toArray, List.map_cons, List.map_nil]); first | done | rfl | (simp only [List.length_drop, List.length_take]; rfl)) ?_; (with_reducible refine (shelfmarkref10_Str.calls k (⟨#[101, 110, 116, 114, 121]⟩ : ByteArray) t219 _ A18.out).mono ?_); rintro e w103 ⟨rfl, hb⟩; refine ⟨_, rfl, ?_⟩; have n0_ := Aside0.mk (below_step (by repeat (first | (with_reducible first | exact HB.out | apply below_alloc | apply pw_below_drewN | apply below_drew1) | exact HB.out)) hb); clear HB; have HB := n0_; clear n0_; (try clear hb); (try clear hb2); (try clear hk); (try clear hi)) | ((with_reducible refine gate_callee (f := 21) rfl ?_); refine goesL_ (some 29) rfl rfl Tryd.func21 (by kernel_rfl) rfl #[.string (⟨#[40]⟩ : ByteArray)] rfl (by (try simp only [List.map_toArray, List.map_cons, List.map_nil]); first | done | rfl | (simp only [List.length_drop, List.length_take]; rfl)) ?_; (with_reducible refine (shelfmarkref10_Str.calls k (⟨#[40]⟩ : ByteArray) t220 _ A19.out).mono ?_); rintro e w104 ⟨rfl, hb⟩; refine ⟨_, rfl, ?_⟩; have n0_ := Aside0.mk (below_step (by repeat (first | (with_reducible first | exact HB.out | apply below_alloc | apply pw_below_drewN | apply below_drew1) | exact HB.out)) hb); clear HB; have HB := n0_; clear n0_; (try clear hb); (try clear hb2); (try clear hk); (try clear hi)) | ((with_reducible refine gate_callee (f := 21) rfl ?_); refine goesL_ (some 31) rfl rfl Tryd.func21 (by kernel_rfl) rfl #[.string (⟨#[110, 97, 109, 101]⟩ : ByteArray)] rfl (by (try simp only [List.map_toArray, List.map_cons, List.map_nil]); first | done | rfl | (simp only [List.length_drop, List.length_take]; rfl)) ?_; (with_reducible refine (shelfmarkref10_Str.calls k (⟨#[110, 97, 109, 101]⟩ : ByteArray) t221 _ A21.out).mono ?_); rintro e w105 ⟨rfl, hb⟩; refine ⟨_, rfl, ?_⟩; have n0_ := Aside0.mk (below_step (by repeat (first | (with_reducible first | exact HB.out | apply below_alloc | apply pw_below_drewN | apply below_drew1) | exact HB.out)) hb); clear HB; have HB := n0_; clear n0_; (try clear hb); (try clear hb2); (try clear hk); (try clear hi)) | ((with_reducible refine gate_callee (f := 21) rfl ?_); refine goesL_ (some 33) rfl rfl Tryd.func21 (by kernel_rfl) rfl #[.string (⟨#[97]⟩ : ByteArray)] rfl (by (try simp only [List.map_toArray, List.map_cons, List.map_nil]); first | done | rfl | (simp only [List.length_drop, List.length_take]; rfl)) ?_; (with_reducible refine (shelfmarkref10_Str.calls k (⟨#[97]⟩ : ByteArray) t222 _ A23.out).mono ?_); rintro e w106 ⟨rfl, hb⟩; refine ⟨_, rfl, ?_⟩; have n0_ := Aside0.mk (below_step (by repeat (first | (with_reducible first | exact HB.out | apply below_alloc | apply pw_below_drewN | apply below_drew1) | exact HB.out)) hb); clear HB; have HB := n0_; clear n0_; (try clear hb); (try clear hb2); (try clear hk); (try clear hi)) | ((with_reducible refine gate_callee (f := 21) rfl ?_); refine goesL_ (some 35) rfl rfl Tryd.func21 (by kernel_rfl) rfl #[.string (⟨#[110, 111, 100, 101]⟩ : ByteArray)] rfl (by (try simp only [List.map_toArray, List.map_cons, List.map_nil]); first | done | rfl | (simp only [List.length_drop, List.length_take]; rfl)) ?_; (with_reducible refine (shelfmarkref10_Str.calls k (⟨#[110, 111, 100, 101]⟩ : ByteArray) t223 _ A25.out).mono ?_); rintro e w107 ⟨rfl, hb⟩; refine ⟨_, rfl, ?_⟩; have n0_ := Aside0.mk (below_step (by repeat (first | (with_reducible first | exact HB.out | apply below_alloc | apply pw_below_drewN | apply below_drew1) | exact HB.out)) hb); clear HB; have HB := n0_; clear n0_; (try clear hb); (try clear hb2); (try clear hk); (try clear hi)) | ((with_reducible refine gate_callee (f := 21) rfl ?_); refine goesL_ (some 39) rfl rfl Tryd.func21 (by kernel_rfl) rfl #[.string (⟨#[41]⟩ : ByteArray)] rfl (by (try simp only [List.map_toArray, List.map_cons, List.map_nil]); first | done | rfl | (simp only [List.length_drop, List.length_take]; rfl)) ?_; (with_reducible refine (shelfmarkref10_Str.calls k (⟨#[41]⟩ : ByteArray) t224 _ A28.out).mono ?_); rintro e w108 ⟨rfl, hb⟩; refine ⟨_, rfl, ?_⟩; have n0_ := Aside0.mk (below_step (by repeat (first | (with_reducible first | exact HB.out | apply below_alloc | apply pw_below_drewN | apply below_drew1) | exact HB.out)) hb); clear HB; have HB := n0_; clear n0_; (try clear hb); (try clear hb2); (try clear hk); (try clear hi)))
                                                                                                have n0_ := Aside0.mk (below_drew1 HB.out)
                                                                                                clear HB
                                                                                                have HB := n0_
                                                                                                clear n0_
                                                                                                refine start_ (n := 64) (S := fun w' => True) (ds := []) #[false, false, false, false, false, false, false, false, false, false, false, false, false, false, false, false, false, false, false, false, false, false, false, false, false, false, false, false, false, false, false, false, false, false, false, false, false, false, false, false, false, false, false, false, false, false, false, false, false, false, false, false, false, false, false, false, false, false, false, false, false, false, false, false] (by kernel_rfl) rfl rfl trivial (fun hHeld => ?_); refine with_tabW shelfmarklaw11_ParseForms.tab4 shelfmarklaw11_ParseForms.bits4 (fun HT_ HW_ => ?_)
                                                                                                generalize w108.drew = w109 at HB hHeld ⊢
                                                                                                refine pure_ (i := 0) (N := some 41) (v := ?_) (a' := ?_) #[true, false, false, false, false, false, false, false, false, false, false, false, false, false, false, false, false, false, false, false, false, false, false, false, false, false, false, false, false, false, false, false, false, false, false, false, false, false, false, false, false, false, false, false, false, false, false, false, false, false, false, false, false, false, false, false, false, false, false, false, false, false, false, false] rfl rfl (any_of HT_.out (by kernel_rfl)) (fun _ _ _ h => h) (Or.inl ⟨by rfl, ?_⟩) ?_ ?_
                                                                                                rotate_left
                                                                                                · intro w'
                                                                                                  go_simp
                                                                                                  with_reducible rfl
                                                                                                rotate_left
                                                                                                · simp only [Act.put, List.setIfInBounds_toArray, List.set_cons_zero, List.set_cons_succ, i64_w, i32_w]
                                                                                                  rfl
                                                                                                refine pure_ (i := 3) (N := some 44) (v := ?_) (a' := ?_) #[true, false, false, true, false, false, false, false, false, false, false, false, false, false, false, false, false, false, false, false, false, false, false, false, false, false, false, false, false, false, false, false, false, false, false, false, false, false, false, false, false, false, false, false, false, false, false, false, false, false, false, false, false, false, false, false, false, false, false, false, false, false, false, false] rfl rfl (any_of HT_.out (by kernel_rfl)) (fun _ _ _ h => h) (Or.inl ⟨by rfl, ?_⟩) ?_ ?_
                                                                                                rotate_left
                                                                                                · intro w'
                                                                                                  go_simp
                                                                                                  with_reducible rfl
                                                                                                rotate_left
                                                                                                · simp only [Act.put, List.setIfInBounds_toArray, List.set_cons_zero, List.set_cons_succ, i64_w, i32_w]
                                                                                                  rfl
                                                                                                refine pure_ (i := 12) (N := some 53) (v := ?_) (a' := ?_) #[true, false, false, true, false, false, false, false, false, false, false, false, true, false, false, false, false, false, false, false, false, false, false, false, false, false, false, false, false, false, false, false, false, false, false, false, false, false, false, false, false, false, false, false, false, false, false, false, false, false, false, false, false, false, false, false, false, false, false, false, false, false, false, false] rfl rfl (any_of HT_.out (by kernel_rfl)) (fun _ _ _ h => h) (Or.inl ⟨by rfl, ?_⟩) ?_ ?_
                                                                                                rotate_left
                                                                                                · intro w'
                                                                                                  go_simp
                                                                                                  with_reducible rfl
                                                                                                rotate_left
                                                                                                · simp only [Act.put, List.setIfInBounds_toArray, List.set_cons_zero, List.set_cons_succ, i64_w, i32_w]
                                                                                                  rfl
                                                                                                refine pure_ (i := 19) (N := some 60) (v := ?_) (a' := ?_) #[true, false, false, true, false, false, false, false, false, false, false, false, true, false, false, false, false, false, false, true, false, false, false, false, false, false, false, false, false, false, false, false, false, false, false, false, false, false, false, false, false, false, false, false, false, false, false, false, false, false, false, false, false, false, false, false, false, false, false, false, false, false, false, false] rfl rfl (any_of HT_.out (by kernel_rfl)) (fun _ _ _ h => h) (Or.inl ⟨by rfl, ?_⟩) ?_ ?_
                                                                                                rotate_left
                                                                                                · intro w'
                                                                                                  go_simp
                                                                                                  with_reducible rfl
                                                                                                rotate_left
                                                                                                · simp only [Act.put, List.setIfInBounds_toArray, List.set_cons_zero, List.set_cons_succ, i64_w, i32_w]
                                                                                                  rfl
                                                                                                refine pure_ (i := 22) (N := some 63) (v := ?_) (a' := ?_) #[true, false, false, true, false, false, false, false, false, false, false, false, true, false, false, false, false, false, false, true, false, false, true, false, false, false, false, false, false, false, false, false, false, false, false, false, false, false, false, false, false, false, false, false, false, false, false, false, false, false, false, false, false, false, false, false, false, false, false, false, false, false, false, false] rfl rfl (any_of HT_.out (by kernel_rfl)) (fun _ _ _ h => h) (Or.inl ⟨by rfl, ?_⟩) ?_ ?_
                                                                                                rotate_left
                                                                                                · intro w'
                                                                                                  go_simp
                                                                                                  with_reducible rfl
                                                                                                rotate_left
                                                                                                · simp only [Act.put, List.setIfInBounds_toArray, List.set_cons_zero, List.set_cons_succ, i64_w, i32_w]
                                                                                                  rfl
                                                                                                refine pure_ (i := 24) (N := some 65) (v := ?_) (a' := ?_) #[true, false, false, true, false, false, false, false, false, false, false, false, true, false, false, false, false, false, false, true, false, false, true, false, true, false, false, false, false, false, false, false, false, false, false, false, false, false, false, false, false, false, false, false, false, false, false, false, false, false, false, false, false, false, false, false, false, false, false, false, false, false, false, false] rfl rfl (any_of HT_.out (by kernel_rfl)) (fun _ _ _ h => h) (Or.inl ⟨by rfl, ?_⟩) ?_ ?_
                                                                                                rotate_left
                                                                                                · intro w'
                                                                                                  go_simp
                                                                                                  with_reducible rfl
                                                                                                rotate_left
                                                                                                · simp only [Act.put, List.setIfInBounds_toArray, List.set_cons_zero, List.set_cons_succ, i64_w, i32_w]
                                                                                                  rfl
                                                                                                refine pure_ (i := 26) (N := some 67) (v := ?_) (a' := ?_) #[true, false, false, true, false, false, false, false, false, false, false, false, true, false, false, false, false, false, false, true, false, false, true, false, true, false, true, false, false, false, false, false, false, false, false, false, false, false, false, false, false, false, false, false, false, false, false, false, false, false, false, false, false, false, false, false, false, false, false, false, false, false, false, false] rfl rfl (any_of HT_.out (by kernel_rfl)) (fun _ _ _ h => h) (Or.inl ⟨by rfl, ?_⟩) ?_ ?_
                                                                                                rotate_left
                                                                                                · intro w'
                                                                                                  go_simp
                                                                                                  with_reducible rfl
                                                                                                rotate_left
                                                                                                · simp only [Act.put, List.setIfInBounds_toArray, List.set_cons_zero, List.set_cons_succ, i64_w, i32_w]
                                                                                                  rfl
                                                                                                refine pure_ (i := 37) (N := some 78) (v := ?_) (a' := ?_) #[true, false, false, true, false, false, false, false, false, false, false, false, true, false, false, false, false, false, false, true, false, false, true, false, true, false, true, false, false, false, false, false, false, false, false, false, false, true, false, false, false, false, false, false, false, false, false, false, false, false, false, false, false, false, false, false, false, false, false, false, false, false, false, false] rfl rfl (any_of HT_.out (by kernel_rfl)) (fun _ _ _ h => h) (Or.inl ⟨by rfl, ?_⟩) ?_ ?_
                                                                                                rotate_left
                                                                                                · intro w'
                                                                                                  go_simp
                                                                                                  with_reducible rfl
                                                                                                rotate_left
                                                                                                · simp only [Act.put, List.setIfInBounds_toArray, List.set_cons_zero, List.set_cons_succ, i64_w, i32_w]
                                                                                                  rfl
                                                                                                refine pure_ (i := 48) (N := some 89) (v := ?_) (a' := ?_) #[true, false, false, true, false, false, false, false, false, false, false, false, true, false, false, false, false, false, false, true, false, false, true, false, true, false, true, false, false, false, false, false, false, false, false, false, false, true, false, false, false, false, false, false, false, false, false, false, true, false, false, false, false, false, false, false, false, false, false, false, false, false, false, false] rfl rfl (any_of HT_.out (by kernel_rfl)) (fun _ _ _ h => h) (Or.inl ⟨by rfl, ?_⟩) ?_ ?_
                                                                                                rotate_left
                                                                                                · intro w'
                                                                                                  go_simp
                                                                                                  with_reducible rfl
                                                                                                rotate_left
                                                                                                · simp only [Act.put, List.setIfInBounds_toArray, List.set_cons_zero, List.set_cons_succ, i64_w, i32_w]
                                                                                                  rfl
                                                                                                refine pure_ (i := 53) (N := some 94) (v := ?_) (a' := ?_) #[true, false, false, true, false, false, false, false, false, false, false, false, true, false, false, false, false, false, false, true, false, false, true, false, true, false, true, false, false, false, false, false, false, false, false, false, false, true, false, false, false, false, false, false, false, false, false, false, true, false, false, false, false, true, false, false, false, false, false, false, false, false, false, false] rfl rfl (any_of HT_.out (by kernel_rfl)) (fun _ _ _ h => h) (Or.inl ⟨by rfl, ?_⟩) ?_ ?_
                                                                                                rotate_left
                                                                                                · intro w'
                                                                                                  go_simp
                                                                                                  with_reducible rfl
                                                                                                rotate_left
                                                                                                · simp only [Act.put, List.setIfInBounds_toArray, List.set_cons_zero, List.set_cons_succ, i64_w, i32_w]
                                                                                                  rfl
                                                                                                refine pure_ (i := 56) (N := some 97) (v := ?_) (a' := ?_) #[true, false, false, true, false, false, false, false, false, false, false, false, true, false, false, false, false, false, false, true, false, false, true, false, true, false, true, false, false, false, false, false, false, false, false, false, false, true, false, false, false, false, false, false, false, false, false, false, true, false, false, false, false, true, false, false, true, false, false, false, false, false, false, false] rfl rfl (any_of HT_.out (by kernel_rfl)) (fun _ _ _ h => h) (Or.inl ⟨by rfl, ?_⟩) ?_ ?_
                                                                                                rotate_left
                                                                                                · intro w'
                                                                                                  go_simp
                                                                                                  with_reducible rfl
                                                                                                rotate_left
                                                                                                · simp only [Act.put, List.setIfInBounds_toArray, List.set_cons_zero, List.set_cons_succ, i64_w, i32_w]
                                                                                                  rfl
                                                                                                refine one_ (i := 1) (N := some 42) #[true, true, false, true, false, false, false, false, false, false, false, false, true, false, false, false, false, false, false, true, false, false, true, false, true, false, true, false, false, false, false, false, false, false, false, false, false, true, false, false, false, false, false, false, false, false, false, false, true, false, false, false, false, true, false, false, true, false, false, false, false, false, false, false] rfl rfl (one_of HT_.out (by kernel_rfl)) (by decide) (fun K hK => ?_)
                                                                                                refine goes_ Tryd.func21 (by kernel_rfl) rfl #[.string (⟨#[111, 116, 104, 101, 114]⟩ : ByteArray)] (by rfl) rfl rfl (by (try simp only [List.map_toArray, List.map_cons, List.map_nil]); first | done | rfl | (simp only [List.length_drop, List.length_take]; rfl)) ?_
                                                                                                with_reducible refine (shelfmarkref10_Str.calls k (⟨#[111, 116, 104, 101, 114]⟩ : ByteArray) t225 _ A30.out).mono ?_
                                                                                                rintro e w110 ⟨rfl, hb⟩
                                                                                                refine ⟨_, rfl, ?_⟩
                                                                                                have n0_ := Aside0.mk (below_step (by repeat (first | (with_reducible first | exact HB.out | apply below_alloc | apply pw_below_drewN | apply below_drew1) | exact HB.out)) hb)
                                                                                                clear HB
                                                                                                have HB := n0_
                                                                                                clear n0_
                                                                                                (try clear hb)
                                                                                                (try clear hb2)
                                                                                                (try clear hk)
                                                                                                (try clear hi)
                                                                                                refine hK.out _ _ trivial (fun hHeld => ?_)
                                                                                                clear hK K
                                                                                                refine norm_ (a' := ?_) ?_ ?_
                                                                                                rotate_left
                                                                                                · show Act.put _ (some 42) _ = _
                                                                                                  simp only [Act.put, List.setIfInBounds_toArray, List.set_cons_zero, List.set_cons_succ, i64_w, i32_w]
                                                                                                  rfl
                                                                                                refine pure_ (i := 2) (N := some 43) (v := ?_) (a' := ?_) #[true, true, true, true, false, false, false, false, false, false, false, false, true, false, false, false, false, false, false, true, false, false, true, false, true, false, true, false, false, false, false, false, false, false, false, false, false, true, false, false, false, false, false, false, false, false, false, false, true, false, false, false, false, true, false, false, true, false, false, false, false, false, false, false] rfl rfl (any_of HT_.out (by kernel_rfl)) (fun _ _ _ h => h) (Or.inl ⟨by rfl, ?_⟩) ?_ ?_
                                                                                                rotate_left
                                                                                                · intro w'
                                                                                                  go_simp
                                                                                                  with_reducible rfl
                                                                                                rotate_left
                                                                                                · simp only [Act.put, List.setIfInBounds_toArray, List.set_cons_zero, List.set_cons_succ, i64_w, i32_w]
                                                                                                  rfl
                                                                                                refine one_ (i := 4) (N := some 45) #[true, true, true, true, true, false, false, false, false, false, false, false, true, false, false, false, false, false, false, true, false, false, true, false, true, false, true, false, false, false, false, false, false, false, false, false, false, true, false, false, false, false, false, false, false, false, false, false, true, false, false, false, false, true, false, false, true, false, false, false, false, false, false, false] rfl rfl (one_of HT_.out (by kernel_rfl)) (by decide) (fun K hK => ?_)
                                                                                                refine goes_ Tryd.func21 (by kernel_rfl) rfl #[.string (⟨#[115, 121, 109, 108, 105, 110, 107]⟩ : ByteArray)] (by rfl) rfl rfl (by (try simp only [List.map_toArray, List.map_cons, List.map_nil]); first | done | rfl | (simp only [List.length_drop, List.length_take]; rfl)) ?_
                                                                                                with_reducible refine (shelfmarkref10_Str.calls k (⟨#[115, 121, 109, 108, 105, 110, 107]⟩ : ByteArray) t226 _ A32.out).mono ?_
                                                                                                rintro e w111 ⟨rfl, hb⟩
                                                                                                refine ⟨_, rfl, ?_⟩
                                                                                                have n0_ := Aside0.mk (below_step (by repeat (first | (with_reducible first | exact HB.out | apply below_alloc | apply pw_below_drewN | apply below_drew1) | exact HB.out)) hb)
                                                                                                clear HB
                                                                                                have HB := n0_
                                                                                                clear n0_
                                                                                                (try clear hb)
                                                                                                (try clear hb2)
                                                                                                (try clear hk)
                                                                                                (try clear hi)
                                                                                                refine hK.out _ _ trivial (fun hHeld => ?_)
                                                                                                clear hK K
                                                                                                refine norm_ (a' := ?_) ?_ ?_
                                                                                                rotate_left
                                                                                                · show Act.put _ (some 45) _ = _
                                                                                                  simp only [Act.put, List.setIfInBounds_toArray, List.set_cons_zero, List.set_cons_succ, i64_w, i32_w]
                                                                                                  rfl
                                                                                                refine pure_ (i := 5) (N := some 46) (v := ?_) (a' := ?_) #[true, true, true, true, true, true, false, false, false, false, false, false, true, false, false, false, false, false, false, true, false, false, true, false, true, false, true, false, false, false, false, false, false, false, false, false, false, true, false, false, false, false, false, false, false, false, false, false, true, false, false, false, false, true, false, false, true, false, false, false, false, false, false, false] rfl rfl (any_of HT_.out (by kernel_rfl)) (fun _ _ _ h => h) (Or.inl ⟨by rfl, ?_⟩) ?_ ?_
                                                                                                rotate_left
                                                                                                · intro w'
                                                                                                  go_simp
                                                                                                  with_reducible rfl
                                                                                                rotate_left
                                                                                                · simp only [Act.put, List.setIfInBounds_toArray, List.set_cons_zero, List.set_cons_succ, i64_w, i32_w]
                                                                                                  rfl
                                                                                                refine one_ (i := 6) (N := some 47) #[true, true, true, true, true, true, true, false, false, false, false, false, true, false, false, false, false, false, false, true, false, false, true, false, true, false, true, false, false, false, false, false, false, false, false, false, false, true, false, false, false, false, false, false, false, false, false, false, true, false, false, false, false, true, false, false, true, false, false, false, false, false, false, false] rfl rfl (one_of HT_.out (by kernel_rfl)) (by decide) (fun K hK => ?_)
                                                                                                refine goes_ Tryd.func21 (by kernel_rfl) rfl #[.string (⟨#[116, 97, 114, 103, 101, 116]⟩ : ByteArray)] (by rfl) rfl rfl (by (try simp only [List.map_toArray, List.map_cons, List.map_nil]); first | done | rfl | (simp only [List.length_drop, List.length_take]; rfl)) ?_
                                                                                                with_reducible refine (shelfmarkref10_Str.calls k (⟨#[116, 97, 114, 103, 101, 116]⟩ : ByteArray) t227 _ A34.out).mono ?_
                                                                                                rintro e w112 ⟨rfl, hb⟩
                                                                                                refine ⟨_, rfl, ?_⟩
                                                                                                have n0_ := Aside0.mk (below_step (by repeat (first | (with_reducible first | exact HB.out | apply below_alloc | apply pw_below_drewN | apply below_drew1) | exact HB.out)) hb)
                                                                                                clear HB
                                                                                                have HB := n0_
                                                                                                clear n0_
                                                                                                (try clear hb)
                                                                                                (try clear hb2)
                                                                                                (try clear hk)
                                                                                                (try clear hi)
                                                                                                refine hK.out _ _ trivial (fun hHeld => ?_)
                                                                                                clear hK K
                                                                                                refine norm_ (a' := ?_) ?_ ?_
                                                                                                rotate_left
                                                                                                · show Act.put _ (some 47) _ = _
                                                                                                  simp only [Act.put, List.setIfInBounds_toArray, List.set_cons_zero, List.set_cons_succ, i64_w, i32_w]
                                                                                                  rfl
                                                                                                refine pure_ (i := 7) (N := some 48) (v := ?_) (a' := ?_) #[true, true, true, true, true, true, true, true, false, false, false, false, true, false, false, false, false, false, false, true, false, false, true, false, true, false, true, false, false, false, false, false, false, false, false, false, false, true, false, false, false, false, false, false, false, false, false, false, true, false, false, false, false, true, false, false, true, false, false, false, false, false, false, false] rfl rfl (any_of HT_.out (by kernel_rfl)) (fun _ _ _ h => h) (Or.inl ⟨by rfl, ?_⟩) ?_ ?_
                                                                                                rotate_left
                                                                                                · intro w'
                                                                                                  go_simp
                                                                                                  with_reducible rfl
                                                                                                rotate_left
                                                                                                · simp only [Act.put, List.setIfInBounds_toArray, List.set_cons_zero, List.set_cons_succ, i64_w, i32_w]
                                                                                                  rfl
                                                                                                refine one_ (i := 8) (N := some 49) #[true, true, true, true, true, true, true, true, true, false, false, false, true, false, false, false, false, false, false, true, false, false, true, false, true, false, true, false, false, false, false, false, false, false, false, false, false, true, false, false, false, false, false, false, false, false, false, false, true, false, false, false, false, true, false, false, true, false, false, false, false, false, false, false] rfl rfl (one_of HT_.out (by kernel_rfl)) (by decide) (fun K hK => ?_)
                                                                                                refine goes_ Tryd.func21 (by kernel_rfl) rfl #[.string (⟨#[]⟩ : ByteArray)] (by rfl) rfl rfl (by (try simp only [List.map_toArray, List.map_cons, List.map_nil]); first | done | rfl | (simp only [List.length_drop, List.length_take]; rfl)) ?_
                                                                                                with_reducible refine (shelfmarkref10_Str.calls k (⟨#[]⟩ : ByteArray) t228 _ A36.out).mono ?_
                                                                                                rintro e w113 ⟨rfl, hb⟩
                                                                                                refine ⟨_, rfl, ?_⟩
                                                                                                have n0_ := Aside0.mk (below_step (by repeat (first | (with_reducible first | exact HB.out | apply below_alloc | apply pw_below_drewN | apply below_drew1) | exact HB.out)) hb)
                                                                                                clear HB
                                                                                                have HB := n0_
                                                                                                clear n0_
                                                                                                (try clear hb)
                                                                                                (try clear hb2)
                                                                                                (try clear hk)
                                                                                                (try clear hi)
                                                                                                refine hK.out _ _ trivial (fun hHeld => ?_)
                                                                                                clear hK K
                                                                                                refine norm_ (a' := ?_) ?_ ?_
                                                                                                rotate_left
                                                                                                · show Act.put _ (some 49) _ = _
                                                                                                  simp only [Act.put, List.setIfInBounds_toArray, List.set_cons_zero, List.set_cons_succ, i64_w, i32_w]
                                                                                                  rfl
                                                                                                refine pure_ (i := 9) (N := some 50) (v := ?_) (a' := ?_) #[true, true, true, true, true, true, true, true, true, true, false, false, true, false, false, false, false, false, false, true, false, false, true, false, true, false, true, false, false, false, false, false, false, false, false, false, false, true, false, false, false, false, false, false, false, false, false, false, true, false, false, false, false, true, false, false, true, false, false, false, false, false, false, false] rfl rfl (any_of HT_.out (by kernel_rfl)) (fun _ _ _ h => h) (Or.inl ⟨by rfl, ?_⟩) ?_ ?_
                                                                                                rotate_left
                                                                                                · intro w'
                                                                                                  go_simp
                                                                                                  with_reducible rfl
                                                                                                rotate_left
                                                                                                · simp only [Act.put, List.setIfInBounds_toArray, List.set_cons_zero, List.set_cons_succ, i64_w, i32_w]
                                                                                                  rfl
                                                                                                refine one_ (i := 10) (N := some 51) #[true, true, true, true, true, true, true, true, true, true, true, false, true, false, false, false, false, false, false, true, false, false, true, false, true, false, true, false, false, false, false, false, false, false, false, false, false, true, false, false, false, false, false, false, false, false, false, false, true, false, false, false, false, true, false, false, true, false, false, false, false, false, false, false] rfl rfl (one_of HT_.out (by kernel_rfl)) (by decide) (fun K hK => ?_)
                                                                                                refine goes_ Tryd.func21 (by kernel_rfl) rfl #[.string (⟨#[41]⟩ : ByteArray)] (by rfl) rfl rfl (by (try simp only [List.map_toArray, List.map_cons, List.map_nil]); first | done | rfl | (simp only [List.length_drop, List.length_take]; rfl)) ?_
                                                                                                with_reducible refine (shelfmarkref10_Str.calls k (⟨#[41]⟩ : ByteArray) t229 _ A38.out).mono ?_
                                                                                                rintro e w114 ⟨rfl, hb⟩
                                                                                                refine ⟨_, rfl, ?_⟩
                                                                                                have n0_ := Aside0.mk (below_step (by repeat (first | (with_reducible first | exact HB.out | apply below_alloc | apply pw_below_drewN | apply below_drew1) | exact HB.out)) hb)
                                                                                                clear HB
                                                                                                have HB := n0_
                                                                                                clear n0_
                                                                                                (try clear hb)
                                                                                                (try clear hb2)
                                                                                                (try clear hk)
                                                                                                (try clear hi)
                                                                                                refine hK.out _ _ trivial (fun hHeld => ?_)
                                                                                                clear hK K
                                                                                                refine norm_ (a' := ?_) ?_ ?_
                                                                                                rotate_left
                                                                                                · show Act.put _ (some 51) _ = _
                                                                                                  simp only [Act.put, List.setIfInBounds_toArray, List.set_cons_zero, List.set_cons_succ, i64_w, i32_w]
                                                                                                  rfl
                                                                                                refine pure_ (i := 11) (N := some 52) (v := ?_) (a' := ?_) #[true, true, true, true, true, true, true, true, true, true, true, true, true, false, false, false, false, false, false, true, false, false, true, false, true, false, true, false, false, false, false, false, false, false, false, false, false, true, false, false, false, false, false, false, false, false, false, false, true, false, false, false, false, true, false, false, true, false, false, false, false, false, false, false] rfl rfl (any_of HT_.out (by kernel_rfl)) (fun _ _ _ h => h) (Or.inl ⟨by rfl, ?_⟩) ?_ ?_
                                                                                                rotate_left
                                                                                                · intro w'
                                                                                                  go_simp
                                                                                                  with_reducible rfl
                                                                                                rotate_left
                                                                                                · simp only [Act.put, List.setIfInBounds_toArray, List.set_cons_zero, List.set_cons_succ, i64_w, i32_w]
                                                                                                  rfl
                                                                                                refine one_ (i := 13) (N := some 54) #[true, true, true, true, true, true, true, true, true, true, true, true, true, true, false, false, false, false, false, true, false, false, true, false, true, false, true, false, false, false, false, false, false, false, false, false, false, true, false, false, false, false, false, false, false, false, false, false, true, false, false, false, false, true, false, false, true, false, false, false, false, false, false, false] rfl rfl (one_of HT_.out (by kernel_rfl)) (by decide) (fun K hK => ?_)
                                                                                                refine goes_ Tryd.func21 (by kernel_rfl) rfl #[.string (⟨#[114, 101, 103, 117, 108, 97, 114]⟩ : ByteArray)] (by rfl) rfl rfl (by (try simp only [List.map_toArray, List.map_cons, List.map_nil]); first | done | rfl | (simp only [List.length_drop, List.length_take]; rfl)) ?_
                                                                                                with_reducible refine (shelfmarkref10_Str.calls k (⟨#[114, 101, 103, 117, 108, 97, 114]⟩ : ByteArray) t230 _ A40.out).mono ?_
                                                                                                rintro e w115 ⟨rfl, hb⟩
                                                                                                refine ⟨_, rfl, ?_⟩
                                                                                                have n0_ := Aside0.mk (below_step (by repeat (first | (with_reducible first | exact HB.out | apply below_alloc | apply pw_below_drewN | apply below_drew1) | exact HB.out)) hb)
                                                                                                clear HB
                                                                                                have HB := n0_
                                                                                                clear n0_
                                                                                                (try clear hb)
                                                                                                (try clear hb2)
                                                                                                (try clear hk)
                                                                                                (try clear hi)
                                                                                                refine hK.out _ _ trivial (fun hHeld => ?_)
                                                                                                clear hK K
                                                                                                refine norm_ (a' := ?_) ?_ ?_
                                                                                                rotate_left
                                                                                                · show Act.put _ (some 54) _ = _
                                                                                                  simp only [Act.put, List.setIfInBounds_toArray, List.set_cons_zero, List.set_cons_succ, i64_w, i32_w]
                                                                                                  rfl
                                                                                                refine pure_ (i := 14) (N := some 55) (v := ?_) (a' := ?_) #[true, true, true, true, true, true, true, true, true, true, true, true, true, true, true, false, false, false, false, true, false, false, true, false, true, false, true, false, false, false, false, false, false, false, false, false, false, true, false, false, false, false, false, false, false, false, false, false, true, false, false, false, false, true, false, false, true, false, false, false, false, false, false, false] rfl rfl (any_of HT_.out (by kernel_rfl)) (fun _ _ _ h => h) (Or.inl ⟨by rfl, ?_⟩) ?_ ?_
                                                                                                rotate_left
                                                                                                · intro w'
                                                                                                  go_simp
                                                                                                  with_reducible rfl
                                                                                                rotate_left
                                                                                                · simp only [Act.put, List.setIfInBounds_toArray, List.set_cons_zero, List.set_cons_succ, i64_w, i32_w]
                                                                                                  rfl
                                                                                                refine one_ (i := 15) (N := some 56) #[true, true, true, true, true, true, true, true, true, true, true, true, true, true, true, true, false, false, false, true, false, false, true, false, true, false, true, false, false, false, false, false, false, false, false, false, false, true, false, false, false, false, false, false, false, false, false, false, true, false, false, false, false, true, false, false, true, false, false, false, false, false, false, false] rfl rfl (one_of HT_.out (by kernel_rfl)) (by decide) (fun K hK => ?_)
                                                                                                refine goes_ Tryd.func21 (by kernel_rfl) rfl #[.string (⟨#[101, 120, 101, 99, 117, 116, 97, 98, 108, 101]⟩ : ByteArray)] (by rfl) rfl rfl (by (try simp only [List.map_toArray, List.map_cons, List.map_nil]); first | done | rfl | (simp only [List.length_drop, List.length_take]; rfl)) ?_
                                                                                                with_reducible refine (shelfmarkref10_Str.calls k (⟨#[101, 120, 101, 99, 117, 116, 97, 98, 108, 101]⟩ : ByteArray) t231 _ A42.out).mono ?_
                                                                                                rintro e w116 ⟨rfl, hb⟩
                                                                                                refine ⟨_, rfl, ?_⟩
                                                                                                have n0_ := Aside0.mk (below_step (by repeat (first | (with_reducible first | exact HB.out | apply below_alloc | apply pw_below_drewN | apply below_drew1) | exact HB.out)) hb)
                                                                                                clear HB
                                                                                                have HB := n0_
                                                                                                clear n0_
                                                                                                (try clear hb)
                                                                                                (try clear hb2)
                                                                                                (try clear hk)
                                                                                                (try clear hi)
                                                                                                refine hK.out _ _ trivial (fun hHeld => ?_)
                                                                                                clear hK K
                                                                                                refine norm_ (a' := ?_) ?_ ?_
                                                                                                rotate_left
                                                                                                · show Act.put _ (some 56) _ = _
                                                                                                  simp only [Act.put, List.setIfInBounds_toArray, List.set_cons_zero, List.set_cons_succ, i64_w, i32_w]
                                                                                                  rfl
                                                                                                refine pure_ (i := 16) (N := some 57) (v := ?_) (a' := ?_) #[true, true, true, true, true, true, true, true, true, true, true, true, true, true, true, true, true, false, false, true, false, false, true, false, true, false, true, false, false, false, false, false, false, false, false, false, false, true, false, false, false, false, false, false, false, false, false, false, true, false, false, false, false, true, false, false, true, false, false, false, false, false, false, false] rfl rfl (any_of HT_.out (by kernel_rfl)) (fun _ _ _ h => h) (Or.inl ⟨by rfl, ?_⟩) ?_ ?_
                                                                                                rotate_left
                                                                                                · intro w'
                                                                                                  go_simp
                                                                                                  with_reducible rfl
                                                                                                rotate_left
                                                                                                · simp only [Act.put, List.setIfInBounds_toArray, List.set_cons_zero, List.set_cons_succ, i64_w, i32_w]
                                                                                                  rfl
                                                                                                refine one_ (i := 17) (N := some 58) #[true, true, true, true, true, true, true, true, true, true, true, true, true, true, true, true, true, true, false, true, false, false, true, false, true, false, true, false, false, false, false, false, false, false, false, false, false, true, false, false, false, false, false, false, false, false, false, false, true, false, false, false, false, true, false, false, true, false, false, false, false, false, false, false] rfl rfl (one_of HT_.out (by kernel_rfl)) (by decide) (fun K hK => ?_)
                                                                                                refine goes_ Tryd.func21 (by kernel_rfl) rfl #[.string (⟨#[120]⟩ : ByteArray)] (by rfl) rfl rfl (by (try simp only [List.map_toArray, List.map_cons, List.map_nil]); first | done | rfl | (simp only [List.length_drop, List.length_take]; rfl)) ?_
                                                                                                with_reducible refine (shelfmarkref10_Str.calls k (⟨#[120]⟩ : ByteArray) t232 _ A44.out).mono ?_
                                                                                                rintro e w117 ⟨rfl, hb⟩
                                                                                                refine ⟨_, rfl, ?_⟩
                                                                                                have n0_ := Aside0.mk (below_step (by repeat (first | (with_reducible first | exact HB.out | apply below_alloc | apply pw_below_drewN | apply below_drew1) | exact HB.out)) hb)
                                                                                                clear HB
                                                                                                have HB := n0_
                                                                                                clear n0_
                                                                                                (try clear hb)
                                                                                                (try clear hb2)
                                                                                                (try clear hk)
                                                                                                (try clear hi)
                                                                                                refine hK.out _ _ trivial (fun hHeld => ?_)
                                                                                                clear hK K
                                                                                                refine norm_ (a' := ?_) ?_ ?_
                                                                                                rotate_left
                                                                                                · show Act.put _ (some 58) _ = _
                                                                                                  simp only [Act.put, List.setIfInBounds_toArray, List.set_cons_zero, List.set_cons_succ, i64_w, i32_w]
                                                                                                  rfl
                                                                                                refine pure_ (i := 18) (N := some 59) (v := ?_) (a' := ?_) #[true, true, true, true, true, true, true, true, true, true, true, true, true, true, true, true, true, true, true, true, false, false, true, false, true, false, true, false, false, false, false, false, false, false, false, false, false, true, false, false, false, false, false, false, false, false, false, false, true, false, false, false, false, true, false, false, true, false, false, false, false, false, false, false] rfl rfl (any_of HT_.out (by kernel_rfl)) (fun _ _ _ h => h) (Or.inl ⟨by rfl, ?_⟩) ?_ ?_
                                                                                                rotate_left
                                                                                                · intro w'
                                                                                                  go_simp
                                                                                                  with_reducible rfl
                                                                                                rotate_left
                                                                                                · simp only [Act.put, List.setIfInBounds_toArray, List.set_cons_zero, List.set_cons_succ, i64_w, i32_w]
                                                                                                  rfl
                                                                                                refine one_ (i := 20) (N := some 61) #[true, true, true, true, true, true, true, true, true, true, true, true, true, true, true, true, true, true, true, true, true, false, true, false, true, false, true, false, false, false, false, false, false, false, false, false, false, true, false, false, false, false, false, false, false, false, false, false, true, false, false, false, false, true, false, false, true, false, false, false, false, false, false, false] rfl rfl (one_of HT_.out (by kernel_rfl)) (by decide) (fun K hK => ?_)
                                                                                                refine goes_ Tryd.func21 (by kernel_rfl) rfl #[.string (⟨#[100, 105, 114, 101, 99, 116, 111, 114, 121]⟩ : ByteArray)] (by rfl) rfl rfl (by (try simp only [List.map_toArray, List.map_cons, List.map_nil]); first | done | rfl | (simp only [List.length_drop, List.length_take]; rfl)) ?_
                                                                                                with_reducible refine (shelfmarkref10_Str.calls k (⟨#[100, 105, 114, 101, 99, 116, 111, 114, 121]⟩ : ByteArray) t233 _ A46.out).mono ?_
                                                                                                rintro e w118 ⟨rfl, hb⟩
                                                                                                refine ⟨_, rfl, ?_⟩
                                                                                                have n0_ := Aside0.mk (below_step (by repeat (first | (with_reducible first | exact HB.out | apply below_alloc | apply pw_below_drewN | apply below_drew1) | exact HB.out)) hb)
                                                                                                clear HB
                                                                                                have HB := n0_
                                                                                                clear n0_
                                                                                                (try clear hb)
                                                                                                (try clear hb2)
                                                                                                (try clear hk)
                                                                                                (try clear hi)
                                                                                                refine hK.out _ _ trivial (fun hHeld => ?_)
                                                                                                clear hK K
                                                                                                refine norm_ (a' := ?_) ?_ ?_
                                                                                                rotate_left
                                                                                                · show Act.put _ (some 61) _ = _
                                                                                                  simp only [Act.put, List.setIfInBounds_toArray, List.set_cons_zero, List.set_cons_succ, i64_w, i32_w]
                                                                                                  rfl
                                                                                                refine pure_ (i := 21) (N := some 62) (v := ?_) (a' := ?_) #[true, true, true, true, true, true, true, true, true, true, true, true, true, true, true, true, true, true, true, true, true, true, true, false, true, false, true, false, false, false, false, false, false, false, false, false, false, true, false, false, false, false, false, false, false, false, false, false, true, false, false, false, false, true, false, false, true, false, false, false, false, false, false, false] rfl rfl (any_of HT_.out (by kernel_rfl)) (fun _ _ _ h => h) (Or.inl ⟨by rfl, ?_⟩) ?_ ?_
                                                                                                rotate_left
                                                                                                · intro w'
                                                                                                  go_simp
                                                                                                  with_reducible rfl
                                                                                                rotate_left
                                                                                                · simp only [Act.put, List.setIfInBounds_toArray, List.set_cons_zero, List.set_cons_succ, i64_w, i32_w]
                                                                                                  rfl
                                                                                                refine pure_ (i := 23) (N := some 64) (v := ?_) (a' := ?_) #[true, true, true, true, true, true, true, true, true, true, true, true, true, true, true, true, true, true, true, true, true, true, true, true, true, false, true, false, false, false, false, false, false, false, false, false, false, true, false, false, false, false, false, false, false, false, false, false, true, false, false, false, false, true, false, false, true, false, false, false, false, false, false, false] rfl rfl (any_of HT_.out (by kernel_rfl)) (fun _ _ _ h => h) (Or.inl ⟨by rfl, ?_⟩) ?_ ?_
                                                                                                rotate_left
                                                                                                · intro w'
                                                                                                  go_simp
                                                                                                  with_reducible rfl
                                                                                                rotate_left
                                                                                                · simp only [Act.put, List.setIfInBounds_toArray, List.set_cons_zero, List.set_cons_succ, i64_w, i32_w]
                                                                                                  rfl
                                                                                                refine pure_ (i := 25) (N := some 66) (v := ?_) (a' := ?_) #[true, true, true, true, true, true, true, true, true, true, true, true, true, true, true, true, true, true, true, true, true, true, true, true, true, true, true, false, false, false, false, false, false, false, false, false, false, true, false, false, false, false, false, false, false, false, false, false, true, false, false, false, false, true, false, false, true, false, false, false, false, false, false, false] rfl rfl (any_of HT_.out (by kernel_rfl)) (fun _ _ _ h => h) (Or.inl ⟨by rfl, ?_⟩) ?_ ?_
                                                                                                rotate_left
                                                                                                · intro w'
                                                                                                  go_simp
                                                                                                  with_reducible rfl
                                                                                                rotate_left
                                                                                                · simp only [Act.put, List.setIfInBounds_toArray, List.set_cons_zero, List.set_cons_succ, i64_w, i32_w]
                                                                                                  rfl
                                                                                                refine one_ (i := 27) (N := some 68) #[true, true, true, true, true, true, true, true, true, true, true, true, true, true, true, true, true, true, true, true, true, true, true, true, true, true, true, true, false, false, false, false, false, false, false, false, false, true, false, false, false, false, false, false, false, false, false, false, true, false, false, false, false, true, false, false, true, false, false, false, false, false, false, false] rfl rfl (one_of HT_.out (by kernel_rfl)) (by decide) (fun K hK => ?_)
                                                                                                refine goes_ Tryd.func21 (by kernel_rfl) rfl #[.string (⟨#[100, 105, 114, 101, 99, 116, 111, 114, 121]⟩ : ByteArray)] (by rfl) rfl rfl (by (try simp only [List.map_toArray, List.map_cons, List.map_nil]); first | done | rfl | (simp only [List.length_drop, List.length_take]; rfl)) ?_
                                                                                                with_reducible refine (shelfmarkref10_Str.calls k (⟨#[100, 105, 114, 101, 99, 116, 111, 114, 121]⟩ : ByteArray) t234 _ A50.out).mono ?_
                                                                                                rintro e w119 ⟨rfl, hb⟩
                                                                                                refine ⟨_, rfl, ?_⟩
                                                                                                have n0_ := Aside0.mk (below_step (by repeat (first | (with_reducible first | exact HB.out | apply below_alloc | apply pw_below_drewN | apply below_drew1) | exact HB.out)) hb)
                                                                                                clear HB
                                                                                                have HB := n0_
                                                                                                clear n0_
                                                                                                (try clear hb)
                                                                                                (try clear hb2)
                                                                                                (try clear hk)
                                                                                                (try clear hi)
                                                                                                refine hK.out _ _ trivial (fun hHeld => ?_)
                                                                                                clear hK K
                                                                                                refine norm_ (a' := ?_) ?_ ?_
                                                                                                rotate_left
                                                                                                · show Act.put _ (some 68) _ = _
                                                                                                  simp only [Act.put, List.setIfInBounds_toArray, List.set_cons_zero, List.set_cons_succ, i64_w, i32_w]
                                                                                                  rfl
                                                                                                refine pure_ (i := 28) (N := some 69) (v := ?_) (a' := ?_) #[true, true, true, true, true, true, true, true, true, true, true, true, true, true, true, true, true, true, true, true, true, true, true, true, true, true, true, true, true, false, false, false, false, false, false, false, false, true, false, false, false, false, false, false, false, false, false, false, true, false, false, false, false, true, false, false, true, false, false, false, false, false, false, false] rfl rfl (any_of HT_.out (by kernel_rfl)) (fun _ _ _ h => h) (Or.inl ⟨by rfl, ?_⟩) ?_ ?_
                                                                                                rotate_left
                                                                                                · intro w'
                                                                                                  go_simp
                                                                                                  with_reducible rfl
                                                                                                rotate_left
                                                                                                · simp only [Act.put, List.setIfInBounds_toArray, List.set_cons_zero, List.set_cons_succ, i64_w, i32_w]
                                                                                                  rfl
                                                                                                refine one_ (i := 29) (N := some 70) #[true, true, true, true, true, true, true, true, true, true, true, true, true, true, true, true, true, true, true, true, true, true, true, true, true, true, true, true, true, true, false, false, false, false, false, false, false, true, false, false, false, false, false, false, false, false, false, false, true, false, false, false, false, true, false, false, true, false, false, false, false, false, false, false] rfl rfl (one_of HT_.out (by kernel_rfl)) (by decide) (fun K hK => ?_)
                                                                                                refine goes_ Tryd.func21 (by kernel_rfl) rfl #[.string (⟨#[101, 110, 116, 114, 121]⟩ : ByteArray)] (by rfl) rfl rfl (by (try simp only [List.map_toArray, List.map_cons, List.map_nil]); first | done | rfl | (simp only [List.length_drop, List.length_take]; rfl)) ?_
                                                                                                with_reducible refine (shelfmarkref10_Str.calls k (⟨#[101, 110, 116, 114, 121]⟩ : ByteArray) t235 _ A52.out).mono ?_
                                                                                                rintro e w120 ⟨rfl, hb⟩
                                                                                                refine ⟨_, rfl, ?_⟩
                                                                                                have n0_ := Aside0.mk (below_step (by repeat (first | (with_reducible first | exact HB.out | apply below_alloc | apply pw_below_drewN | apply below_drew1) | exact HB.out)) hb)
                                                                                                clear HB
                                                                                                have HB := n0_
                                                                                                clear n0_
                                                                                                (try clear hb)
                                                                                                (try clear hb2)
                                                                                                (try clear hk)
                                                                                                (try clear hi)
                                                                                                refine hK.out _ _ trivial (fun hHeld => ?_)
                                                                                                clear hK K
                                                                                                refine norm_ (a' := ?_) ?_ ?_
                                                                                                rotate_left
                                                                                                · show Act.put _ (some 70) _ = _
                                                                                                  simp only [Act.put, List.setIfInBounds_toArray, List.set_cons_zero, List.set_cons_succ, i64_w, i32_w]
                                                                                                  rfl
                                                                                                refine pure_ (i := 30) (N := some 71) (v := ?_) (a' := ?_) #[true, true, true, true, true, true, true, true, true, true, true, true, true, true, true, true, true, true, true, true, true, true, true, true, true, true, true, true, true, true, true, false, false, false, false, false, false, true, false, false, false, false, false, false, false, false, false, false, true, false, false, false, false, true, false, false, true, false, false, false, false, false, false, false] rfl rfl (any_of HT_.out (by kernel_rfl)) (fun _ _ _ h => h) (Or.inl ⟨by rfl, ?_⟩) ?_ ?_
                                                                                                rotate_left
                                                                                                · intro w'
                                                                                                  go_simp
                                                                                                  with_reducible rfl
                                                                                                rotate_left
                                                                                                · simp only [Act.put, List.setIfInBounds_toArray, List.set_cons_zero, List.set_cons_succ, i64_w, i32_w]
                                                                                                  rfl
                                                                                                refine one_ (i := 31) (N := some 72) #[true, true, true, true, true, true, true, true, true, true, true, true, true, true, true, true, true, true, true, true, true, true, true, true, true, true, true, true, true, true, true, true, false, false, false, false, false, true, false, false, false, false, false, false, false, false, false, false, true, false, false, false, false, true, false, false, true, false, false, false, false, false, false, false] rfl rfl (one_of HT_.out (by kernel_rfl)) (by decide) (fun K hK => ?_)
                                                                                                refine goes_ Tryd.func21 (by kernel_rfl) rfl #[.string (⟨#[40]⟩ : ByteArray)] (by rfl) rfl rfl (by (try simp only [List.map_toArray, List.map_cons, List.map_nil]); first | done | rfl | (simp only [List.length_drop, List.length_take]; rfl)) ?_
                                                                                                with_reducible refine (shelfmarkref10_Str.calls k (⟨#[40]⟩ : ByteArray) t236 _ A54.out).mono ?_
                                                                                                rintro e w121 ⟨rfl, hb⟩
                                                                                                refine ⟨_, rfl, ?_⟩
                                                                                                have n0_ := Aside0.mk (below_step (by repeat (first | (with_reducible first | exact HB.out | apply below_alloc | apply pw_below_drewN | apply below_drew1) | exact HB.out)) hb)
                                                                                                clear HB
                                                                                                have HB := n0_
                                                                                                clear n0_
                                                                                                (try clear hb)
                                                                                                (try clear hb2)
                                                                                                (try clear hk)
                                                                                                (try clear hi)
                                                                                                refine hK.out _ _ trivial (fun hHeld => ?_)
                                                                                                clear hK K
                                                                                                refine norm_ (a' := ?_) ?_ ?_
                                                                                                rotate_left
                                                                                                · show Act.put _ (some 72) _ = _
                                                                                                  simp only [Act.put, List.setIfInBounds_toArray, List.set_cons_zero, List.set_cons_succ, i64_w, i32_w]
                                                                                                  rfl
                                                                                                refine pure_ (i := 32) (N := some 73) (v := ?_) (a' := ?_) #[true, true, true, true, true, true, true, true, true, true, true, true, true, true, true, true, true, true, true, true, true, true, true, true, true, true, true, true, true, true, true, true, true, false, false, false, false, true, false, false, false, false, false, false, false, false, false, false, true, false, false, false, false, true, false, false, true, false, false, false, false, false, false, false] rfl rfl (any_of HT_.out (by kernel_rfl)) (fun _ _ _ h => h) (Or.inl ⟨by rfl, ?_⟩) ?_ ?_
                                                                                                rotate_left
                                                                                                · intro w'
                                                                                                  go_simp
                                                                                                  with_reducible rfl
                                                                                                rotate_left
                                                                                                · simp only [Act.put, List.setIfInBounds_toArray, List.set_cons_zero, List.set_cons_succ, i64_w, i32_w]
                                                                                                  rfl
                                                                                                refine one_ (i := 33) (N := some 74) #[true, true, true, true, true, true, true, true, true, true, true, true, true, true, true, true, true, true, true, true, true, true, true, true, true, true, true, true, true, true, true, true, true, true, false, false, false, true, false, false, false, false, false, false, false, false, false, false, true, false, false, false, false, true, false, false, true, false, false, false, false, false, false, false] rfl rfl (one_of HT_.out (by kernel_rfl)) (by decide) (fun K hK => ?_)
                                                                                                refine goes_ Tryd.func21 (by kernel_rfl) rfl #[.string (⟨#[110, 97, 109, 101]⟩ : ByteArray)] (by rfl) rfl rfl (by (try simp only [List.map_toArray, List.map_cons, List.map_nil]); first | done | rfl | (simp only [List.length_drop, List.length_take]; rfl)) ?_
                                                                                                with_reducible refine (shelfmarkref10_Str.calls k (⟨#[110, 97, 109, 101]⟩ : ByteArray) t237 _ A56.out).mono ?_
                                                                                                rintro e w122 ⟨rfl, hb⟩
                                                                                                refine ⟨_, rfl, ?_⟩
                                                                                                have n0_ := Aside0.mk (below_step (by repeat (first | (with_reducible first | exact HB.out | apply below_alloc | apply pw_below_drewN | apply below_drew1) | exact HB.out)) hb)
                                                                                                clear HB
                                                                                                have HB := n0_
                                                                                                clear n0_
                                                                                                (try clear hb)
                                                                                                (try clear hb2)
                                                                                                (try clear hk)
                                                                                                (try clear hi)
                                                                                                refine hK.out _ _ trivial (fun hHeld => ?_)
                                                                                                clear hK K
                                                                                                refine norm_ (a' := ?_) ?_ ?_
                                                                                                rotate_left
                                                                                                · show Act.put _ (some 74) _ = _
                                                                                                  simp only [Act.put, List.setIfInBounds_toArray, List.set_cons_zero, List.set_cons_succ, i64_w, i32_w]
                                                                                                  rfl
                                                                                                refine pure_ (i := 34) (N := some 75) (v := ?_) (a' := ?_) #[true, true, true, true, true, true, true, true, true, true, true, true, true, true, true, true, true, true, true, true, true, true, true, true, true, true, true, true, true, true, true, true, true, true, true, false, false, true, false, false, false, false, false, false, false, false, false, false, true, false, false, false, false, true, false, false, true, false, false, false, false, false, false, false] rfl rfl (any_of HT_.out (by kernel_rfl)) (fun _ _ _ h => h) (Or.inl ⟨by rfl, ?_⟩) ?_ ?_
                                                                                                rotate_left
                                                                                                · intro w'
                                                                                                  go_simp
                                                                                                  with_reducible rfl
                                                                                                rotate_left
                                                                                                · simp only [Act.put, List.setIfInBounds_toArray, List.set_cons_zero, List.set_cons_succ, i64_w, i32_w]
                                                                                                  rfl
                                                                                                refine one_ (i := 35) (N := some 76) #[true, true, true, true, true, true, true, true, true, true, true, true, true, true, true, true, true, true, true, true, true, true, true, true, true, true, true, true, true, true, true, true, true, true, true, true, false, true, false, false, false, false, false, false, false, false, false, false, true, false, false, false, false, true, false, false, true, false, false, false, false, false, false, false] rfl rfl (one_of HT_.out (by kernel_rfl)) (by decide) (fun K hK => ?_)
                                                                                                refine goes_ Tryd.func21 (by kernel_rfl) rfl #[.string (⟨#[46, 46]⟩ : ByteArray)] (by rfl) rfl rfl (by (try simp only [List.map_toArray, List.map_cons, List.map_nil]); first | done | rfl | (simp only [List.length_drop, List.length_take]; rfl)) ?_
                                                                                                with_reducible refine (shelfmarkref10_Str.calls k (⟨#[46, 46]⟩ : ByteArray) t238 _ A58.out).mono ?_
                                                                                                rintro e w123 ⟨rfl, hb⟩
                                                                                                refine ⟨_, rfl, ?_⟩
                                                                                                have n0_ := Aside0.mk (below_step (by repeat (first | (with_reducible first | exact HB.out | apply below_alloc | apply pw_below_drewN | apply below_drew1) | exact HB.out)) hb)
                                                                                                clear HB
                                                                                                have HB := n0_
                                                                                                clear n0_
                                                                                                (try clear hb)
                                                                                                (try clear hb2)
                                                                                                (try clear hk)
                                                                                                (try clear hi)
                                                                                                refine hK.out _ _ trivial (fun hHeld => ?_)
                                                                                                clear hK K
                                                                                                refine norm_ (a' := ?_) ?_ ?_
                                                                                                rotate_left
                                                                                                · show Act.put _ (some 76) _ = _
                                                                                                  simp only [Act.put, List.setIfInBounds_toArray, List.set_cons_zero, List.set_cons_succ, i64_w, i32_w]
                                                                                                  rfl
                                                                                                refine pure_ (i := 36) (N := some 77) (v := ?_) (a' := ?_) #[true, true, true, true, true, true, true, true, true, true, true, true, true, true, true, true, true, true, true, true, true, true, true, true, true, true, true, true, true, true, true, true, true, true, true, true, true, true, false, false, false, false, false, false, false, false, false, false, true, false, false, false, false, true, false, false, true, false, false, false, false, false, false, false] rfl rfl (any_of HT_.out (by kernel_rfl)) (fun _ _ _ h => h) (Or.inl ⟨by rfl, ?_⟩) ?_ ?_
                                                                                                rotate_left
                                                                                                · intro w'
                                                                                                  go_simp
                                                                                                  with_reducible rfl
                                                                                                rotate_left
                                                                                                · simp only [Act.put, List.setIfInBounds_toArray, List.set_cons_zero, List.set_cons_succ, i64_w, i32_w]
                                                                                                  rfl
                                                                                                refine one_ (i := 38) (N := some 79) #[true, true, true, true, true, true, true, true, true, true, true, true, true, true, true, true, true, true, true, true, true, true, true, true, true, true, true, true, true, true, true, true, true, true, true, true, true, true, true, false, false, false, false, false, false, false, false, false, true, false, false, false, false, true, false, false, true, false, false, false, false, false, false, false] rfl rfl (one_of HT_.out (by kernel_rfl)) (by decide) (fun K hK => ?_)
                                                                                                refine goes_ Tryd.func21 (by kernel_rfl) rfl #[.string (⟨#[114, 101, 103, 117, 108, 97, 114]⟩ : ByteArray)] (by rfl) rfl rfl (by (try simp only [List.map_toArray, List.map_cons, List.map_nil]); first | done | rfl | (simp only [List.length_drop, List.length_take]; rfl)) ?_
                                                                                                with_reducible refine (shelfmarkref10_Str.calls k (⟨#[114, 101, 103, 117, 108, 97, 114]⟩ : ByteArray) t239 _ A60.out).mono ?_
                                                                                                rintro e w124 ⟨rfl, hb⟩
                                                                                                refine ⟨_, rfl, ?_⟩
                                                                                                have n0_ := Aside0.mk (below_step (by repeat (first | (with_reducible first | exact HB.out | apply below_alloc | apply pw_below_drewN | apply below_drew1) | exact HB.out)) hb)
                                                                                                clear HB
                                                                                                have HB := n0_
                                                                                                clear n0_
                                                                                                (try clear hb)
                                                                                                (try clear hb2)
                                                                                                (try clear hk)
                                                                                                (try clear hi)
                                                                                                refine hK.out _ _ trivial (fun hHeld => ?_)
                                                                                                clear hK K
                                                                                                refine norm_ (a' := ?_) ?_ ?_
                                                                                                rotate_left
                                                                                                · show Act.put _ (some 79) _ = _
                                                                                                  simp only [Act.put, List.setIfInBounds_toArray, List.set_cons_zero, List.set_cons_succ, i64_w, i32_w]
                                                                                                  rfl
                                                                                                refine pure_ (i := 39) (N := some 80) (v := ?_) (a' := ?_) #[true, true, true, true, true, true, true, true, true, true, true, true, true, true, true, true, true, true, true, true, true, true, true, true, true, true, true, true, true, true, true, true, true, true, true, true, true, true, true, true, false, false, false, false, false, false, false, false, true, false, false, false, false, true, false, false, true, false, false, false, false, false, false, false] rfl rfl (any_of HT_.out (by kernel_rfl)) (fun _ _ _ h => h) (Or.inl ⟨by rfl, ?_⟩) ?_ ?_
                                                                                                rotate_left
                                                                                                · intro w'
                                                                                                  go_simp
                                                                                                  with_reducible rfl
                                                                                                rotate_left
                                                                                                · simp only [Act.put, List.setIfInBounds_toArray, List.set_cons_zero, List.set_cons_succ, i64_w, i32_w]
                                                                                                  rfl
                                                                                                refine one_ (i := 40) (N := some 81) #[true, true, true, true, true, true, true, true, true, true, true, true, true, true, true, true, true, true, true, true, true, true, true, true, true, true, true, true, true, true, true, true, true, true, true, true, true, true, true, true, true, false, false, false, false, false, false, false, true, false, false, false, false, true, false, false, true, false, false, false, false, false, false, false] rfl rfl (one_of HT_.out (by kernel_rfl)) (by decide) (fun K hK => ?_)
                                                                                                refine goes_ Tryd.func21 (by kernel_rfl) rfl #[.string (⟨#[99, 111, 110, 116, 101, 110, 116, 115]⟩ : ByteArray)] (by rfl) rfl rfl (by (try simp only [List.map_toArray, List.map_cons, List.map_nil]); first | done | rfl | (simp only [List.length_drop, List.length_take]; rfl)) ?_
                                                                                                with_reducible refine (shelfmarkref10_Str.calls k (⟨#[99, 111, 110, 116, 101, 110, 116, 115]⟩ : ByteArray) t240 _ A62.out).mono ?_
                                                                                                rintro e w125 ⟨rfl, hb⟩
                                                                                                refine ⟨_, rfl, ?_⟩
                                                                                                have n0_ := Aside0.mk (below_step (by repeat (first | (with_reducible first | exact HB.out | apply below_alloc | apply pw_below_drewN | apply below_drew1) | exact HB.out)) hb)
                                                                                                clear HB
                                                                                                have HB := n0_
                                                                                                clear n0_
                                                                                                (try clear hb)
                                                                                                (try clear hb2)
                                                                                                (try clear hk)
                                                                                                (try clear hi)
                                                                                                refine hK.out _ _ trivial (fun hHeld => ?_)
                                                                                                clear hK K
                                                                                                refine norm_ (a' := ?_) ?_ ?_
                                                                                                rotate_left
                                                                                                · show Act.put _ (some 81) _ = _
                                                                                                  simp only [Act.put, List.setIfInBounds_toArray, List.set_cons_zero, List.set_cons_succ, i64_w, i32_w]
                                                                                                  rfl
                                                                                                refine pure_ (i := 41) (N := some 82) (v := ?_) (a' := ?_) #[true, true, true, true, true, true, true, true, true, true, true, true, true, true, true, true, true, true, true, true, true, true, true, true, true, true, true, true, true, true, true, true, true, true, true, true, true, true, true, true, true, true, false, false, false, false, false, false, true, false, false, false, false, true, false, false, true, false, false, false, false, false, false, false] rfl rfl (any_of HT_.out (by kernel_rfl)) (fun _ _ _ h => h) (Or.inl ⟨by rfl, ?_⟩) ?_ ?_
                                                                                                rotate_left
                                                                                                · intro w'
                                                                                                  go_simp
                                                                                                  with_reducible rfl
                                                                                                rotate_left
                                                                                                · simp only [Act.put, List.setIfInBounds_toArray, List.set_cons_zero, List.set_cons_succ, i64_w, i32_w]
                                                                                                  rfl
                                                                                                refine one_ (i := 42) (N := some 83) #[true, true, true, true, true, true, true, true, true, true, true, true, true, true, true, true, true, true, true, true, true, true, true, true, true, true, true, true, true, true, true, true, true, true, true, true, true, true, true, true, true, true, true, false, false, false, false, false, true, false, false, false, false, true, false, false, true, false, false, false, false, false, false, false] rfl rfl (one_of HT_.out (by kernel_rfl)) (by decide) (fun K hK => ?_)
                                                                                                refine goes_ Tryd.func21 (by kernel_rfl) rfl #[.string (⟨#[120]⟩ : ByteArray)] (by rfl) rfl rfl (by (try simp only [List.map_toArray, List.map_cons, List.map_nil]); first | done | rfl | (simp only [List.length_drop, List.length_take]; rfl)) ?_
                                                                                                with_reducible refine (shelfmarkref10_Str.calls k (⟨#[120]⟩ : ByteArray) t241 _ A64.out).mono ?_
                                                                                                rintro e w126 ⟨rfl, hb⟩
                                                                                                refine ⟨_, rfl, ?_⟩
                                                                                                have n0_ := Aside0.mk (below_step (by repeat (first | (with_reducible first | exact HB.out | apply below_alloc | apply pw_below_drewN | apply below_drew1) | exact HB.out)) hb)
                                                                                                clear HB
                                                                                                have HB := n0_
                                                                                                clear n0_
                                                                                                (try clear hb)
                                                                                                (try clear hb2)
                                                                                                (try clear hk)
                                                                                                (try clear hi)
                                                                                                refine hK.out _ _ trivial (fun hHeld => ?_)
                                                                                                clear hK K
                                                                                                refine norm_ (a' := ?_) ?_ ?_
                                                                                                rotate_left
                                                                                                · show Act.put _ (some 83) _ = _
                                                                                                  simp only [Act.put, List.setIfInBounds_toArray, List.set_cons_zero, List.set_cons_succ, i64_w, i32_w]
                                                                                                  rfl
                                                                                                refine pure_ (i := 43) (N := some 84) (v := ?_) (a' := ?_) #[true, true, true, true, true, true, true, true, true, true, true, true, true, true, true, true, true, true, true, true, true, true, true, true, true, true, true, true, true, true, true, true, true, true, true, true, true, true, true, true, true, true, true, true, false, false, false, false, true, false, false, false, false, true, false, false, true, false, false, false, false, false, false, false] rfl rfl (any_of HT_.out (by kernel_rfl)) (fun _ _ _ h => h) (Or.inl ⟨by rfl, ?_⟩) ?_ ?_
                                                                                                rotate_left
                                                                                                · intro w'
                                                                                                  go_simp
                                                                                                  with_reducible rfl
                                                                                                rotate_left
                                                                                                · simp only [Act.put, List.setIfInBounds_toArray, List.set_cons_zero, List.set_cons_succ, i64_w, i32_w]
                                                                                                  rfl
                                                                                                refine pure_ (i := 44) (N := some 85) (v := ?_) (a' := ?_) #[true, true, true, true, true, true, true, true, true, true, true, true, true, true, true, true, true, true, true, true, true, true, true, true, true, true, true, true, true, true, true, true, true, true, true, true, true, true, true, true, true, true, true, true, true, false, false, false, true, false, false, false, false, true, false, false, true, false, false, false, false, false, false, false] rfl rfl (any_of HT_.out (by kernel_rfl)) (fun _ _ _ h => h) (Or.inl ⟨by rfl, ?_⟩) ?_ ?_
                                                                                                rotate_left
                                                                                                · intro w'
                                                                                                  go_simp
                                                                                                  with_reducible rfl
                                                                                                rotate_left
                                                                                                · simp only [Act.put, List.setIfInBounds_toArray, List.set_cons_zero, List.set_cons_succ, i64_w, i32_w]
                                                                                                  rfl
                                                                                                refine pure_ (i := 45) (N := some 86) (v := ?_) (a' := ?_) #[true, true, true, true, true, true, true, true, true, true, true, true, true, true, true, true, true, true, true, true, true, true, true, true, true, true, true, true, true, true, true, true, true, true, true, true, true, true, true, true, true, true, true, true, true, true, false, false, true, false, false, false, false, true, false, false, true, false, false, false, false, false, false, false] rfl rfl (any_of HT_.out (by kernel_rfl)) (fun _ _ _ h => h) (Or.inl ⟨by rfl, ?_⟩) ?_ ?_
                                                                                                rotate_left
                                                                                                · intro w'
                                                                                                  go_simp
                                                                                                  with_reducible rfl
                                                                                                rotate_left
                                                                                                · simp only [Act.put, List.setIfInBounds_toArray, List.set_cons_zero, List.set_cons_succ, i64_w, i32_w]
                                                                                                  rfl
                                                                                                refine one_ (i := 46) (N := some 87) #[true, true, true, true, true, true, true, true, true, true, true, true, true, true, true, true, true, true, true, true, true, true, true, true, true, true, true, true, true, true, true, true, true, true, true, true, true, true, true, true, true, true, true, true, true, true, true, false, true, false, false, false, false, true, false, false, true, false, false, false, false, false, false, false] rfl rfl (one_of HT_.out (by kernel_rfl)) (by decide) (fun K hK => ?_)
                                                                                                refine goes_ Tryd.func22 (by kernel_rfl) rfl #[.int .i64 14] (by rfl) rfl rfl (by (try simp only [List.map_toArray, List.map_cons, List.map_nil]); first | done | rfl | (simp only [List.length_drop, List.length_take]; rfl)) ?_
                                                                                                with_reducible refine (shelfmarkref10_Word.calls k 14 t242 _ A69.out).mono ?_
                                                                                                rintro e w127 ⟨rfl, hb⟩
                                                                                                refine ⟨_, rfl, ?_⟩
                                                                                                have n0_ := Aside0.mk (below_step (by repeat (first | (with_reducible first | exact HB.out | apply below_alloc | apply pw_below_drewN | apply below_drew1) | exact HB.out)) hb)
                                                                                                clear HB
                                                                                                have HB := n0_
                                                                                                clear n0_
                                                                                                (try clear hb)
                                                                                                (try clear hb2)
                                                                                                (try clear hk)
                                                                                                (try clear hi)
                                                                                                refine hK.out _ _ trivial (fun hHeld => ?_)
                                                                                                clear hK K
                                                                                                refine norm_ (a' := ?_) ?_ ?_
                                                                                                rotate_left
                                                                                                · show Act.put _ (some 87) _ = _
                                                                                                  simp only [Act.put, List.setIfInBounds_toArray, List.set_cons_zero, List.set_cons_succ, i64_w, i32_w]
                                                                                                  rfl
                                                                                                refine one_ (i := 47) (N := some 88) #[true, true, true, true, true, true, true, true, true, true, true, true, true, true, true, true, true, true, true, true, true, true, true, true, true, true, true, true, true, true, true, true, true, true, true, true, true, true, true, true, true, true, true, true, true, true, true, true, true, false, false, false, false, true, false, false, true, false, false, false, false, false, false, false] rfl rfl (one_of HT_.out (by kernel_rfl)) (by decide) (fun K hK => ?_)
                                                                                                refine goes_ Tryd.func21 (by kernel_rfl) rfl #[.string (⟨#[110, 105, 120, 45, 97, 114, 99, 104, 105, 118, 101, 45, 50]⟩ : ByteArray)] (by rfl) rfl rfl (by (try simp only [List.map_toArray, List.map_cons, List.map_nil]); first | done | rfl | (simp only [List.length_drop, List.length_take]; rfl)) ?_
                                                                                                with_reducible refine (shelfmarkref10_Str.calls k (⟨#[110, 105, 120, 45, 97, 114, 99, 104, 105, 118, 101, 45, 50]⟩ : ByteArray) t243 _ A70.out).mono ?_
                                                                                                rintro e w128 ⟨rfl, hb⟩
                                                                                                refine ⟨_, rfl, ?_⟩
                                                                                                have n0_ := Aside0.mk (below_step (by repeat (first | (with_reducible first | exact HB.out | apply below_alloc | apply pw_below_drewN | apply below_drew1) | exact HB.out)) hb)
                                                                                                clear HB
                                                                                                have HB := n0_
                                                                                                clear n0_
                                                                                                (try clear hb)
                                                                                                (try clear hb2)
                                                                                                (try clear hk)
                                                                                                (try clear hi)
                                                                                                refine hK.out _ _ trivial (fun hHeld => ?_)
                                                                                                clear hK K
                                                                                                refine norm_ (a' := ?_) ?_ ?_
                                                                                                rotate_left
                                                                                                · show Act.put _ (some 88) _ = _
                                                                                                  simp only [Act.put, List.setIfInBounds_toArray, List.set_cons_zero, List.set_cons_succ, i64_w, i32_w]
                                                                                                  rfl
                                                                                                refine one_ (i := 49) (N := some 90) #[true, true, true, true, true, true, true, true, true, true, true, true, true, true, true, true, true, true, true, true, true, true, true, true, true, true, true, true, true, true, true, true, true, true, true, true, true, true, true, true, true, true, true, true, true, true, true, true, true, true, false, false, false, true, false, false, true, false, false, false, false, false, false, false] rfl rfl (one_of HT_.out (by kernel_rfl)) (by decide) (fun K hK => ?_)
                                                                                                refine goes_ Tryd.func21 (by kernel_rfl) rfl #[.string (⟨#[114, 101, 103, 117, 108, 97, 114]⟩ : ByteArray)] (by rfl) rfl rfl (by (try simp only [List.map_toArray, List.map_cons, List.map_nil]); first | done | rfl | (simp only [List.length_drop, List.length_take]; rfl)) ?_
                                                                                                with_reducible refine (shelfmarkref10_Str.calls k (⟨#[114, 101, 103, 117, 108, 97, 114]⟩ : ByteArray) t244 _ A71.out).mono ?_
                                                                                                rintro e w129 ⟨rfl, hb⟩
                                                                                                refine ⟨_, rfl, ?_⟩
                                                                                                have n0_ := Aside0.mk (below_step (by repeat (first | (with_reducible first | exact HB.out | apply below_alloc | apply pw_below_drewN | apply below_drew1) | exact HB.out)) hb)
                                                                                                clear HB
                                                                                                have HB := n0_
                                                                                                clear n0_
                                                                                                (try clear hb)
                                                                                                (try clear hb2)
                                                                                                (try clear hk)
                                                                                                (try clear hi)
                                                                                                refine hK.out _ _ trivial (fun hHeld => ?_)
                                                                                                clear hK K
                                                                                                refine norm_ (a' := ?_) ?_ ?_
                                                                                                rotate_left
                                                                                                · show Act.put _ (some 90) _ = _
                                                                                                  simp only [Act.put, List.setIfInBounds_toArray, List.set_cons_zero, List.set_cons_succ, i64_w, i32_w]
                                                                                                  rfl
                                                                                                refine pure_ (i := 50) (N := some 91) (v := ?_) (a' := ?_) #[true, true, true, true, true, true, true, true, true, true, true, true, true, true, true, true, true, true, true, true, true, true, true, true, true, true, true, true, true, true, true, true, true, true, true, true, true, true, true, true, true, true, true, true, true, true, true, true, true, true, true, false, false, true, false, false, true, false, false, false, false, false, false, false] rfl rfl (any_of HT_.out (by kernel_rfl)) (fun _ _ _ h => h) (Or.inl ⟨by rfl, ?_⟩) ?_ ?_
                                                                                                rotate_left
                                                                                                · intro w'
                                                                                                  go_simp
                                                                                                  with_reducible rfl
                                                                                                rotate_left
                                                                                                · simp only [Act.put, List.setIfInBounds_toArray, List.set_cons_zero, List.set_cons_succ, i64_w, i32_w]
                                                                                                  rfl
                                                                                                refine one_ (i := 51) (N := some 92) #[true, true, true, true, true, true, true, true, true, true, true, true, true, true, true, true, true, true, true, true, true, true, true, true, true, true, true, true, true, true, true, true, true, true, true, true, true, true, true, true, true, true, true, true, true, true, true, true, true, true, true, true, false, true, false, false, true, false, false, false, false, false, false, false] rfl rfl (one_of HT_.out (by kernel_rfl)) (by decide) (fun K hK => ?_)
                                                                                                refine goes_ Tryd.func21 (by kernel_rfl) rfl #[.string (⟨#[41]⟩ : ByteArray)] (by rfl) rfl rfl (by (try simp only [List.map_toArray, List.map_cons, List.map_nil]); first | done | rfl | (simp only [List.length_drop, List.length_take]; rfl)) ?_
                                                                                                with_reducible refine (shelfmarkref10_Str.calls k (⟨#[41]⟩ : ByteArray) t245 _ A73.out).mono ?_
                                                                                                rintro e w130 ⟨rfl, hb⟩
                                                                                                refine ⟨_, rfl, ?_⟩
                                                                                                have n0_ := Aside0.mk (below_step (by repeat (first | (with_reducible first | exact HB.out | apply below_alloc | apply pw_below_drewN | apply below_drew1) | exact HB.out)) hb)
                                                                                                clear HB
                                                                                                have HB := n0_
                                                                                                clear n0_
                                                                                                (try clear hb)
                                                                                                (try clear hb2)
                                                                                                (try clear hk)
                                                                                                (try clear hi)
                                                                                                refine hK.out _ _ trivial (fun hHeld => ?_)
                                                                                                clear hK K
                                                                                                refine norm_ (a' := ?_) ?_ ?_
                                                                                                rotate_left
                                                                                                · show Act.put _ (some 92) _ = _
                                                                                                  simp only [Act.put, List.setIfInBounds_toArray, List.set_cons_zero, List.set_cons_succ, i64_w, i32_w]
                                                                                                  rfl
                                                                                                refine pure_ (i := 52) (N := some 93) (v := ?_) (a' := ?_) #[true, true, true, true, true, true, true, true, true, true, true, true, true, true, true, true, true, true, true, true, true, true, true, true, true, true, true, true, true, true, true, true, true, true, true, true, true, true, true, true, true, true, true, true, true, true, true, true, true, true, true, true, true, true, false, false, true, false, false, false, false, false, false, false] rfl rfl (any_of HT_.out (by kernel_rfl)) (fun _ _ _ h => h) (Or.inl ⟨by rfl, ?_⟩) ?_ ?_
                                                                                                rotate_left
                                                                                                · intro w'
                                                                                                  go_simp
                                                                                                  with_reducible rfl
                                                                                                rotate_left
                                                                                                · simp only [Act.put, List.setIfInBounds_toArray, List.set_cons_zero, List.set_cons_succ, i64_w, i32_w]
                                                                                                  rfl
                                                                                                refine one_ (i := 54) (N := some 95) #[true, true, true, true, true, true, true, true, true, true, true, true, true, true, true, true, true, true, true, true, true, true, true, true, true, true, true, true, true, true, true, true, true, true, true, true, true, true, true, true, true, true, true, true, true, true, true, true, true, true, true, true, true, true, true, false, true, false, false, false, false, false, false, false] rfl rfl (one_of HT_.out (by kernel_rfl)) (by decide) (fun K hK => ?_)
                                                                                                refine goes_ Tryd.func21 (by kernel_rfl) rfl #[.string (⟨#[100, 105, 114, 101, 99, 116, 111, 114, 121]⟩ : ByteArray)] (by rfl) rfl rfl (by (try simp only [List.map_toArray, List.map_cons, List.map_nil]); first | done | rfl | (simp only [List.length_drop, List.length_take]; rfl)) ?_
                                                                                                with_reducible refine (shelfmarkref10_Str.calls k (⟨#[100, 105, 114, 101, 99, 116, 111, 114, 121]⟩ : ByteArray) t246 _ A75.out).mono ?_
                                                                                                rintro e w131 ⟨rfl, hb⟩
                                                                                                refine ⟨_, rfl, ?_⟩
                                                                                                have n0_ := Aside0.mk (below_step (by repeat (first | (with_reducible first | exact HB.out | apply below_alloc | apply pw_below_drewN | apply below_drew1) | exact HB.out)) hb)
                                                                                                clear HB
                                                                                                have HB := n0_
                                                                                                clear n0_
                                                                                                (try clear hb)
                                                                                                (try clear hb2)
                                                                                                (try clear hk)
                                                                                                (try clear hi)
                                                                                                refine hK.out _ _ trivial (fun hHeld => ?_)
                                                                                                clear hK K
                                                                                                refine norm_ (a' := ?_) ?_ ?_
                                                                                                rotate_left
                                                                                                · show Act.put _ (some 95) _ = _
                                                                                                  simp only [Act.put, List.setIfInBounds_toArray, List.set_cons_zero, List.set_cons_succ, i64_w, i32_w]
                                                                                                  rfl
                                                                                                refine pure_ (i := 55) (N := some 96) (v := ?_) (a' := ?_) #[true, true, true, true, true, true, true, true, true, true, true, true, true, true, true, true, true, true, true, true, true, true, true, true, true, true, true, true, true, true, true, true, true, true, true, true, true, true, true, true, true, true, true, true, true, true, true, true, true, true, true, true, true, true, true, true, true, false, false, false, false, false, false, false] rfl rfl (any_of HT_.out (by kernel_rfl)) (fun _ _ _ h => h) (Or.inl ⟨by rfl, ?_⟩) ?_ ?_
                                                                                                rotate_left
                                                                                                · intro w'
                                                                                                  go_simp
                                                                                                  with_reducible rfl
                                                                                                rotate_left
                                                                                                · simp only [Act.put, List.setIfInBounds_toArray, List.set_cons_zero, List.set_cons_succ, i64_w, i32_w]
                                                                                                  rfl
                                                                                                refine pure_ (i := 57) (N := some 98) (v := ?_) (a' := ?_) #[true, true, true, true, true, true, true, true, true, true, true, true, true, true, true, true, true, true, true, true, true, true, true, true, true, true, true, true, true, true, true, true, true, true, true, true, true, true, true, true, true, true, true, true, true, true, true, true, true, true, true, true, true, true, true, true, true, true, false, false, false, false, false, false] rfl rfl (any_of HT_.out (by kernel_rfl)) (fun _ _ _ h => h) (Or.inl ⟨by rfl, ?_⟩) ?_ ?_
                                                                                                rotate_left
                                                                                                · intro w'
                                                                                                  go_simp
                                                                                                  with_reducible rfl
                                                                                                rotate_left
                                                                                                · simp only [Act.put, List.setIfInBounds_toArray, List.set_cons_zero, List.set_cons_succ, i64_w, i32_w]
                                                                                                  rfl
                                                                                                refine one_ (i := 58) (N := some 99) #[true, true, true, true, true, true, true, true, true, true, true, true, true, true, true, true, true, true, true, true, true, true, true, true, true, true, true, true, true, true, true, true, true, true, true, true, true, true, true, true, true, true, true, true, true, true, true, true, true, true, true, true, true, true, true, true, true, true, true, false, false, false, false, false] rfl rfl (one_of HT_.out (by kernel_rfl)) (by decide) (fun K hK => ?_)
                                                                                                refine goes_ Tryd.func21 (by kernel_rfl) rfl #[.string (⟨#[41]⟩ : ByteArray)] (by rfl) rfl rfl (by (try simp only [List.map_toArray, List.map_cons, List.map_nil]); first | done | rfl | (simp only [List.length_drop, List.length_take]; rfl)) ?_
                                                                                                with_reducible refine (shelfmarkref10_Str.calls k (⟨#[41]⟩ : ByteArray) t247 _ A78.out).mono ?_
                                                                                                rintro e w132 ⟨rfl, hb⟩
                                                                                                refine ⟨_, rfl, ?_⟩
                                                                                                have n0_ := Aside0.mk (below_step (by repeat (first | (with_reducible first | exact HB.out | apply below_alloc | apply pw_below_drewN | apply below_drew1) | exact HB.out)) hb)
                                                                                                clear HB
                                                                                                have HB := n0_
                                                                                                clear n0_
                                                                                                (try clear hb)
                                                                                                (try clear hb2)
                                                                                                (try clear hk)
                                                                                                (try clear hi)
                                                                                                refine hK.out _ _ trivial (fun hHeld => ?_)
                                                                                                clear hK K
                                                                                                refine norm_ (a' := ?_) ?_ ?_
                                                                                                rotate_left
                                                                                                · show Act.put _ (some 99) _ = _
                                                                                                  simp only [Act.put, List.setIfInBounds_toArray, List.set_cons_zero, List.set_cons_succ, i64_w, i32_w]
                                                                                                  rfl
                                                                                                refine pure_ (i := 59) (N := some 100) (v := ?_) (a' := ?_) #[true, true, true, true, true, true, true, true, true, true, true, true, true, true, true, true, true, true, true, true, true, true, true, true, true, true, true, true, true, true, true, true, true, true, true, true, true, true, true, true, true, true, true, true, true, true, true, true, true, true, true, true, true, true, true, true, true, true, true, true, false, false, false, false] rfl rfl (any_of HT_.out (by kernel_rfl)) (fun _ _ _ h => h) (Or.inl ⟨by rfl, ?_⟩) ?_ ?_
                                                                                                rotate_left
                                                                                                · intro w'
                                                                                                  go_simp
                                                                                                  with_reducible rfl
                                                                                                rotate_left
                                                                                                · simp only [Act.put, List.setIfInBounds_toArray, List.set_cons_zero, List.set_cons_succ, i64_w, i32_w]
                                                                                                  rfl
                                                                                                refine one_ (i := 60) (N := some 101) #[true, true, true, true, true, true, true, true, true, true, true, true, true, true, true, true, true, true, true, true, true, true, true, true, true, true, true, true, true, true, true, true, true, true, true, true, true, true, true, true, true, true, true, true, true, true, true, true, true, true, true, true, true, true, true, true, true, true, true, true, true, false, false, false] rfl rfl (one_of HT_.out (by kernel_rfl)) (by decide) (fun K hK => ?_)
                                                                                                refine goes_ Tryd.func21 (by kernel_rfl) rfl #[.string (⟨#[41]⟩ : ByteArray)] (by rfl) rfl rfl (by (try simp only [List.map_toArray, List.map_cons, List.map_nil]); first | done | rfl | (simp only [List.length_drop, List.length_take]; rfl)) ?_
                                                                                                with_reducible refine (shelfmarkref10_Str.calls k (⟨#[41]⟩ : ByteArray) t248 _ A80.out).mono ?_
                                                                                                rintro e w133 ⟨rfl, hb⟩
                                                                                                refine ⟨_, rfl, ?_⟩
                                                                                                have n0_ := Aside0.mk (below_step (by repeat (first | (with_reducible first | exact HB.out | apply below_alloc | apply pw_below_drewN | apply below_drew1) | exact HB.out)) hb)
                                                                                                clear HB
                                                                                                have HB := n0_
                                                                                                clear n0_
                                                                                                (try clear hb)
                                                                                                (try clear hb2)
                                                                                                (try clear hk)
                                                                                                (try clear hi)
                                                                                                refine hK.out _ _ trivial (fun hHeld => ?_)
                                                                                                clear hK K
                                                                                                refine norm_ (a' := ?_) ?_ ?_
                                                                                                rotate_left
                                                                                                · show Act.put _ (some 101) _ = _
                                                                                                  simp only [Act.put, List.setIfInBounds_toArray, List.set_cons_zero, List.set_cons_succ, i64_w, i32_w]
                                                                                                  rfl
                                                                                                refine pure_ (i := 61) (N := some 102) (v := ?_) (a' := ?_) #[true, true, true, true, true, true, true, true, true, true, true, true, true, true, true, true, true, true, true, true, true, true, true, true, true, true, true, true, true, true, true, true, true, true, true, true, true, true, true, true, true, true, true, true, true, true, true, true, true, true, true, true, true, true, true, true, true, true, true, true, true, true, false, false] rfl rfl (any_of HT_.out (by kernel_rfl)) (fun _ _ _ h => h) (Or.inl ⟨by rfl, ?_⟩) ?_ ?_
                                                                                                rotate_left
                                                                                                · intro w'
                                                                                                  go_simp
                                                                                                  with_reducible rfl
                                                                                                rotate_left
                                                                                                · simp only [Act.put, List.setIfInBounds_toArray, List.set_cons_zero, List.set_cons_succ, i64_w, i32_w]
                                                                                                  rfl
                                                                                                refine one_ (i := 62) (N := some 103) #[true, true, true, true, true, true, true, true, true, true, true, true, true, true, true, true, true, true, true, true, true, true, true, true, true, true, true, true, true, true, true, true, true, true, true, true, true, true, true, true, true, true, true, true, true, true, true, true, true, true, true, true, true, true, true, true, true, true, true, true, true, true, true, false] rfl rfl (one_of HT_.out (by kernel_rfl)) (by decide) (fun K hK => ?_)
                                                                                                refine Kd.R_lit_step Kd.string _ 9 ?hg (N := 103) ?hd (xs := ([((t210 ++ t211) ++ t212) ++ t225, (((((t210 ++ t211) ++ t212) ++ t226) ++ t227) ++ t228) ++ t229, ((((t210 ++ t211) ++ t212) ++ t230) ++ t231) ++ t232, ((((t210 ++ t211) ++ t212) ++ t233) ++ ((((((t219 ++ t220) ++ t221) ++ t222) ++ t223) ++ (((((t213 ++ t214) ++ t215) ++ t216) ++ t217) ++ t218)) ++ t224)) ++ ((((((t219 ++ t220) ++ t221) ++ t222) ++ t223) ++ (((((t213 ++ t214) ++ t215) ++ t216) ++ t217) ++ t218)) ++ t224), ((((((t210 ++ t211) ++ t212) ++ t234) ++ t235) ++ t236) ++ t237) ++ t238, (((((t210 ++ t211) ++ t212) ++ t239) ++ t240) ++ (t241.extract 0 9)) ++ (⟨#[49, 50, 51, 52, 53, 54, 55]⟩ : ByteArray), t242, t243, (((t210 ++ t211) ++ t212) ++ t244) ++ t245, (((((t210 ++ t211) ++ t212) ++ t246) ++ ((((((t219 ++ t220) ++ t221) ++ t222) ++ t223) ++ (((((t213 ++ t214) ++ t215) ++ t216) ++ t217) ++ t218)) ++ t224)) ++ t247) ++ t248] : List ByteArray)) (inner := [.string (((t210 ++ t211) ++ t212) ++ t225), .string ((((((t210 ++ t211) ++ t212) ++ t226) ++ t227) ++ t228) ++ t229), .string (((((t210 ++ t211) ++ t212) ++ t230) ++ t231) ++ t232), .string (((((t210 ++ t211) ++ t212) ++ t233) ++ ((((((t219 ++ t220) ++ t221) ++ t222) ++ t223) ++ (((((t213 ++ t214) ++ t215) ++ t216) ++ t217) ++ t218)) ++ t224)) ++ ((((((t219 ++ t220) ++ t221) ++ t222) ++ t223) ++ (((((t213 ++ t214) ++ t215) ++ t216) ++ t217) ++ t218)) ++ t224)), .string (((((((t210 ++ t211) ++ t212) ++ t234) ++ t235) ++ t236) ++ t237) ++ t238), .string ((((((t210 ++ t211) ++ t212) ++ t239) ++ t240) ++ (t241.extract 0 9)) ++ (⟨#[49, 50, 51, 52, 53, 54, 55]⟩ : ByteArray)), .string t242, .string t243, .string ((((t210 ++ t211) ++ t212) ++ t244) ++ t245), .string ((((((t210 ++ t211) ++ t212) ++ t246) ++ ((((((t219 ++ t220) ++ t221) ++ t222) ++ t223) ++ (((((t213 ++ t214) ++ t215) ++ t216) ++ t217) ++ t218)) ++ t224)) ++ t247) ++ t248)]) (ok := fun _ => True) (okp := fun _ => True) ?hr ?hp (fun _ hk => hk) trivial (Below.refl _ _) (Nat.le_refl _) (by simp) ?_; (case hd => rfl); (case hg => rfl); (case hr => first | (go_simp; done) | (go_simp; rfl)); (case hp => exact (Reps.one (show Kd.M Kd.string _ _ _ (((t210 ++ t211) ++ t212) ++ t225) [.string (((t210 ++ t211) ++ t212) ++ t225)] from rfl) (Reps.one (show Kd.M Kd.string _ _ _ ((((((t210 ++ t211) ++ t212) ++ t226) ++ t227) ++ t228) ++ t229) [.string ((((((t210 ++ t211) ++ t212) ++ t226) ++ t227) ++ t228) ++ t229)] from rfl) (Reps.one (show Kd.M Kd.string _ _ _ (((((t210 ++ t211) ++ t212) ++ t230) ++ t231) ++ t232) [.string (((((t210 ++ t211) ++ t212) ++ t230) ++ t231) ++ t232)] from rfl) (Reps.one (show Kd.M Kd.string _ _ _ (((((t210 ++ t211) ++ t212) ++ t233) ++ ((((((t219 ++ t220) ++ t221) ++ t222) ++ t223) ++ (((((t213 ++ t214) ++ t215) ++ t216) ++ t217) ++ t218)) ++ t224)) ++ ((((((t219 ++ t220) ++ t221) ++ t222) ++ t223) ++ (((((t213 ++ t214) ++ t215) ++ t216) ++ t217) ++ t218)) ++ t224)) [.string (((((t210 ++ t211) ++ t212) ++ t233) ++ ((((((t219 ++ t220) ++ t221) ++ t222) ++ t223) ++ (((((t213 ++ t214) ++ t215) ++ t216) ++ t217) ++ t218)) ++ t224)) ++ ((((((t219 ++ t220) ++ t221) ++ t222) ++ t223) ++ (((((t213 ++ t214) ++ t215) ++ t216) ++ t217) ++ t218)) ++ t224))] from rfl) (Reps.one (show Kd.M Kd.string _ _ _ (((((((t210 ++ t211) ++ t212) ++ t234) ++ t235) ++ t236) ++ t237) ++ t238) [.string (((((((t210 ++ t211) ++ t212) ++ t234) ++ t235) ++ t236) ++ t237) ++ t238)] from rfl) (Reps.one (show Kd.M Kd.string _ _ _ ((((((t210 ++ t211) ++ t212) ++ t239) ++ t240) ++ (t241.extract 0 9)) ++ (⟨#[49, 50, 51, 52, 53, 54, 55]⟩ : ByteArray)) [.string ((((((t210 ++ t211) ++ t212) ++ t239) ++ t240) ++ (t241.extract 0 9)) ++ (⟨#[49, 50, 51, 52, 53, 54, 55]⟩ : ByteArray))] from rfl) (Reps.one (show Kd.M Kd.string _ _ _ t242 [.string t242] from rfl) (Reps.one (show Kd.M Kd.string _ _ _ t243 [.string t243] from rfl) (Reps.one (show Kd.M Kd.string _ _ _ ((((t210 ++ t211) ++ t212) ++ t244) ++ t245) [.string ((((t210 ++ t211) ++ t212) ++ t244) ++ t245)] from rfl) (Reps.one (show Kd.M Kd.string _ _ _ ((((((t210 ++ t211) ++ t212) ++ t246) ++ ((((((t219 ++ t220) ++ t221) ++ t222) ++ t223) ++ (((((t213 ++ t214) ++ t215) ++ t216) ++ t217) ++ t218)) ++ t224)) ++ t247) ++ t248) [.string ((((((t210 ++ t211) ++ t212) ++ t246) ++ ((((((t219 ++ t220) ++ t221) ++ t222) ++ t223) ++ (((((t213 ++ t214) ++ t215) ++ t216) ++ t217) ++ t218)) ++ t224)) ++ t247) ++ t248)] from rfl) (Reps.none _ _))))))))))))
                                                                                                intro v250 w134 ho135 hb hg_ hnew_
                                                                                                clear hg_ hnew_
                                                                                                (first | rw [← Ny249.out] at ho135 | (simp only [Int.reduceToNat] at ho135; rw [← Ny249.out] at ho135))
                                                                                                have n0_ := Aside0.mk (Kd.R_lower ho135 (below_size (by repeat (first | (with_reducible first | exact HB.out | apply below_alloc | apply pw_below_drewN | apply below_drew1) | exact HB.out))))
                                                                                                have n1_ := Aside0.mk (below_step (by repeat (first | (with_reducible first | exact HB.out | apply below_alloc | apply pw_below_drewN | apply below_drew1) | exact HB.out)) hb)
                                                                                                clear HB
                                                                                                have HO251 := n0_
                                                                                                have HB := n1_
                                                                                                clear n0_ n1_
                                                                                                clear hb ho135
                                                                                                refine hK.out _ _ trivial (fun hHeld => ?_)
                                                                                                clear hK K
                                                                                                refine norm_ (a' := ?_) ?_ ?_
                                                                                                rotate_left
                                                                                                · show Act.put _ (some 103) _ = _
                                                                                                  simp only [Act.put, List.setIfInBounds_toArray, List.set_cons_zero, List.set_cons_succ, i64_w, i32_w]
                                                                                                  rfl
                                                                                                refine pure_ (i := 63) (N := some 6) (v := ?_) (a' := ?_) #[true, true, true, true, true, true, true, true, true, true, true, true, true, true, true, true, true, true, true, true, true, true, true, true, true, true, true, true, true, true, true, true, true, true, true, true, true, true, true, true, true, true, true, true, true, true, true, true, true, true, true, true, true, true, true, true, true, true, true, true, true, true, true, true] rfl rfl (any_of HT_.out (by kernel_rfl)) (fun _ _ _ h => h) (Or.inl ⟨by rfl, ?_⟩) ?_ ?_
                                                                                                rotate_left
                                                                                                · intro w'
                                                                                                  go_simp
                                                                                                  with_reducible rfl
                                                                                                rotate_left
                                                                                                · simp only [Act.put, List.setIfInBounds_toArray, List.set_cons_zero, List.set_cons_succ, i64_w, i32_w]
                                                                                                  rfl
                                                                                                refine done_ (done_of HT_.out (by kernel_rfl)) ?_
                                                                                                obtain ⟨Ao136, co136, eo136⟩ := Kd.R_slice HO251.out
                                                                                                subst eo136
                                                                                                have p252 : 0 ≤ ((ji83) : Int) := of_decide_eq_true (by first | (with_reducible assumption) | assumption)
                                                                                                have q252 : (ji83) < (y249.length : Int) := of_decide_eq_true (by first | (with_reducible assumption) | assumption)
                                                                                                (try (obtain ⟨A_, c_, e_⟩ := own_slice (Kd.own_of_R HO251.out); cases e_))
                                                                                                obtain ⟨ad252, e252, hx252_0⟩ := Kd.at_string (Kd.R_reads' HO251.out).2.2 (ji83) p252 q252
                                                                                                cases e252
                                                                                                replace p252 := eq_true p252
                                                                                                replace q252 := eq_true q252
                                                                                                try go_wp2_with (first | ((with_reducible refine gate_callee (f := 14) rfl ?_); refine goesL_ (some 114) rfl rfl Tryd.func14 (by kernel_rfl) rfl #[.string (rdOf ByteArray.empty y249 (ji83))] rfl (by (try simp only [List.map_toArray, List.map_cons, List.map_nil]); first | done | (simp only [hji83]; rfl) | rfl | (simp only [List.length_drop, List.length_take]; rfl)) ?_; (with_reducible refine (parse_Get.calls (rdOf ByteArray.empty y249 (ji83)) t253 t254 _ A86.out).mono ?_); rintro e w137 ⟨v255, rfl, ho0, hb⟩; refine ⟨_, rfl, ?_⟩; have n0_ := Aside0.mk (Kd.R_below (by (with_reducible repeat (first | apply Kd.R_alloc | apply Kd.R_drewN | apply Kd.R_drew)); exact HO251.out) hb); have n1_ := Aside0.mk (Kd.R_lower ho0 (below_size (by repeat (first | (with_reducible first | exact HB.out | apply below_alloc | apply pw_below_drewN | apply below_drew1) | exact HB.out)))); have n2_ := Aside0.mk (below_step (by repeat (first | (with_reducible first | exact HB.out | apply below_alloc | apply pw_below_drewN | apply below_drew1) | exact HB.out)) hb); clear HO251; clear HB; have HO251 := n0_; have HO256 := n1_; have HB := n2_; clear n0_ n1_ n2_; (try clear hb); (try clear hb2); (try clear hk); (try clear hi); (try clear ho0); have p257 : 0 ≤ ((ji83) : Int) := of_decide_eq_true (by first | (with_reducible assumption) | assumption); have q257 : (ji83) < (y249.length : Int) := of_decide_eq_true (by first | (with_reducible assumption) | assumption); obtain ⟨ad257, e257, hx257_0⟩ := Kd.at_string (Kd.R_reads' HO251.out).2.2 (ji83) p257 q257; obtain rfl : ad252 = ad257 := (by injection e257); replace p257 := eq_true p257; replace q257 := eq_true q257) | ((with_reducible refine gate_callee (f := 14) rfl ?_); refine goesL_ (some 123) rfl rfl Tryd.func14 (by kernel_rfl) rfl #[.string ((rdOf ByteArray.empty y249 (ji83)) ++ (⟨#[109, 111, 114, 101]⟩ : ByteArray))] rfl (by (try simp only [List.map_toArray, List.map_cons, List.map_nil]); first | done | (simp only [hji83]; rfl) | rfl | (simp only [List.length_drop, List.length_take]; rfl)) ?_; (with_reducible refine (parse_Get.calls ((rdOf ByteArray.empty y249 (ji83)) ++ (⟨#[109, 111, 114, 101]⟩ : ByteArray)) t258 t259 _ A88.out).mono ?_); rintro e w138 ⟨v260, rfl, ho0, hb⟩; refine ⟨_, rfl, ?_⟩; have n0_ := Aside0.mk (Kd.R_below (by (with_reducible repeat (first | apply Kd.R_alloc | apply Kd.R_drewN | apply Kd.R_drew)); exact HO251.out) hb); have n1_ := Aside0.mk (Kd.R_elder' (by (with_reducible repeat (first | apply Kd.R_alloc | apply Kd.R_drewN | apply Kd.R_drew)); exact HO256.out) (Kd.R_base ho0) hb); have n2_ := Aside0.mk (Kd.R_lower (Kd.R_new' ho0 (Kd.R_lt (by (with_reducible repeat (first | apply Kd.R_alloc | apply Kd.R_drewN | apply Kd.R_drew)); exact HO256.out))) (below_size (by repeat (first | (with_reducible first | exact HB.out | apply below_alloc | apply pw_below_drewN | apply below_drew1) | exact HB.out)))); have n3_ := Aside0.mk (below_step (by repeat (first | (with_reducible first | exact HB.out | apply below_alloc | apply pw_below_drewN | apply below_drew1) | exact HB.out)) hb); clear HO251; clear HO256; clear HB; have HO251 := n0_; have HO256 := n1_; have HO261 := n2_; have HB := n3_; clear n0_ n1_ n2_ n3_; (try clear hb); (try clear hb2); (try clear hk); (try clear hi); (try clear ho0)) | ((with_reducible refine gate_callee (f := 17) rfl ?_); refine goesL_ (some 127) rfl rfl Tryd.func17 (by kernel_rfl) rfl #[.int .i64 t254] rfl (by (try simp only [List.map_toArray, List.map_cons, List.map_nil]); first | done | rfl | (simp only [List.length_drop, List.length_take]; rfl)) ?_; (with_reducible refine (shelfmarklaw1_Err.calls t254 t262 _ A89.out).mono ?_); rintro e w' ⟨rfl, ⟨nd, rfl⟩⟩; refine ⟨_, rfl, ?_⟩) | (go_at_call 17; (with_reducible refine (shelfmarklaw1_Err.calls t259 t263 _ A91.out).mono ?_); rintro e w' ⟨rfl, ⟨nd, rfl⟩⟩) | (go_at_call 13; (with_reducible refine (shelfmarklaw11_awake.calls k  t264 _ A93.out).mono ?_); rintro e w139 ⟨rfl, hb⟩; have n0_ := Aside0.mk (Kd.R_below (by (with_reducible repeat (first | apply Kd.R_alloc | apply Kd.R_drewN | apply Kd.R_drew)); exact HO251.out) hb); have n1_ := Aside0.mk (Kd.R_below (by (with_reducible repeat (first | apply Kd.R_alloc | apply Kd.R_drewN | apply Kd.R_drew)); exact HO256.out) hb); have n2_ := Aside0.mk (Kd.R_below (by (with_reducible repeat (first | apply Kd.R_alloc | apply Kd.R_drewN | apply Kd.R_drew)); exact HO261.out) hb); have n3_ := Aside0.mk (below_step (by repeat (first | (with_reducible first | exact HB.out | apply below_alloc | apply pw_below_drewN | apply below_drew1) | exact HB.out)) hb); clear HO251; clear HO256; clear HO261; clear HB; have HO251 := n0_; have HO256 := n1_; have HO261 := n2_; have HB := n3_; clear n0_ n1_ n2_ n3_; (try clear hb); (try clear hb2); (try clear hk); (try clear hi)))
                                                                                                go_ret
                                                                                                exact ⟨by first | rfl | (simp [errW_none, errW_some] <;> rfl) | (simp only [← hji83]; first | rfl | (simp [errW_none, errW_some] <;> rfl)) | (simp [*, errW_none, errW_some] <;> rfl), by repeat (first | (with_reducible first | exact HB.out | apply below_alloc | apply pw_below_drewN | apply below_drew1) | exact HB.out)⟩
                                                                                              · rw [if_neg c92] at H
                                                                                                have c92b0 : (t263 == 4) = false := beq_eq_false_iff_ne.mpr c92
                                                                                                have c92b1 : (t263 != 4) = true := bne_iff_ne.mpr c92
                                                                                                obtain rfl := Option.some.inj H
                                                                                                cases hr
                                                                                            · rw [if_neg c90] at H
                                                                                              have c90b0 : (t262 == 4) = false := beq_eq_false_iff_ne.mpr c90
                                                                                              have c90b1 : (t262 != 4) = true := bne_iff_ne.mpr c90
                                                                                              obtain rfl := Option.some.inj H
                                                                                              cases hr
                                                                                          · rw [if_neg c87] at H
                                                                                            exact absurd H (by simp)
                                                                                        · rw [if_neg c85] at H
                                                                                          exact absurd H (by simp)
                                                                                      · rw [if_neg c84] at H
                                                                                        exact absurd H (by simp)
                                                                                  · rw [if_neg c81] at H
                                                                                    exact absurd H (by simp)
                                                                                · rw [if_neg c79] at H
                                                                                  exact absurd H (by simp)
                                                                              · rw [if_neg c77] at H
                                                                                exact absurd H (by simp)
                                                                            · rw [if_neg c76] at H
                                                                              exact absurd H (by simp)
                                                                          · rw [if_neg c74] at H
                                                                            exact absurd H (by simp)
                                                                        · rw [if_neg c72] at H
                                                                          exact absurd H (by simp)
                                                                      · rw [if_neg c68] at H
                                                                        exact absurd H (by simp)
                                                                    · rw [if_neg c67] at H
                                                                      exact absurd H (by simp)
                                                                  · rw [if_neg c66] at H
                                                                    exact absurd H (by simp)
                                                                · rw [if_neg c65] at H
                                                                  exact absurd H (by simp)
                                                              · rw [if_neg c63] at H
                                                                exact absurd H (by simp)
                                                            · rw [if_neg c61] at H
                                                              exact absurd H (by simp)
                                                          · rw [if_neg c59] at H
                                                            exact absurd H (by simp)
                                                        · rw [if_neg c57] at H
                                                          exact absurd H (by simp)
                                                      · rw [if_neg c55] at H
                                                        exact absurd H (by simp)
                                                    · rw [if_neg c53] at H
                                                      exact absurd H (by simp)
                                                  · rw [if_neg c51] at H
                                                    exact absurd H (by simp)
                                                · rw [if_neg c49] at H
                                                  exact absurd H (by simp)
                                              · rw [if_neg c48] at H
                                                exact absurd H (by simp)
                                            · rw [if_neg c47] at H
                                              exact absurd H (by simp)
                                          · rw [if_neg c45] at H
                                            exact absurd H (by simp)
                                        · rw [if_neg c43] at H
                                          exact absurd H (by simp)
                                      · rw [if_neg c41] at H
                                        exact absurd H (by simp)
                                    · rw [if_neg c39] at H
                                      exact absurd H (by simp)
                                  · rw [if_neg c37] at H
                                    exact absurd H (by simp)
                                · rw [if_neg c35] at H
                                  exact absurd H (by simp)
                              · rw [if_neg c33] at H
                                exact absurd H (by simp)
                            · rw [if_neg c31] at H
                              exact absurd H (by simp)
                          · rw [if_neg c29] at H
                            exact absurd H (by simp)
                        · rw [if_neg c27] at H
                          exact absurd H (by simp)
                      · rw [if_neg c26] at H
                        exact absurd H (by simp)
                    · rw [if_neg c24] at H
                      exact absurd H (by simp)
                  · rw [if_neg c22] at H
                    exact absurd H (by simp)
                · rw [if_neg c20] at H
                  exact absurd H (by simp)
              · rw [if_neg c17] at H
                exact absurd H (by simp)
            · rw [if_neg c15] at H
              exact absurd H (by simp)
          · rw [if_neg c13] at H
            exact absurd H (by simp)
        · rw [if_neg c11] at H
          exact absurd H (by simp)
      · rw [if_neg c9] at H
        exact absurd H (by simp)
    · rw [if_neg c6] at H
      exact absurd H (by simp)
  · rw [if_neg c4] at H
    exact absurd H (by simp)
def shelfmarklaw11_ParseForms.Pure : Prop := ∀ (a0 : Int), (Lit.int .u8 a0).wf = true → ∃ k, shelfmarklaw11_ParseForms.f k a0 = some true
theorem shelfmarklaw11_ParseForms.walk (P : shelfmarklaw11_ParseForms.Pure) (a0 : Int) (w : World) (w0 : (Lit.int .u8 a0).wf = true) :
    Calls Tryd.prog 6 #[.int .u8 a0] w fun e w' => e = .returned (.bool true) ∧ Below w.heap.size w w' := by
  obtain ⟨k, h⟩ := P a0 w0
  refine (shelfmarklaw11_ParseForms.calls k a0 true w h).mono ?_
  rintro e w' ⟨rfl, hd⟩
  exact ⟨rfl, hd⟩
end Go.Proofs.YtncokgdfkbgflaaDoor.P

namespace Go.Proofs.YtncokgdfkbgflaaDoor.P
open Go.RowKit Go.Proofs.YtncokgdfkbgflaaDoorW.PrintWords Go.Proofs.YtncokgdfkbgflaaDoorW.PrintLast Go.Proofs.YtncokgdfkbgflaaDoorW.PrintMore
attribute [local go_sem] max2_int min2_int max_two min_two max_three min_three max_four min_four   -- for this text's walks alone
set_option linter.unusedVariables false
set_option linter.unusedSimpArgs false
theorem eqA68 (d : Nat) (w : World) (x0 y0 : ByteArray) (x1 y1 : Int) (x2 y2 : ByteArray) :
    (Op.equalIn (d + 2) 68 (.agg #[.string x0, .int .i64 x1, .string x2]) (.agg #[.string y0, .int .i64 y1, .string y2])).run Tryd.prog w = .ok (x0.toList == y0.toList && (x1 == y1 && (x2.toList == y2.toList))) w := by
  refine eqA_of Tryd.underlying68 (by kernel_rfl) ?_
  refine eqf_cons (by rfl) (by go_simp; rfl) (by go_simp; rfl) (by go_simp) ?_
  refine eqf_cons (by rfl) (by go_simp; rfl) (by go_simp; rfl) (by go_simp) ?_
  exact eqf_last (by rfl) (by go_simp; rfl) (by go_simp; rfl) (by go_simp)
end Go.Proofs.YtncokgdfkbgflaaDoor.P

namespace Go.Proofs.YtncokgdfkbgflaaDoor.P
open Go.RowKit Go.Proofs.YtncokgdfkbgflaaDoorW.PrintWords Go.Proofs.YtncokgdfkbgflaaDoorW.PrintLast Go.Proofs.YtncokgdfkbgflaaDoorW.PrintMore
attribute [local go_sem] max2_int min2_int max_two min_two max_three min_three max_four min_four   -- for this text's walks alone
set_option linter.unusedVariables false
set_option linter.unusedSimpArgs false
attribute [local go_sem high] eqA68
def shelfmarkref10_Same.l0 : Nat → List (S68) → List (S68) → Int → Option (Bool)
  | 0, _, _, _ => none
  | k + 1, x0, x1, x5 => if x5 < (x0.length : Int) then (if 0 ≤ x5 then (if x5 < (x1.length : Int) then (if (!((((rd_T68 x0 x5).f0).toList) == (((rd_T68 x1 x5).f0).toList)) || (!(((rd_T68 x0 x5).f1) == ((rd_T68 x1 x5).f1)) || (!((((rd_T68 x0 x5).f2).toList) == (((rd_T68 x1 x5).f2).toList))))) = true then (some false) else (shelfmarkref10_Same.l0 k x0 x1 (wrap64 (x5 + 1)))) else (none)) else (none)) else (some true)
def shelfmarkref10_Same.f (k : Nat) (l0 : List (S68)) (l1 : List (S68)) : Option (Bool) := if (l0.length : Int) = (l1.length : Int) then (shelfmarkref10_Same.l0 k l0 l1 0) else (some false)
end Go.Proofs.YtncokgdfkbgflaaDoor.P

namespace Go.Proofs.YtncokgdfkbgflaaDoor
set_option linter.unusedVariables false
set_option linter.unusedSimpArgs false
open Go.RowKit Go.Proofs.YtncokgdfkbgflaaDoorW.PrintWords Go.Proofs.YtncokgdfkbgflaaDoorW.PrintMore P
theorem extract_list (s : ByteArray) (i j : Nat) : (s.extract i j).data.toList = (s.data.toList.drop i).take (j - i) := by
  rw [ByteArray.data_extract, Array.toList_extract, List.extract_eq_take_drop]
theorem hasPrefix_false {l p : List UInt8} (h : ¬ ∃ t, l = p ++ t) : Lib.hasPrefix l p = false := by
  cases hp : Lib.hasPrefix l p with
  | false => rfl
  | true => exact absurd ((hasPrefix_iff _ _).1 hp) h
theorem name_f (a b : ByteArray) (ha : a.size < 4611686018427387904) (hb : b.size < 4611686018427387904) (k : Nat) (hk : a.size + 2 ≤ k) : ∃ r, shelfmarkref10_name.f k a b = some r ∧ r.data.toList = refName a.data.toList b.data.toList := by
  have hza := Lib.size_eq a
  have hzb := Lib.size_eq b
  obtain ⟨k, rfl⟩ : ∃ g, k = g + 1 := ⟨k - 1, by omega⟩
  unfold shelfmarkref10_name.f
  rw [toList_data b, toList_data]
  by_cases h0 : b.data.toList = []
  · rw [if_pos h0]
    have e47 : shelfmarkref10_has.f (k + 1) a 47 = some (a.data.toList.contains 47) := has_f a 47 ha (k + 1) (by omega)
    rw [e47]
    simp only [Option.bind_some]
    have e : refName a.data.toList b.data.toList = if a.data.toList.contains 47 = true then [] else a.data.toList := by
      rw [h0, refName, show headOf [] = [] from rfl, if_pos (show Lib.hasPrefix a.data.toList [] = true from (hasPrefix_iff _ _).2 ⟨a.data.toList, rfl⟩)]
      rfl
    rw [e]
    split
    · exact ⟨_, rfl, rfl⟩
    · exact ⟨_, rfl, rfl⟩
  · rw [if_neg h0]
    have hpos : 0 < b.data.toList.length := Nat.pos_of_ne_zero (fun e => h0 (List.length_eq_zero_iff.1 e))
    have j1 : shelfmarkref10_name.j0 (k + 1) a b true = some (⟨#[]⟩ : ByteArray) := by rw [shelfmarkref10_name.j0, if_pos rfl]
    have e0 : Lib.hasPrefix a.data.toList (headOf b.data.toList) = false → refName a.data.toList b.data.toList = [] := refName_stop
    have hh : headOf b.data.toList = b.data.toList ++ [47] := by rw [headOf, if_neg h0]
    by_cases h1 : a.data.toList.length ≤ b.data.toList.length
    · rw [if_pos (by omega), j1]
      refine ⟨_, rfl, ?_⟩
      rw [e0 (hasPrefix_false (by
        rintro ⟨t, ht⟩
        have := congrArg List.length ht
        rw [hh, List.length_append, List.length_append] at this
        simp only [List.length_cons, List.length_nil] at this
        omega))]
    · rw [if_neg (by omega), if_pos (by omega), if_pos (by omega), Int.toNat_natCast, extract_list]
      have hx : ((a.data.toList.drop 0).take (b.size - 0)) = a.data.toList.take b.data.toList.length := by rw [List.drop_zero, hzb]; rfl
      rw [hx]
      by_cases h2 : a.data.toList.take b.data.toList.length = b.data.toList
      · rw [if_pos h2, if_pos (by omega), show ((b.size : Nat) : Int) = ((b.data.toList.length : Nat) : Int) by omega, bt_is a _ (by omega)]
        have hlt : b.data.toList.length < a.data.toList.length := by omega
        have hs : a.data.toList = b.data.toList ++ (a.data.toList[b.data.toList.length] :: a.data.toList.drop (b.data.toList.length + 1)) := by
          rw [← List.drop_eq_getElem_cons hlt]
          conv => lhs; rw [← List.take_append_drop b.data.toList.length a.data.toList]
          rw [h2]
        by_cases h3 : a.data.toList[b.data.toList.length] = 47
        · have e4 : ((((a.data.toList[b.data.toList.length]).toNat : Nat) : Int) != 47) = false := by rw [h3]; rfl
          rw [e4, shelfmarkref10_name.j0, if_neg (by decide), show wrap64 ((b.size : Int) + 1) = ((b.data.toList.length + 1 : Nat) : Int) by unfold wrap64; omega, if_pos (by omega), if_pos (by omega), Int.toNat_natCast]
          have hxl : (a.extract (b.data.toList.length + 1) a.size).data.toList = a.data.toList.drop (b.data.toList.length + 1) := by
            rw [extract_list]
            exact List.take_of_length_le (by rw [List.length_drop]; omega)
          have hxs : (a.extract (b.data.toList.length + 1) a.size).size ≤ a.size := by
            rw [Lib.size_eq, hxl, List.length_drop]; omega
          have e47 : shelfmarkref10_has.f k (a.extract (b.data.toList.length + 1) a.size) 47 = some ((a.data.toList.drop (b.data.toList.length + 1)).contains 47) := by
            rw [← hxl]
            exact has_f _ 47 (by omega) k (by omega)
          rw [e47]
          simp only [Option.bind_some]
          have hex : ∃ t, a.data.toList = (b.data.toList ++ [47]) ++ t := ⟨a.data.toList.drop (b.data.toList.length + 1), by
            rw [List.append_assoc]
            rw [h3] at hs
            exact hs⟩
          have e : refName a.data.toList b.data.toList = if (a.data.toList.drop (b.data.toList.length + 1)).contains 47 = true then [] else a.data.toList.drop (b.data.toList.length + 1) := by
            rw [refName, hh, if_pos ((hasPrefix_iff _ _).2 hex)]
            rw [List.length_append]
            rfl
          rw [e]
          split
          · exact ⟨_, rfl, rfl⟩
          · exact ⟨_, rfl, hxl⟩
        · have e4 : ((((a.data.toList[b.data.toList.length]).toNat : Nat) : Int) != 47) = true := by
            rw [bne_iff_ne]
            intro e
            apply h3
            apply UInt8.toNat_inj.mp
            show _ = 47
            omega
          rw [e4, j1]
          refine ⟨_, rfl, ?_⟩
          rw [e0 (hasPrefix_false (by
            rintro ⟨t, ht⟩
            apply h3
            rw [hh, List.append_assoc] at ht
            have e5 := hs.symm.trans ht
            have e6 := List.append_cancel_left e5
            injection e6))]
      · rw [if_neg h2, j1]
        refine ⟨_, rfl, ?_⟩
        rw [e0 (hasPrefix_false (by
          rintro ⟨t, ht⟩
          apply h2
          rw [ht, hh, List.append_assoc]
          exact List.take_left' rfl))]
theorem nds_drop (l : List S68) (i : Nat) (h : i < l.length) : (nds l).drop i = nd l[i] :: (nds l).drop (i + 1) := by
  have h1 : i < (nds l).length := by simp [nds]; exact h
  rw [List.drop_eq_getElem_cons h1]
  congr 1
  simp [nds]
theorem nds_len (l : List S68) : (nds l).length = l.length := by simp [nds]
theorem under_next (l : List S68) (m next B k : Nat) (hn : next < l.length) (a1 : l.length - (next + 1) ≤ m) (a3 : 3 * m + B + 8 ≤ k) (hnx : rd_T68 l (next : Int) = l[next])
    (ih : l[next].f1 = 4 → ∃ j : Nat, shelfmarkref10_under.l0 k l (next : Int) ((next + 1 : Nat) : Int) (⟨#[]⟩ : ByteArray) = some (j : Int) ∧ next + 1 ≤ j ∧ j ≤ l.length ∧ ∀ f, l.length - (next + 1) < f → (nds l).drop j = takeDir f l[next].f0.data.toList [] ((nds l).drop (next + 1))) :
    ∃ j : Nat, shelfmarkref10_under.l0 k l (next : Int) ((next + 1 : Nat) : Int) (⟨#[]⟩ : ByteArray) = some (j : Int) ∧ next + 1 ≤ j ∧ j ≤ l.length ∧ ∀ f, l.length - (next + 1) < f → (nds l).drop j = if l[next].f1 = 4 then takeDir f l[next].f0.data.toList [] ((nds l).drop (next + 1)) else (nds l).drop (next + 1) := by
  by_cases h5 : l[next].f1 = 4
  · obtain ⟨j, a, b, c, d⟩ := ih h5
    exact ⟨j, a, b, c, fun f hf => by rw [if_pos h5]; exact d f hf⟩
  · refine ⟨next + 1, ?_, Nat.le_refl _, hn, fun f hf => by rw [if_neg h5]⟩
    obtain ⟨k, rfl⟩ : ∃ g, k = g + 2 := ⟨k - 2, by omega⟩
    have h6 : (l[next].f1 == 4) = false := beq_eq_false_iff_ne.2 h5
    by_cases h7 : next + 1 < l.length
    · rw [shelfmarkref10_under.l0, if_pos (by omega), if_pos (by omega), if_pos (by omega), hnx, h6, shelfmarkref10_under.j1, if_neg (by decide)]
    · rw [shelfmarkref10_under.l0, if_neg (by omega), shelfmarkref10_under.j1, if_neg (by decide)]
theorem under_rounds (l : List S68) (B : Nat) (hB : B < 1000000000) (hl : l.length < 1000000000) (hs : ∀ x ∈ l, x.f0.size ≤ B) : ∀ (m next at_ : Nat) (last : ByteArray) (k : Nat), l.length - next ≤ m → next ≤ l.length → (ha : at_ < l.length) → 3 * m + B + 8 ≤ k → l[at_].f1 = 4 →
    ∃ j : Nat, shelfmarkref10_under.l0 k l (at_ : Int) (next : Int) last = some (j : Int) ∧ next ≤ j ∧ j ≤ l.length ∧ ∀ f, l.length - next < f → (nds l).drop j = takeDir f l[at_].f0.data.toList last.data.toList ((nds l).drop next) := by
  intro m
  induction m with
  | zero =>
    intro next at_ last k h1 h2 ha hk h4
    obtain ⟨k, rfl⟩ : ∃ g, k = g + 2 := ⟨k - 2, by omega⟩
    refine ⟨next, ?_, Nat.le_refl _, h2, ?_⟩
    · rw [shelfmarkref10_under.l0, if_neg (by omega), shelfmarkref10_under.j1, if_neg (by decide)]
    · intro f hf
      obtain ⟨f, rfl⟩ : ∃ g, f = g + 1 := ⟨f - 1, by omega⟩
      rw [List.drop_eq_nil_of_le (by rw [nds_len]; omega), takeDir]
  | succ m ih =>
    intro next at_ last k h1 h2 ha hk h4
    by_cases hn : next < l.length
    · obtain ⟨k, rfl⟩ : ∃ g, k = g + 3 := ⟨k - 3, by omega⟩
      have hat : rd_T68 l (at_ : Int) = l[at_] := rd68_at l at_ ha
      have hnx : rd_T68 l (next : Int) = l[next] := rd68_at l next hn
      have hsn := hs l[next] (List.getElem_mem _)
      have hsa := hs l[at_] (List.getElem_mem _)
      obtain ⟨r, hr, hrl⟩ := name_f l[next].f0 l[at_].f0 (by omega) (by omega) (k + 1) (by omega)
      have hd := nds_drop l next hn
      have hkd : (nd l[next]).path = l[next].f0.data.toList := rfl
      have hkk : (nd l[next]).kind = l[next].f1 := rfl
      have hl0 : shelfmarkref10_under.l0 (k + 3) l (at_ : Int) (next : Int) last = (if r.toList = ([] : List UInt8) then (some (next : Int)) else (if (Op.bytesLess r.toList last.toList || r.toList == last.toList) = true then (some (next : Int)) else ((shelfmarkref10_under.f (k + 1) l (next : Int)).bind fun t213 => (shelfmarkref10_under.l0 (k + 1) l (at_ : Int) t213 r)))) := by
        rw [shelfmarkref10_under.l0, if_pos (by omega), if_pos (by omega), if_pos (by omega), hat, h4, shelfmarkref10_under.j1, if_pos (by rfl), if_pos (by omega), if_pos (by omega), if_pos (by omega), if_pos (by omega), hat, hnx, hr]
        rfl
      rw [hl0, toList_data, toList_data, hrl]
      by_cases hstop : refName l[next].f0.data.toList l[at_].f0.data.toList = [] ∨ (Op.bytesLess (refName l[next].f0.data.toList l[at_].f0.data.toList) last.data.toList || refName l[next].f0.data.toList l[at_].f0.data.toList == last.data.toList) = true
      · refine ⟨next, ?_, Nat.le_refl _, h2, ?_⟩
        · rcases hstop with h | h
          · rw [if_pos h]
          · rw [if_pos h]; split <;> rfl
        · intro f hf
          obtain ⟨f, rfl⟩ : ∃ g, f = g + 1 := ⟨f - 1, by omega⟩
          rw [hd, takeDir, hkd, if_pos hstop]
      · rw [if_neg (fun h => hstop (.inl h)), if_neg (fun h => hstop (.inr h))]
        have HS := Aside0.mk hstop
        have HL := Aside0.mk hl0
        clear hstop hl0
        have a0 : next < 4611686018427387904 := by omega
        have a1 : l.length - (next + 1) ≤ m := by omega
        have a3 : 3 * m + B + 8 ≤ k := by omega
        have a4 : 3 * m + B + 8 ≤ k + 1 := by omega
        rw [shelfmarkref10_under.f, wrap_up next a0]
        obtain ⟨j, hj, hj1, hj2, hj3⟩ := under_next l m next B k hn a1 a3 hnx (fun h5 => ih (next + 1) next (⟨#[]⟩ : ByteArray) k a1 hn hn a3 h5)
        rw [hj]
        simp only [Option.bind_some]
        obtain ⟨i, hi, hi1, hi2, hi3⟩ := ih j at_ r (k + 1) (Nat.le_trans (Nat.sub_le_sub_left hj1 _) a1) hj2 ha a4 h4
        refine ⟨i, hi, Nat.le_trans (Nat.le_of_succ_le hj1) hi1, hi2, ?_⟩
        intro f hf
        obtain ⟨f, rfl⟩ : ∃ g, f = g + 1 := ⟨f - 1, by omega⟩
        have b1 : l.length - (next + 1) < f := by omega
        rw [hi3 f (Nat.lt_of_le_of_lt (Nat.sub_le_sub_left hj1 _) b1), hd, takeDir, hkd, hkk, if_neg HS.out, hrl, hj3 f b1]
    · obtain ⟨k, rfl⟩ : ∃ g, k = g + 2 := ⟨k - 2, by omega⟩
      refine ⟨next, ?_, Nat.le_refl _, h2, ?_⟩
      · rw [shelfmarkref10_under.l0, if_neg (by omega), shelfmarkref10_under.j1, if_neg (by decide)]
      · intro f hf
        obtain ⟨f, rfl⟩ : ∃ g, f = g + 1 := ⟨f - 1, by omega⟩
        rw [List.drop_eq_nil_of_le (by rw [nds_len]; omega), takeDir]
theorem under_f (l : List S68) (B : Nat) (hB : B < 1000000000) (hl : l.length < 1000000000) (hs : ∀ x ∈ l, x.f0.size ≤ B) (h0 : 0 < l.length) (k : Nat) (hk : 3 * l.length + B + 9 ≤ k) :
    ∃ j : Nat, shelfmarkref10_under.f k l 0 = some (j : Int) ∧ j ≤ l.length ∧ (nds l).drop j = if l[0].f1 = 4 then takeDir l.length l[0].f0.data.toList [] ((nds l).drop 1) else (nds l).drop 1 := by
  obtain ⟨k, rfl⟩ : ∃ g, k = g + 3 := ⟨k - 3, by omega⟩
  have hat : rd_T68 l 0 = l[0] := rd68_at l 0 h0
  rw [shelfmarkref10_under.f, show wrap64 (0 + 1) = ((1 : Nat) : Int) by unfold wrap64; decide]
  by_cases h5 : l[0].f1 = 4
  · obtain ⟨j, a, b, c, d⟩ := under_rounds l B hB hl hs l.length 1 0 (⟨#[]⟩ : ByteArray) (k + 2) (by omega) (by omega) h0 (by omega) h5
    exact ⟨j, a, c, by rw [if_pos h5]; exact d l.length (by omega)⟩
  · refine ⟨1, ?_, h0, by rw [if_neg h5]⟩
    have h6 : (l[0].f1 == 4) = false := beq_eq_false_iff_ne.2 h5
    by_cases h7 : 1 < l.length
    · rw [shelfmarkref10_under.l0, if_pos (by omega), if_pos (by decide), if_pos (by omega), hat, h6, shelfmarkref10_under.j1, if_neg (by decide)]
    · rw [shelfmarkref10_under.l0, if_neg (by omega), shelfmarkref10_under.j1, if_neg (by decide)]
theorem refMay_rounds (l : List S68) (B : Nat) (hB : B < 1000000000) (hl : l.length < 1000000000) (hs : ∀ x ∈ l, x.f0.size ≤ B) (h0 : 0 < l.length) : ∀ (m i k : Nat), l.length - i ≤ m → i ≤ l.length → m + 3 * l.length + B + 6000 ≤ k →
    shelfmarkref10_May.l0 k l (i : Int) = some (((nds l).drop i).all refNode && (if l[0].f1 = 4 then (takeDir l.length l[0].f0.data.toList [] ((nds l).drop 1)).isEmpty else ((nds l).drop 1).isEmpty)) := by
  intro m
  induction m with
  | zero =>
    intro i k h1 h2 hk
    obtain ⟨k, rfl⟩ : ∃ g, k = g + 1 := ⟨k - 1, by omega⟩
    rw [shelfmarkref10_May.l0, if_neg (by omega), List.drop_eq_nil_of_le (by rw [nds_len]; omega), List.all_nil, Bool.true_and]
    obtain ⟨j, hj, hj1, hj2⟩ := under_f l B hB hl hs h0 k (by omega)
    rw [hj]
    simp only [Option.bind_some]
    congr 1
    have e : (((j : Int) == (l.length : Int)) : Bool) = ((nds l).drop j).isEmpty := by
      rw [Bool.eq_iff_iff, beq_iff_eq, List.isEmpty_iff, List.drop_eq_nil_iff, nds_len]; omega
    rw [e, hj2]
    split <;> rfl
  | succ m ih =>
    intro i k h1 h2 hk
    by_cases hi : i < l.length
    · obtain ⟨k, rfl⟩ : ∃ g, k = g + 1 := ⟨k - 1, by omega⟩
      have hx : rd_T68 l (i : Int) = l[i] := rd68_at l i hi
      have hsi := hs l[i] (List.getElem_mem _)
      obtain ⟨a, nm, hc, hcl⟩ := cut_f l[i].f0 (by omega) k (by omega)
      have hnmsz : nm.size ≤ l[i].f0.size := by
        rw [Lib.size_eq, hcl, Lib.size_eq]
        cases h : cutSlash l[i].f0.data.toList with
        | none => exact Nat.le_refl _
        | some y =>
          have := cutSlash_is _ y.1 y.2 h
          simp only
          rw [this]; simp; omega
      have e1 : shelfmarkref10_MayName.f k nm = some (mayName nm.data.toList) := refMayName_f nm k (by omega)
      have e2 := deep_f l[i].f0 (by omega) k (by omega)
      have e3 := mayData_f l[i] k (by omega)
      rw [shelfmarkref10_May.l0, if_pos (by omega), if_pos (by omega), hx, hc]
      simp only [Option.bind_some]
      rw [e1]
      simp only [Option.bind_some]
      rw [nds_drop l i hi, List.all_cons]
      have er : refNode (nd l[i]) = (okNd (nd l[i]) && (decide (slashes l[i].f0.data.toList < 64) && mayName nm.data.toList)) := by
        unfold refNode; rw [hcl]; rfl
      rw [er]
      by_cases h3 : mayName nm.data.toList = true
      · rw [if_pos h3, e2, h3]
        simp only [Option.bind_some]
        by_cases h4 : slashes l[i].f0.data.toList < 64
        · rw [if_neg (by omega), e3, decide_eq_true h4]
          simp only [Option.bind_some]
          by_cases h5 : okNd (nd l[i]) = true
          · rw [if_pos h5, h5, wrap_up i (by omega), ih (i + 1) k (by omega) (by omega) (by omega)]
            rfl
          · rw [if_neg h5, Bool.eq_false_iff.2 h5]; rfl
        · rw [if_pos (by omega), decide_eq_false h4]; simp
      · rw [if_neg h3, Bool.eq_false_iff.2 h3]; simp
    · exact ih i k (by omega) h2 (by omega)
theorem refMay_f (l : List S68) (hs : ∀ x ∈ l, x.f0.size ≤ 1048576) (k : Nat) (hk : 1100000 ≤ k) : shelfmarkref10_May.f k l = some (May (nds l)) := by
  rw [← refMay_is]
  obtain ⟨k, rfl⟩ : ∃ g, k = g + 1 := ⟨k - 1, by omega⟩
  unfold shelfmarkref10_May.f
  by_cases h0 : 0 < l.length
  · have hat : rd_T68 l 0 = l[0] := rd68_at l 0 h0
    have hc : nds l = nd l[0] :: (nds l).drop 1 := by
      have := nds_drop l 0 h0
      rw [List.drop_zero] at this
      exact this
    have hL := nds_len l
    have j1 : shelfmarkref10_May.j0 (k + 1) l true = some false := by rw [shelfmarkref10_May.j0, if_pos rfl]
    rw [if_neg (by omega)]
    have er : refMay (nds l) = (decide (l.length ≤ 256) && ((nd l[0]).path == [] && (okNd (nd l[0]) && (((nds l).drop 1).all refNode && (if (nd l[0]).kind = 4 then (takeDir l.length [] [] ((nds l).drop 1)).isEmpty else ((nds l).drop 1).isEmpty))))) := by
      conv => lhs; rw [hc]
      rw [refMay_cons, ← hc, hL]
      have e9 : ((nds l).drop 1).length + 1 = l.length := by rw [List.length_drop, hL]; omega
      rw [e9]
    rw [er]
    by_cases h1 : l.length ≤ 256
    · rw [if_neg (by omega), if_pos (by omega), hat, toList_data, decide_eq_true h1]
      have hp : (nd l[0]).path = l[0].f0.data.toList := rfl
      have hkd : (nd l[0]).kind = l[0].f1 := rfl
      rw [hp, hkd]
      by_cases h2 : l[0].f0.data.toList = []
      · have e3 := mayData_f l[0] (k + 1) (by omega)
        rw [if_pos h2, e3]
        simp only [Option.bind_some]
        by_cases h4 : okNd (nd l[0]) = true
        · have hm := refMay_rounds l 1048576 (by decide) (by omega) hs h0 l.length 1 k (by omega) (by omega) (by omega)
          rw [h4, show (!true) = false from rfl, shelfmarkref10_May.j0, if_neg (by decide)]
          have e1 : ((1 : Nat) : Int) = 1 := rfl
          rw [← e1, hm, h2]
          rfl
        · rw [Bool.eq_false_iff.2 h4, show (!false) = true from rfl, j1]
          simp
      · rw [if_neg h2, j1, beq_eq_false_iff_ne.2 h2]
        simp
    · rw [if_pos (by omega), j1, decide_eq_false h1]
      simp
  · have : l = [] := List.length_eq_zero_iff.1 (by omega)
    subst this
    rw [if_pos (by decide), shelfmarkref10_May.j0, if_pos rfl]
    rfl
end Go.Proofs.YtncokgdfkbgflaaDoor
