/- Texts of this claim, joined: what the others lean on. -/
import Derived.Test.YtncokgdfkbgflaaDoorLimitsM4
import Derived.Test.YtncokgdfkbgflaaDoorLimitsM7
import Derived.Test.YtncokgdfkbgflaaDoorLimitsM6
set_option linter.unusedVariables false
set_option linter.unusedSimpArgs false
namespace Go.Proofs.YtncokgdfkbgflaaDoor.P
open Go.RowKit Go.Proofs.YtncokgdfkbgflaaDoorW.PrintWords Go.Proofs.YtncokgdfkbgflaaDoorW.PrintLast Go.Proofs.YtncokgdfkbgflaaDoorW.PrintMore
attribute [local go_sem] max2_int min2_int max_two min_two max_three min_three max_four min_four   -- for this text's walks alone
set_option linter.unusedVariables false
set_option linter.unusedSimpArgs false
mutual
def shelfmarklaw11_ParseLimits.j3 : Nat → ByteArray → Bool → Option (Bool)
  | 0, _, _ => none
  | k + 1, x8, x9 => (parse_Get.f x8).bind fun bt246 => ((shelfmarklaw1_Err.f bt246.2).bind fun t250 => (if ((t250 == 0) == x9) = true then (if x9 = true then ((shelfmarklaw11_awake.f k).bind fun t251 => (some t251)) else ((shelfmarklaw1_Err.f bt246.2).bind fun t252 => (if t252 = 4 then (if (bt246.1.length : Int) = 0 then ((shelfmarklaw11_awake.f k).bind fun t253 => (some t253)) else (some false)) else (some false)))) else (some false)))
def shelfmarklaw11_ParseLimits.l0 : Nat → ByteArray → ByteArray → ByteArray → Int → Int → Option (Bool)
  | 0, _, _, _, _, _ => none
  | k + 1, x6, x7, x8, x10, x11 => if x11 < x10 then (if x8.size + x7.size ≤ 9223372036854775807 then ((shelfmarkref10_Str.f k (⟨#[101, 110, 116, 114, 121]⟩ : ByteArray)).bind fun t220 => (if (x8 ++ x7).size + t220.size ≤ 9223372036854775807 then ((shelfmarkref10_Str.f k (⟨#[40]⟩ : ByteArray)).bind fun t221 => (if ((x8 ++ x7) ++ t220).size + t221.size ≤ 9223372036854775807 then ((shelfmarkref10_Str.f k (⟨#[110, 97, 109, 101]⟩ : ByteArray)).bind fun t222 => (if (((x8 ++ x7) ++ t220) ++ t221).size + t222.size ≤ 9223372036854775807 then ((shelfmarkref10_Str.f k (⟨#[100]⟩ : ByteArray)).bind fun t223 => (if ((((x8 ++ x7) ++ t220) ++ t221) ++ t222).size + t223.size ≤ 9223372036854775807 then ((shelfmarkref10_Str.f k (⟨#[110, 111, 100, 101]⟩ : ByteArray)).bind fun t224 => (if (((((x8 ++ x7) ++ t220) ++ t221) ++ t222) ++ t223).size + t224.size ≤ 9223372036854775807 then (shelfmarklaw11_ParseLimits.l0 k x6 x7 ((((((x8 ++ x7) ++ t220) ++ t221) ++ t222) ++ t223) ++ t224) x10 (wrap64 (x11 + 1))) else (none))) else (none))) else (none))) else (none))) else (none))) else (none)) else (if x8.size + x6.size ≤ 9223372036854775807 then (shelfmarklaw11_ParseLimits.l1 k (x8 ++ x6) x10 0) else (none))
def shelfmarklaw11_ParseLimits.l1 : Nat → ByteArray → Int → Int → Option (Bool)
  | 0, _, _, _ => none
  | k + 1, x8, x10, x12 => if x12 < x10 then ((shelfmarkref10_Str.f k (⟨#[41]⟩ : ByteArray)).bind fun t225 => (if x8.size + t225.size ≤ 9223372036854775807 then ((shelfmarkref10_Str.f k (⟨#[41]⟩ : ByteArray)).bind fun t226 => (if (x8 ++ t225).size + t226.size ≤ 9223372036854775807 then (shelfmarklaw11_ParseLimits.l1 k ((x8 ++ t225) ++ t226) x10 (wrap64 (x12 + 1))) else (none))) else (none))) else (shelfmarklaw11_ParseLimits.j3 k x8 (decide (x10 ≤ 64)))
def shelfmarklaw11_ParseLimits.l2 : Nat → ByteArray → ByteArray → Int → Int → Option (Bool)
  | 0, _, _, _, _ => none
  | k + 1, x6, x8, x14, x15 => if x15 < x14 then ((shelfmarkref10_Str.f k (⟨#[101, 110, 116, 114, 121]⟩ : ByteArray)).bind fun t237 => (if x8.size + t237.size ≤ 9223372036854775807 then ((shelfmarkref10_Str.f k (⟨#[40]⟩ : ByteArray)).bind fun t238 => (if (x8 ++ t237).size + t238.size ≤ 9223372036854775807 then ((shelfmarkref10_Str.f k (⟨#[110, 97, 109, 101]⟩ : ByteArray)).bind fun t239 => (if ((x8 ++ t237) ++ t238).size + t239.size ≤ 9223372036854775807 then ((shelfmarkref10_Str.f k (strOfNums (([(wrap64 (97 + (Int.tmod (wrap64 (Int.tdiv x15 26)) 26))) % 256, (wrap64 (97 + (Int.tmod x15 26))) % 256] : List Int)))).bind fun t243 => (if (((x8 ++ t237) ++ t238) ++ t239).size + t243.size ≤ 9223372036854775807 then ((shelfmarkref10_Str.f k (⟨#[110, 111, 100, 101]⟩ : ByteArray)).bind fun t244 => (if ((((x8 ++ t237) ++ t238) ++ t239) ++ t243).size + t244.size ≤ 9223372036854775807 then (if (((((x8 ++ t237) ++ t238) ++ t239) ++ t243) ++ t244).size + x6.size ≤ 9223372036854775807 then ((shelfmarkref10_Str.f k (⟨#[41]⟩ : ByteArray)).bind fun t245 => (if ((((((x8 ++ t237) ++ t238) ++ t239) ++ t243) ++ t244) ++ x6).size + t245.size ≤ 9223372036854775807 then (shelfmarklaw11_ParseLimits.l2 k x6 (((((((x8 ++ t237) ++ t238) ++ t239) ++ t243) ++ t244) ++ x6) ++ t245) x14 (wrap64 (x15 + 1))) else (none))) else (none)) else (none))) else (none))) else (none))) else (none))) else (none))) else ((shelfmarkref10_Str.f k (⟨#[41]⟩ : ByteArray)).bind fun t236 => (if x8.size + t236.size ≤ 9223372036854775807 then (shelfmarklaw11_ParseLimits.j3 k (x8 ++ t236) (decide (x14 ≤ 256))) else (none)))
end
def shelfmarklaw11_ParseLimits.f (k : Nat) (a0 : Int) (a1 : Int) : Option (Bool) := (shelfmarkref10_Str.f k (⟨#[110, 105, 120, 45, 97, 114, 99, 104, 105, 118, 101, 45, 49]⟩ : ByteArray)).bind fun t210 => ((shelfmarkref10_Str.f k (⟨#[40]⟩ : ByteArray)).bind fun t211 => ((shelfmarkref10_Str.f k (⟨#[116, 121, 112, 101]⟩ : ByteArray)).bind fun t212 => (if t211.size + t212.size ≤ 9223372036854775807 then ((shelfmarkref10_Str.f k (⟨#[114, 101, 103, 117, 108, 97, 114]⟩ : ByteArray)).bind fun t213 => (if (t211 ++ t212).size + t213.size ≤ 9223372036854775807 then ((shelfmarkref10_Str.f k (⟨#[99, 111, 110, 116, 101, 110, 116, 115]⟩ : ByteArray)).bind fun t214 => (if ((t211 ++ t212) ++ t213).size + t214.size ≤ 9223372036854775807 then ((shelfmarkref10_Str.f k (⟨#[]⟩ : ByteArray)).bind fun t215 => (if (((t211 ++ t212) ++ t213) ++ t214).size + t215.size ≤ 9223372036854775807 then ((shelfmarkref10_Str.f k (⟨#[41]⟩ : ByteArray)).bind fun t216 => (if ((((t211 ++ t212) ++ t213) ++ t214) ++ t215).size + t216.size ≤ 9223372036854775807 then ((shelfmarkref10_Str.f k (⟨#[40]⟩ : ByteArray)).bind fun t217 => ((shelfmarkref10_Str.f k (⟨#[116, 121, 112, 101]⟩ : ByteArray)).bind fun t218 => (if t217.size + t218.size ≤ 9223372036854775807 then ((shelfmarkref10_Str.f k (⟨#[100, 105, 114, 101, 99, 116, 111, 114, 121]⟩ : ByteArray)).bind fun t219 => (if (t217 ++ t218).size + t219.size ≤ 9223372036854775807 then (if (Int.tmod a1 3) = 0 then (shelfmarklaw11_ParseLimits.l0 k (((((t211 ++ t212) ++ t213) ++ t214) ++ t215) ++ t216) ((t217 ++ t218) ++ t219) t210 (wrap64 (60 + (Int.tmod (wrap64 (a0)) 8))) 0) else (if (Int.tmod a1 3) = 1 then ((shelfmarkref10_Str.f k (⟨#[40]⟩ : ByteArray)).bind fun t227 => (if t210.size + t227.size ≤ 9223372036854775807 then ((shelfmarkref10_Str.f k (⟨#[116, 121, 112, 101]⟩ : ByteArray)).bind fun t228 => (if (t210 ++ t227).size + t228.size ≤ 9223372036854775807 then ((shelfmarkref10_Str.f k (⟨#[114, 101, 103, 117, 108, 97, 114]⟩ : ByteArray)).bind fun t229 => (if ((t210 ++ t227) ++ t228).size + t229.size ≤ 9223372036854775807 then ((shelfmarkref10_Str.f k (⟨#[99, 111, 110, 116, 101, 110, 116, 115]⟩ : ByteArray)).bind fun t230 => (if (((t210 ++ t227) ++ t228) ++ t229).size + t230.size ≤ 9223372036854775807 then (if 0 ≤ (wrap64 (65533 + (Int.tmod (wrap64 (a0)) 7))) then (if (wrap64 (65533 + (Int.tmod (wrap64 (a0)) 7)) : Int).toNat ≤ 281474976710656 then ((shelfmarkref10_Str.f k (strOfNums (List.replicate (wrap64 (65533 + (Int.tmod (wrap64 (a0)) 7)) : Int).toNat 0))).bind fun t234 => (if ((((t210 ++ t227) ++ t228) ++ t229) ++ t230).size + t234.size ≤ 9223372036854775807 then ((shelfmarkref10_Str.f k (⟨#[41]⟩ : ByteArray)).bind fun t235 => (if (((((t210 ++ t227) ++ t228) ++ t229) ++ t230) ++ t234).size + t235.size ≤ 9223372036854775807 then (shelfmarklaw11_ParseLimits.j3 k ((((((t210 ++ t227) ++ t228) ++ t229) ++ t230) ++ t234) ++ t235) (decide ((wrap64 (65533 + (Int.tmod (wrap64 (a0)) 7))) ≤ 65536))) else (none))) else (none))) else (none)) else (none)) else (none))) else (none))) else (none))) else (none))) else (if t210.size + ((t217 ++ t218) ++ t219).size ≤ 9223372036854775807 then (shelfmarklaw11_ParseLimits.l2 k (((((t211 ++ t212) ++ t213) ++ t214) ++ t215) ++ t216) (t210 ++ ((t217 ++ t218) ++ t219)) (wrap64 (250 + (Int.tmod (wrap64 (a0)) 12))) 1) else (none)))) else (none))) else (none)))) else (none))) else (none))) else (none))) else (none))) else (none))))
def shelfmarklaw11_ParseLimits.T11 : Bool × List (List Nat × List Nat) := (true, [([], []), ([], []), ([0, 1], [0, 1]), ([1], []), ([2, 3], [2, 3]), ([3], []), ([4, 5], [4, 5]), ([], []), ([7], [7]), ([8], [8]), ([9], [9]), ([10], [10]), ([], []), ([12], [12]), ([13], [13]), ([14], [14]), ([11, 15], [11, 15]), ([16], [16]), ([17, 5], [17]), ([6, 18], [6, 18]), ([18], []), ([19, 20], [19, 20]), ([], []), ([21, 22], [21, 22]), ([20], []), ([23, 24], [23, 24]), ([25, 24, 0, 1, 2, 3, 4, 5, 6, 7, 8, 9, 10, 11, 12, 13, 14, 15, 16, 17, 18, 19, 20, 21, 22, 23, 24, 25], [0, 25])])
def shelfmarklaw11_ParseLimits.B11 : List Nat := [0, 0, 3, 2, 15, 10, 63, 0, 128, 384, 896, 1920, 0, 4096, 12288, 28672, 65408, 130944, 262058, 524287, 524202, 2097151, 0, 8388607, 1572778, 33554431, 67108863]
theorem shelfmarklaw11_ParseLimits.tab11 : rtab .any (opsOf Tryd.f7 11) = shelfmarklaw11_ParseLimits.T11 := by kernel_rfl
theorem shelfmarklaw11_ParseLimits.bits11 : waitsOk shelfmarklaw11_ParseLimits.T11.2 shelfmarklaw11_ParseLimits.B11 = true := by kernel_rfl
def shelfmarklaw11_ParseLimits.T28 : Bool × List (List Nat × List Nat) := (true, [([], []), ([], []), ([0, 1], [0, 1]), ([1], []), ([2, 3], [2, 3]), ([3], []), ([4, 5], [4, 5]), ([5], []), ([6, 7], [6, 7]), ([], []), ([9, 9], [9]), ([10], [10]), ([11, 7], [11]), ([8, 12], [8, 12]), ([12], []), ([13, 14], [13, 14]), ([15, 14, 0, 1, 2, 3, 4, 5, 6, 7, 8, 9, 10, 11, 12, 13, 14, 15], [0, 15])])
def shelfmarklaw11_ParseLimits.B28 : List Nat := [0, 0, 3, 2, 15, 10, 63, 42, 255, 0, 512, 1536, 3754, 8191, 7850, 32767, 65535]
theorem shelfmarklaw11_ParseLimits.tab28 : rtab .any (opsOf Tryd.f7 28) = shelfmarklaw11_ParseLimits.T28 := by kernel_rfl
theorem shelfmarklaw11_ParseLimits.bits28 : waitsOk shelfmarklaw11_ParseLimits.T28.2 shelfmarklaw11_ParseLimits.B28 = true := by kernel_rfl
set_option maxHeartbeats 8000000 in
set_option maxRecDepth 100000 in
theorem shelfmarklaw11_ParseLimits.calls (k : Nat) (a0 : Int) (a1 : Int) (r : Bool) (w : World) (h : shelfmarklaw11_ParseLimits.f k a0 a1 = some r) (hr : r = true := by rfl) :
  Calls Tryd.prog 7 #[.int .u8 a0, .int .u8 a1] w fun e w' => e = .returned (.bool r) ∧ Below w.heap.size w w' := by
 have HB := Aside0.mk (Below.refl w.heap.size w)
 have H : ((shelfmarkref10_Str.f k (⟨#[110, 105, 120, 45, 97, 114, 99, 104, 105, 118, 101, 45, 49]⟩ : ByteArray)).bind fun t210 => ((shelfmarkref10_Str.f k (⟨#[40]⟩ : ByteArray)).bind fun t211 => ((shelfmarkref10_Str.f k (⟨#[116, 121, 112, 101]⟩ : ByteArray)).bind fun t212 => (if t211.size + t212.size ≤ 9223372036854775807 then ((shelfmarkref10_Str.f k (⟨#[114, 101, 103, 117, 108, 97, 114]⟩ : ByteArray)).bind fun t213 => (if (t211 ++ t212).size + t213.size ≤ 9223372036854775807 then ((shelfmarkref10_Str.f k (⟨#[99, 111, 110, 116, 101, 110, 116, 115]⟩ : ByteArray)).bind fun t214 => (if ((t211 ++ t212) ++ t213).size + t214.size ≤ 9223372036854775807 then ((shelfmarkref10_Str.f k (⟨#[]⟩ : ByteArray)).bind fun t215 => (if (((t211 ++ t212) ++ t213) ++ t214).size + t215.size ≤ 9223372036854775807 then ((shelfmarkref10_Str.f k (⟨#[41]⟩ : ByteArray)).bind fun t216 => (if ((((t211 ++ t212) ++ t213) ++ t214) ++ t215).size + t216.size ≤ 9223372036854775807 then ((shelfmarkref10_Str.f k (⟨#[40]⟩ : ByteArray)).bind fun t217 => ((shelfmarkref10_Str.f k (⟨#[116, 121, 112, 101]⟩ : ByteArray)).bind fun t218 => (if t217.size + t218.size ≤ 9223372036854775807 then ((shelfmarkref10_Str.f k (⟨#[100, 105, 114, 101, 99, 116, 111, 114, 121]⟩ : ByteArray)).bind fun t219 => (if (t217 ++ t218).size + t219.size ≤ 9223372036854775807 then (if (Int.tmod a1 3) = 0 then (shelfmarklaw11_ParseLimits.l0 k (((((t211 ++ t212) ++ t213) ++ t214) ++ t215) ++ t216) ((t217 ++ t218) ++ t219) t210 (wrap64 (60 + (Int.tmod (wrap64 (a0)) 8))) 0) else (if (Int.tmod a1 3) = 1 then ((shelfmarkref10_Str.f k (⟨#[40]⟩ : ByteArray)).bind fun t227 => (if t210.size + t227.size ≤ 9223372036854775807 then ((shelfmarkref10_Str.f k (⟨#[116, 121, 112, 101]⟩ : ByteArray)).bind fun t228 => (if (t210 ++ t227).size + t228.size ≤ 9223372036854775807 then ((shelfmarkref10_Str.f k (⟨#[114, 101, 103, 117, 108, 97, 114]⟩ : ByteArray)).bind fun t229 => (if ((t210 ++ t227) ++ t228).size + t229.size ≤ 9223372036854775807 then ((shelfmarkref10_Str.f k (⟨#[99, 111, 110, 116, 101, 110, 116, 115]⟩ : ByteArray)).bind fun t230 => (if (((t210 ++ t227) ++ t228) ++ t229).size + t230.size ≤ 9223372036854775807 then (if 0 ≤ (wrap64 (65533 + (Int.tmod (wrap64 (a0)) 7))) then (if (wrap64 (65533 + (Int.tmod (wrap64 (a0)) 7)) : Int).toNat ≤ 281474976710656 then ((shelfmarkref10_Str.f k (strOfNums (List.replicate (wrap64 (65533 + (Int.tmod (wrap64 (a0)) 7)) : Int).toNat 0))).bind fun t234 => (if ((((t210 ++ t227) ++ t228) ++ t229) ++ t230).size + t234.size ≤ 9223372036854775807 then ((shelfmarkref10_Str.f k (⟨#[41]⟩ : ByteArray)).bind fun t235 => (if (((((t210 ++ t227) ++ t228) ++ t229) ++ t230) ++ t234).size + t235.size ≤ 9223372036854775807 then (shelfmarklaw11_ParseLimits.j3 k ((((((t210 ++ t227) ++ t228) ++ t229) ++ t230) ++ t234) ++ t235) (decide ((wrap64 (65533 + (Int.tmod (wrap64 (a0)) 7))) ≤ 65536))) else (none))) else (none))) else (none)) else (none)) else (none))) else (none))) else (none))) else (none))) else (if t210.size + ((t217 ++ t218) ++ t219).size ≤ 9223372036854775807 then (shelfmarklaw11_ParseLimits.l2 k (((((t211 ++ t212) ++ t213) ++ t214) ++ t215) ++ t216) (t210 ++ ((t217 ++ t218) ++ t219)) (wrap64 (250 + (Int.tmod (wrap64 (a0)) 12))) 1) else (none)))) else (none))) else (none)))) else (none))) else (none))) else (none))) else (none))) else (none))))) = some r := h
 clear h
 replace H := Option.bind_eq_some_iff.mp H
 obtain ⟨t210, A30, H⟩ := H
 (try dsimp only at H)
 have A3 := Aside0.mk A30
 clear A30
 replace H := Option.bind_eq_some_iff.mp H
 obtain ⟨t211, A40, H⟩ := H
 (try dsimp only at H)
 have A4 := Aside0.mk A40
 clear A40
 replace H := Option.bind_eq_some_iff.mp H
 obtain ⟨t212, A50, H⟩ := H
 (try dsimp only at H)
 have A5 := Aside0.mk A50
 clear A50
 by_cases c6 : t211.size + t212.size ≤ 9223372036854775807
 ·rw [if_pos c6] at H
  have c6b0 := eq_true c6
  have c6b1 : decide (t211.size + t212.size ≤ 9223372036854775807) = true := decide_eq_true c6
  try have c6b2 : (9223372036854775807 < t211.size + t212.size) = False := eq_false (Nat.not_lt.2 c6)
  replace H := Option.bind_eq_some_iff.mp H
  obtain ⟨t213, A70, H⟩ := H
  (try dsimp only at H)
  have A7 := Aside0.mk A70
  clear A70
  by_cases c8 : (t211 ++ t212).size + t213.size ≤ 9223372036854775807
  ·rw [if_pos c8] at H
   have c8b0 := eq_true c8
   have c8b1 : decide ((t211 ++ t212).size + t213.size ≤ 9223372036854775807) = true := decide_eq_true c8
   try have c8b2 : (9223372036854775807 < (t211 ++ t212).size + t213.size) = False := eq_false (Nat.not_lt.2 c8)
   (try (have c8b2_l := c8b2; simp only [ByteArray.size_append] at c8b2_l))
   replace H := Option.bind_eq_some_iff.mp H
   obtain ⟨t214, A90, H⟩ := H
   (try dsimp only at H)
   have A9 := Aside0.mk A90
   clear A90
   by_cases c10 : ((t211 ++ t212) ++ t213).size + t214.size ≤ 9223372036854775807
   ·rw [if_pos c10] at H
    have c10b0 := eq_true c10
    have c10b1 : decide (((t211 ++ t212) ++ t213).size + t214.size ≤ 9223372036854775807) = true := decide_eq_true c10
    try have c10b2 : (9223372036854775807 < ((t211 ++ t212) ++ t213).size + t214.size) = False := eq_false (Nat.not_lt.2 c10)
    (try (have c10b2_l := c10b2; simp only [ByteArray.size_append] at c10b2_l))
    replace H := Option.bind_eq_some_iff.mp H
    obtain ⟨t215, A110, H⟩ := H
    (try dsimp only at H)
    have A11 := Aside0.mk A110
    clear A110
    by_cases c12 : (((t211 ++ t212) ++ t213) ++ t214).size + t215.size ≤ 9223372036854775807
    ·rw [if_pos c12] at H
     have c12b0 := eq_true c12
     have c12b1 : decide ((((t211 ++ t212) ++ t213) ++ t214).size + t215.size ≤ 9223372036854775807) = true := decide_eq_true c12
     try have c12b2 : (9223372036854775807 < (((t211 ++ t212) ++ t213) ++ t214).size + t215.size) = False := eq_false (Nat.not_lt.2 c12)
     (try (have c12b2_l := c12b2; simp only [ByteArray.size_append] at c12b2_l))
     replace H := Option.bind_eq_some_iff.mp H
     obtain ⟨t216, A130, H⟩ := H
     (try dsimp only at H)
     have A13 := Aside0.mk A130
     clear A130
     by_cases c14 : ((((t211 ++ t212) ++ t213) ++ t214) ++ t215).size + t216.size ≤ 9223372036854775807
     ·rw [if_pos c14] at H
      have c14b0 := eq_true c14
      have c14b1 : decide (((((t211 ++ t212) ++ t213) ++ t214) ++ t215).size + t216.size ≤ 9223372036854775807) = true := decide_eq_true c14
      try have c14b2 : (9223372036854775807 < ((((t211 ++ t212) ++ t213) ++ t214) ++ t215).size + t216.size) = False := eq_false (Nat.not_lt.2 c14)
      (try (have c14b2_l := c14b2; simp only [ByteArray.size_append] at c14b2_l))
      replace H := Option.bind_eq_some_iff.mp H
      obtain ⟨t217, A150, H⟩ := H
      (try dsimp only at H)
      have A15 := Aside0.mk A150
      clear A150
      replace H := Option.bind_eq_some_iff.mp H
      obtain ⟨t218, A160, H⟩ := H
      (try dsimp only at H)
      have A16 := Aside0.mk A160
      clear A160
      by_cases c17 : t217.size + t218.size ≤ 9223372036854775807
      ·rw [if_pos c17] at H
       have c17b0 := eq_true c17
       have c17b1 : decide (t217.size + t218.size ≤ 9223372036854775807) = true := decide_eq_true c17
       try have c17b2 : (9223372036854775807 < t217.size + t218.size) = False := eq_false (Nat.not_lt.2 c17)
       replace H := Option.bind_eq_some_iff.mp H
       obtain ⟨t219, A180, H⟩ := H
       (try dsimp only at H)
       have A18 := Aside0.mk A180
       clear A180
       by_cases c19 : (t217 ++ t218).size + t219.size ≤ 9223372036854775807
       ·rw [if_pos c19] at H
        have c19b0 := eq_true c19
        have c19b1 : decide ((t217 ++ t218).size + t219.size ≤ 9223372036854775807) = true := decide_eq_true c19
        try have c19b2 : (9223372036854775807 < (t217 ++ t218).size + t219.size) = False := eq_false (Nat.not_lt.2 c19)
        (try (have c19b2_l := c19b2; simp only [ByteArray.size_append] at c19b2_l))
        have HC20 := Aside0.mk H
        clear H
        go_enter Tryd.func7, Tryd.ntmps7
        go_upto_block 0 with (first | ((with_reducible refine gate_callee (f := 21) rfl ?_); refine goesL_ (some 18) rfl rfl Tryd.func21 (by kernel_rfl) rfl #[.string (⟨#[110, 105, 120, 45, 97, 114, 99, 104, 105, 118, 101, 45, 49]⟩ : ByteArray)] rfl (by (try simp only [List.map_toArray, List.map_cons, List.map_nil]); first | done | rfl | (simp only [List.length_drop, List.length_take]; rfl)) ?_; (with_reducible refine (shelfmarkref10_Str.calls k (⟨#[110, 105, 120, 45, 97, 114, 99, 104, 105, 118, 101, 45, 49]⟩ : ByteArray) t210 _ A3.out).mono ?_); rintro e w21 ⟨rfl, hb⟩; refine ⟨_, rfl, ?_⟩; have n0_ := Aside0.mk (below_step (by repeat (first | (with_reducible first | exact HB.out | apply below_alloc | apply pw_below_drewN | apply below_drew1) | exact HB.out)) hb); clear HB; have HB := n0_; clear n0_; (try clear hb); (try clear hb2); (try clear hk); (try clear hi)) | ((with_reducible refine gate_callee (f := 21) rfl ?_); refine goesL_ (some 19) rfl rfl Tryd.func21 (by kernel_rfl) rfl #[.string (⟨#[40]⟩ : ByteArray)] rfl (by (try simp only [List.map_toArray, List.map_cons, List.map_nil]); first | done | rfl | (simp only [List.length_drop, List.length_take]; rfl)) ?_; (with_reducible refine (shelfmarkref10_Str.calls k (⟨#[40]⟩ : ByteArray) t211 _ A4.out).mono ?_); rintro e w22 ⟨rfl, hb⟩; refine ⟨_, rfl, ?_⟩; have n0_ := Aside0.mk (below_step (by repeat (first | (with_reducible first | exact HB.out | apply below_alloc | apply pw_below_drewN | apply below_drew1) | exact HB.out)) hb); clear HB; have HB := n0_; clear n0_; (try clear hb); (try clear hb2); (try clear hk); (try clear hi)) | ((with_reducible refine gate_callee (f := 21) rfl ?_); refine goesL_ (some 20) rfl rfl Tryd.func21 (by kernel_rfl) rfl #[.string (⟨#[116, 121, 112, 101]⟩ : ByteArray)] rfl (by (try simp only [List.map_toArray, List.map_cons, List.map_nil]); first | done | rfl | (simp only [List.length_drop, List.length_take]; rfl)) ?_; (with_reducible refine (shelfmarkref10_Str.calls k (⟨#[116, 121, 112, 101]⟩ : ByteArray) t212 _ A5.out).mono ?_); rintro e w23 ⟨rfl, hb⟩; refine ⟨_, rfl, ?_⟩; have n0_ := Aside0.mk (below_step (by repeat (first | (with_reducible first | exact HB.out | apply below_alloc | apply pw_below_drewN | apply below_drew1) | exact HB.out)) hb); clear HB; have HB := n0_; clear n0_; (try clear hb); (try clear hb2); (try clear hk); (try clear hi)) | ((with_reducible refine gate_callee (f := 21) rfl ?_); refine goesL_ (some 22) rfl rfl Tryd.func21 (by kernel_rfl) rfl #[.string (⟨#[114, 101, 103, 117, 108, 97, 114]⟩ : ByteArray)] rfl (by (try simp only [List.map_toArray, List.map_cons, List.map_nil]); first | done | rfl | (simp only [List.length_drop, List.length_take]; rfl)) ?_; (with_reducible refine (shelfmarkref10_Str.calls k (⟨#[114, 101, 103, 117, 108, 97, 114]⟩ : ByteArray) t213 _ A7.out).mono ?_); rintro e w24 ⟨rfl, hb⟩; refine ⟨_, rfl, ?_⟩; have n0_ := Aside0.mk (below_step (by repeat (first | (with_reducible first | exact HB.out | apply below_alloc | apply pw_below_drewN | apply below_drew1) | exact HB.out)) hb); clear HB; have HB := n0_; clear n0_; (try clear hb); (try clear hb2); (try clear hk); (try clear hi)) | ((with_reducible refine gate_callee (f := 21) rfl ?_); refine goesL_ (some 24) rfl rfl Tryd.func21 (by kernel_rfl) rfl #[.string (⟨#[99, 111, 110, 116, 101, 110, 116, 115]⟩ : ByteArray)] rfl (by (try simp only [List.map_toArray, List.map_cons, List.map_nil]); first | done | rfl | (simp only [List.length_drop, List.length_take]; rfl)) ?_; (with_reducible refine (shelfmarkref10_Str.calls k (⟨#[99, 111, 110, 116, 101, 110, 116, 115]⟩ : ByteArray) t214 _ A9.out).mono ?_); rintro e w25 ⟨rfl, hb⟩; refine ⟨_, rfl, ?_⟩; have n0_ := Aside0.mk (below_step (by repeat (first | (with_reducible first | exact HB.out | apply below_alloc | apply pw_below_drewN | apply below_drew1) | exact HB.out)) hb); clear HB; have HB := n0_; clear n0_; (try clear hb); (try clear hb2); (try clear hk); (try clear hi)) | ((with_reducible refine gate_callee (f := 21) rfl ?_); refine goesL_ (some 26) rfl rfl Tryd.func21 (by kernel_rfl) rfl #[.string (⟨#[]⟩ : ByteArray)] rfl (by (try simp only [List.map_toArray, List.map_cons, List.map_nil]); first | done | rfl | (simp only [List.length_drop, List.length_take]; rfl)) ?_; (with_reducible refine (shelfmarkref10_Str.calls k (⟨#[]⟩ : ByteArray) t215 _ A11.out).mono ?_); rintro e w26 ⟨rfl, hb⟩; refine ⟨_, rfl, ?_⟩; have n0_ := Aside0.mk (below_step (by repeat (first | (with_reducible first | exact HB.out | apply below_alloc | apply pw_below_drewN | apply below_drew1) | exact HB.out)) hb); clear HB; have HB := n0_; clear n0_; (try clear hb); (try clear hb2); (try clear hk); (try clear hi)) | ((with_reducible refine gate_callee (f := 21) rfl ?_); refine goesL_ (some 28) rfl rfl Tryd.func21 (by kernel_rfl) rfl #[.string (⟨#[41]⟩ : ByteArray)] rfl (by (try simp only [List.map_toArray, List.map_cons, List.map_nil]); first | done | rfl | (simp only [List.length_drop, List.length_take]; rfl)) ?_; (with_reducible refine (shelfmarkref10_Str.calls k (⟨#[41]⟩ : ByteArray) t216 _ A13.out).mono ?_); rintro e w27 ⟨rfl, hb⟩; refine ⟨_, rfl, ?_⟩; have n0_ := Aside0.mk (below_step (by repeat (first | (with_reducible first | exact HB.out | apply below_alloc | apply pw_below_drewN | apply below_drew1) | exact HB.out)) hb); clear HB; have HB := n0_; clear n0_; (try clear hb); (try clear hb2); (try clear hk); (try clear hi)) | ((with_reducible refine gate_callee (f := 21) rfl ?_); refine goesL_ (some 30) rfl rfl Tryd.func21 (by kernel_rfl) rfl #[.string (⟨#[40]⟩ : ByteArray)] rfl (by (try simp only [List.map_toArray, List.map_cons, List.map_nil]); first | done | rfl | (simp only [List.length_drop, List.length_take]; rfl)) ?_; (with_reducible refine (shelfmarkref10_Str.calls k (⟨#[40]⟩ : ByteArray) t217 _ A15.out).mono ?_); rintro e w28 ⟨rfl, hb⟩; refine ⟨_, rfl, ?_⟩; have n0_ := Aside0.mk (below_step (by repeat (first | (with_reducible first | exact HB.out | apply below_alloc | apply pw_below_drewN | apply below_drew1) | exact HB.out)) hb); clear HB; have HB := n0_; clear n0_; (try clear hb); (try clear hb2); (try clear hk); (try clear hi)) | ((with_reducible refine gate_callee (f := 21) rfl ?_); refine goesL_ (some 31) rfl rfl Tryd.func21 (by kernel_rfl) rfl #[.string (⟨#[116, 121, 112, 101]⟩ : ByteArray)] rfl (by (try simp only [List.map_toArray, List.map_cons, List.map_nil]); first | done | rfl | (simp only [List.length_drop, List.length_take]; rfl)) ?_; (with_reducible refine (shelfmarkref10_Str.calls k (⟨#[116, 121, 112, 101]⟩ : ByteArray) t218 _ A16.out).mono ?_); rintro e w29 ⟨rfl, hb⟩; refine ⟨_, rfl, ?_⟩; have n0_ := Aside0.mk (below_step (by repeat (first | (with_reducible first | exact HB.out | apply below_alloc | apply pw_below_drewN | apply below_drew1) | exact HB.out)) hb); clear HB; have HB := n0_; clear n0_; (try clear hb); (try clear hb2); (try clear hk); (try clear hi)) | ((with_reducible refine gate_callee (f := 21) rfl ?_); refine goesL_ (some 33) rfl rfl Tryd.func21 (by kernel_rfl) rfl #[.string (⟨#[100, 105, 114, 101, 99, 116, 111, 114, 121]⟩ : ByteArray)] rfl (by (try simp only [List.map_toArray, List.map_cons, List.map_nil]); first | done | rfl | (simp only [List.length_drop, List.length_take]; rfl)) ?_; (with_reducible refine (shelfmarkref10_Str.calls k (⟨#[100, 105, 114, 101, 99, 116, 111, 114, 121]⟩ : ByteArray) t219 _ A18.out).mono ?_); rintro e w30 ⟨rfl, hb⟩; refine ⟨_, rfl, ?_⟩; have n0_ := Aside0.mk (below_step (by repeat (first | (with_reducible first | exact HB.out | apply below_alloc | apply pw_below_drewN | apply below_drew1) | exact HB.out)) hb); clear HB; have HB := n0_; clear n0_; (try clear hb); (try clear hb2); (try clear hk); (try clear hi)))
        (try simp only [Act.put, List.setIfInBounds_toArray, List.set_cons_zero, List.set_cons_succ])
        go_cut [8, 9] (fun v8 v9 wc => ∃ (kq : Nat) (x8_19 : ByteArray) (x9_19 : Bool), v8 = .string x8_19 ∧ v9 = .bool x9_19 ∧ Aside0 (shelfmarklaw11_ParseLimits.j3 kq x8_19 x9_19 = some r) ∧ Aside0 (kq ≤ k) ∧ Aside0 (Below w.heap.size w wc))
        case first =>
         have H := HC20.out
         clear HC20
         by_cases c31 : (Int.tmod a1 3) = 0
         ·rw [if_pos c31] at H
          have c31b0 : ((Int.tmod a1 3) == 0) = true := beq_iff_eq.mpr c31
          have c31b1 : ((Int.tmod a1 3) != 0) = false := bne_eq_false_iff_eq.mpr c31
          clear c31
          (first | rw [c31b0] | (simp only [i64_w, i32_w]; rw [c31b0]) | skip)
          have H' := Aside0.mk H
          clear H
          go_wp2
          go_loopg [8, 11] k (fun kq v8 v11 w' => ∃ (x8_1 : ByteArray) (x11_1 : Int), v8 = .string x8_1 ∧ v11 = .int .i64 x11_1 ∧ Aside0 (shelfmarklaw11_ParseLimits.l0 kq (((((t211 ++ t212) ++ t213) ++ t214) ++ t215) ++ t216) ((t217 ++ t218) ++ t219) x8_1 (wrap64 (60 + (Int.tmod (wrap64 (a0)) 8))) x11_1 = some r) ∧ Aside0 (kq ≤ k) ∧ Aside0 (Below w.heap.size w w'))
          case atStart => exact ⟨(t210), (0), (by first | rfl | (simp; done) | (simp [*]; done) | (congr 1; rw [Bool.eq_iff_iff]; simp [bne]; done) | (rw [Bool.eq_iff_iff]; simp [bne]; done)), (by first | rfl | (simp; done) | (simp [*]; done) | (congr 1; rw [Bool.eq_iff_iff]; simp [bne]; done) | (rw [Bool.eq_iff_iff]; simp [bne]; done)), H', ⟨Nat.le_refl _⟩, ⟨by repeat (first | (with_reducible first | exact HB.out | apply below_alloc | apply pw_below_drewN | apply below_drew1) | exact HB.out)⟩⟩
          case round =>
           clear H'
           try clear c1
           try clear c2
           try clear p2
           try clear c3
           try clear c6
           try clear c6b0
           try clear c6b1
           try clear c6b2
           try clear p6
           try clear c7
           try clear c8
           try clear c8b0
           try clear c8b1
           try clear c8b2
           try clear c10
           try clear c10b0
           try clear c10b1
           try clear c10b2
           try clear c12
           try clear c12b0
           try clear c12b1
           try clear c12b2
           try clear c14
           try clear c14b0
           try clear c14b1
           try clear c14b2
           try clear c17
           try clear c17b0
           try clear c17b1
           try clear c17b2
           try clear c19
           try clear c19b0
           try clear c19b1
           try clear c19b2
           try clear c21
           try clear c31
           try clear c31b0
           try clear c31b1
           obtain ⟨x8_1, x11_1, rfl, rfl, HA, HK1, HB⟩ := hrel
           cases gk with
           | zero => exact absurd HA.out (by simp [shelfmarklaw11_ParseLimits.l0])
           | succ k1 =>
            have H := HA.out
            clear HA
            simp only [shelfmarklaw11_ParseLimits.l0] at H
            by_cases c32 : x11_1 < (wrap64 (60 + (Int.tmod (wrap64 (a0)) 8)))
            ·rw [if_pos c32] at H
             have c32b0 : decide (x11_1 < (wrap64 (60 + (Int.tmod (wrap64 (a0)) 8)))) = true := decide_eq_true c32
             clear c32
             by_cases c33 : x8_1.size + ((t217 ++ t218) ++ t219).size ≤ 9223372036854775807
             ·rw [if_pos c33] at H
              have c33b0 := eq_true c33
              have c33b1 : decide (x8_1.size + ((t217 ++ t218) ++ t219).size ≤ 9223372036854775807) = true := decide_eq_true c33
              try have c33b2 : (9223372036854775807 < x8_1.size + ((t217 ++ t218) ++ t219).size) = False := eq_false (Nat.not_lt.2 c33)
              (try (have c33b2_l := c33b2; simp only [ByteArray.size_append] at c33b2_l))
              replace H := Option.bind_eq_some_iff.mp H
              obtain ⟨t220, A340, H⟩ := H
              (try dsimp only at H)
              have A34 := Aside0.mk A340
              clear A340
              by_cases c35 : (x8_1 ++ ((t217 ++ t218) ++ t219)).size + t220.size ≤ 9223372036854775807
              ·rw [if_pos c35] at H
               have c35b0 := eq_true c35
               have c35b1 : decide ((x8_1 ++ ((t217 ++ t218) ++ t219)).size + t220.size ≤ 9223372036854775807) = true := decide_eq_true c35
               try have c35b2 : (9223372036854775807 < (x8_1 ++ ((t217 ++ t218) ++ t219)).size + t220.size) = False := eq_false (Nat.not_lt.2 c35)
               (try (have c35b2_l := c35b2; simp only [ByteArray.size_append] at c35b2_l))
               replace H := Option.bind_eq_some_iff.mp H
               obtain ⟨t221, A360, H⟩ := H
               (try dsimp only at H)
               have A36 := Aside0.mk A360
               clear A360
               by_cases c37 : ((x8_1 ++ ((t217 ++ t218) ++ t219)) ++ t220).size + t221.size ≤ 9223372036854775807
               ·rw [if_pos c37] at H
                have c37b0 := eq_true c37
                have c37b1 : decide (((x8_1 ++ ((t217 ++ t218) ++ t219)) ++ t220).size + t221.size ≤ 9223372036854775807) = true := decide_eq_true c37
                try have c37b2 : (9223372036854775807 < ((x8_1 ++ ((t217 ++ t218) ++ t219)) ++ t220).size + t221.size) = False := eq_false (Nat.not_lt.2 c37)
                (try (have c37b2_l := c37b2; simp only [ByteArray.size_append] at c37b2_l))
                replace H := Option.bind_eq_some_iff.mp H
                obtain ⟨t222, A380, H⟩ := H
                (try dsimp only at H)
                have A38 := Aside0.mk A380
                clear A380
                by_cases c39 : (((x8_1 ++ ((t217 ++ t218) ++ t219)) ++ t220) ++ t221).size + t222.size ≤ 9223372036854775807
                ·rw [if_pos c39] at H
                 have c39b0 := eq_true c39
                 have c39b1 : decide ((((x8_1 ++ ((t217 ++ t218) ++ t219)) ++ t220) ++ t221).size + t222.size ≤ 9223372036854775807) = true := decide_eq_true c39
                 try have c39b2 : (9223372036854775807 < (((x8_1 ++ ((t217 ++ t218) ++ t219)) ++ t220) ++ t221).size + t222.size) = False := eq_false (Nat.not_lt.2 c39)
                 (try (have c39b2_l := c39b2; simp only [ByteArray.size_append] at c39b2_l))
                 replace H := Option.bind_eq_some_iff.mp H
                 obtain ⟨t223, A400, H⟩ := H
                 (try dsimp only at H)
                 have A40 := Aside0.mk A400
                 clear A400
                 by_cases c41 : ((((x8_1 ++ ((t217 ++ t218) ++ t219)) ++ t220) ++ t221) ++ t222).size + t223.size ≤ 9223372036854775807
                 ·rw [if_pos c41] at H
                  have c41b0 := eq_true c41
                  have c41b1 : decide (((((x8_1 ++ ((t217 ++ t218) ++ t219)) ++ t220) ++ t221) ++ t222).size + t223.size ≤ 9223372036854775807) = true := decide_eq_true c41
                  try have c41b2 : (9223372036854775807 < ((((x8_1 ++ ((t217 ++ t218) ++ t219)) ++ t220) ++ t221) ++ t222).size + t223.size) = False := eq_false (Nat.not_lt.2 c41)
                  (try (have c41b2_l := c41b2; simp only [ByteArray.size_append] at c41b2_l))
                  replace H := Option.bind_eq_some_iff.mp H
                  obtain ⟨t224, A420, H⟩ := H
                  (try dsimp only at H)
                  have A42 := Aside0.mk A420
                  clear A420
                  by_cases c43 : (((((x8_1 ++ ((t217 ++ t218) ++ t219)) ++ t220) ++ t221) ++ t222) ++ t223).size + t224.size ≤ 9223372036854775807
                  ·rw [if_pos c43] at H
                   have c43b0 := eq_true c43
                   have c43b1 : decide ((((((x8_1 ++ ((t217 ++ t218) ++ t219)) ++ t220) ++ t221) ++ t222) ++ t223).size + t224.size ≤ 9223372036854775807) = true := decide_eq_true c43
                   try have c43b2 : (9223372036854775807 < (((((x8_1 ++ ((t217 ++ t218) ++ t219)) ++ t220) ++ t221) ++ t222) ++ t223).size + t224.size) = False := eq_false (Nat.not_lt.2 c43)
                   (try (have c43b2_l := c43b2; simp only [ByteArray.size_append] at c43b2_l))
                   have H' := Aside0.mk H
                   clear H
                   go_wp2_with (first | ((with_reducible refine gate_callee (f := 21) rfl ?_); refine goesL_ (some 95) rfl rfl Tryd.func21 (by kernel_rfl) rfl #[.string (⟨#[101, 110, 116, 114, 121]⟩ : ByteArray)] rfl (by (try simp only [List.map_toArray, List.map_cons, List.map_nil]); first | done | rfl | (simp only [List.length_drop, List.length_take]; rfl)) ?_; (with_reducible refine (shelfmarkref10_Str.calls k1 (⟨#[101, 110, 116, 114, 121]⟩ : ByteArray) t220 _ A34.out).mono ?_); rintro e w44 ⟨rfl, hb⟩; refine ⟨_, rfl, ?_⟩; have n0_ := Aside0.mk (below_step (by repeat (first | (with_reducible first | exact HB.out | apply below_alloc | apply pw_below_drewN | apply below_drew1) | exact HB.out)) hb); clear HB; have HB := n0_; clear n0_; (try clear hb); (try clear hb2); (try clear hk); (try clear hi)) | ((with_reducible refine gate_callee (f := 21) rfl ?_); refine goesL_ (some 97) rfl rfl Tryd.func21 (by kernel_rfl) rfl #[.string (⟨#[40]⟩ : ByteArray)] rfl (by (try simp only [List.map_toArray, List.map_cons, List.map_nil]); first | done | rfl | (simp only [List.length_drop, List.length_take]; rfl)) ?_; (with_reducible refine (shelfmarkref10_Str.calls k1 (⟨#[40]⟩ : ByteArray) t221 _ A36.out).mono ?_); rintro e w45 ⟨rfl, hb⟩; refine ⟨_, rfl, ?_⟩; have n0_ := Aside0.mk (below_step (by repeat (first | (with_reducible first | exact HB.out | apply below_alloc | apply pw_below_drewN | apply below_drew1) | exact HB.out)) hb); clear HB; have HB := n0_; clear n0_; (try clear hb); (try clear hb2); (try clear hk); (try clear hi)) | ((with_reducible refine gate_callee (f := 21) rfl ?_); refine goesL_ (some 99) rfl rfl Tryd.func21 (by kernel_rfl) rfl #[.string (⟨#[110, 97, 109, 101]⟩ : ByteArray)] rfl (by (try simp only [List.map_toArray, List.map_cons, List.map_nil]); first | done | rfl | (simp only [List.length_drop, List.length_take]; rfl)) ?_; (with_reducible refine (shelfmarkref10_Str.calls k1 (⟨#[110, 97, 109, 101]⟩ : ByteArray) t222 _ A38.out).mono ?_); rintro e w46 ⟨rfl, hb⟩; refine ⟨_, rfl, ?_⟩; have n0_ := Aside0.mk (below_step (by repeat (first | (with_reducible first | exact HB.out | apply below_alloc | apply pw_below_drewN | apply below_drew1) | exact HB.out)) hb); clear HB; have HB := n0_; clear n0_; (try clear hb); (try clear hb2); (try clear hk); (try clear hi)) | ((with_reducible refine gate_callee (f := 21) rfl ?_); refine goesL_ (some 101) rfl rfl Tryd.func21 (by kernel_rfl) rfl #[.string (⟨#[100]⟩ : ByteArray)] rfl (by (try simp only [List.map_toArray, List.map_cons, List.map_nil]); first | done | rfl | (simp only [List.length_drop, List.length_take]; rfl)) ?_; (with_reducible refine (shelfmarkref10_Str.calls k1 (⟨#[100]⟩ : ByteArray) t223 _ A40.out).mono ?_); rintro e w47 ⟨rfl, hb⟩; refine ⟨_, rfl, ?_⟩; have n0_ := Aside0.mk (below_step (by repeat (first | (with_reducible first | exact HB.out | apply below_alloc | apply pw_below_drewN | apply below_drew1) | exact HB.out)) hb); clear HB; have HB := n0_; clear n0_; (try clear hb); (try clear hb2); (try clear hk); (try clear hi)) | ((with_reducible refine gate_callee (f := 21) rfl ?_); refine goesL_ (some 103) rfl rfl Tryd.func21 (by kernel_rfl) rfl #[.string (⟨#[110, 111, 100, 101]⟩ : ByteArray)] rfl (by (try simp only [List.map_toArray, List.map_cons, List.map_nil]); first | done | rfl | (simp only [List.length_drop, List.length_take]; rfl)) ?_; (with_reducible refine (shelfmarkref10_Str.calls k1 (⟨#[110, 111, 100, 101]⟩ : ByteArray) t224 _ A42.out).mono ?_); rintro e w48 ⟨rfl, hb⟩; refine ⟨_, rfl, ?_⟩; have n0_ := Aside0.mk (below_step (by repeat (first | (with_reducible first | exact HB.out | apply below_alloc | apply pw_below_drewN | apply below_drew1) | exact HB.out)) hb); clear HB; have HB := n0_; clear n0_; (try clear hb); (try clear hb2); (try clear hk); (try clear hi)))
                   go_roundg k1
                   case measure => have := HK1.out; omega
                   case rel => exact ⟨((((((x8_1 ++ ((t217 ++ t218) ++ t219)) ++ t220) ++ t221) ++ t222) ++ t223) ++ t224), (wrap64 (x11_1 + 1)), (by first | rfl | (simp; done) | (simp [*]; done) | (congr 1; rw [Bool.eq_iff_iff]; simp [bne]; done) | (rw [Bool.eq_iff_iff]; simp [bne]; done)), (by first | rfl | (simp; done) | (simp [*]; done) | (congr 1; rw [Bool.eq_iff_iff]; simp [bne]; done) | (rw [Bool.eq_iff_iff]; simp [bne]; done)), H', ⟨by have := HK1.out; omega⟩, ⟨by repeat (first | (with_reducible first | exact HB.out | apply below_alloc | apply pw_below_drewN | apply below_drew1) | exact HB.out)⟩⟩
                  ·rw [if_neg c43] at H
                   exact absurd H (by simp)
                 ·rw [if_neg c41] at H
                  exact absurd H (by simp)
                ·rw [if_neg c39] at H
                 exact absurd H (by simp)
               ·rw [if_neg c37] at H
                exact absurd H (by simp)
              ·rw [if_neg c35] at H
               exact absurd H (by simp)
             ·rw [if_neg c33] at H
              exact absurd H (by simp)
            ·rw [if_neg c32] at H
             have c32b0 : decide (x11_1 < (wrap64 (60 + (Int.tmod (wrap64 (a0)) 8)))) = false := decide_eq_false c32
             clear c32
             by_cases c49 : x8_1.size + (((((t211 ++ t212) ++ t213) ++ t214) ++ t215) ++ t216).size ≤ 9223372036854775807
             ·rw [if_pos c49] at H
              have c49b0 := eq_true c49
              have c49b1 : decide (x8_1.size + (((((t211 ++ t212) ++ t213) ++ t214) ++ t215) ++ t216).size ≤ 9223372036854775807) = true := decide_eq_true c49
              try have c49b2 : (9223372036854775807 < x8_1.size + (((((t211 ++ t212) ++ t213) ++ t214) ++ t215) ++ t216).size) = False := eq_false (Nat.not_lt.2 c49)
              (try (have c49b2_l := c49b2; simp only [ByteArray.size_append] at c49b2_l))
              have H' := Aside0.mk H
              clear H
              go_wp2
              go_loopg [8, 12] k1 (fun kq v8 v12 w' => ∃ (x8_2 : ByteArray) (x12_2 : Int), v8 = .string x8_2 ∧ v12 = .int .i64 x12_2 ∧ Aside0 (shelfmarklaw11_ParseLimits.l1 kq x8_2 (wrap64 (60 + (Int.tmod (wrap64 (a0)) 8))) x12_2 = some r) ∧ Aside0 (kq ≤ k1) ∧ Aside0 (Below w.heap.size w w'))
              case atStart => exact ⟨(x8_1 ++ (((((t211 ++ t212) ++ t213) ++ t214) ++ t215) ++ t216)), (0), (by first | rfl | (simp; done) | (simp [*]; done) | (congr 1; rw [Bool.eq_iff_iff]; simp [bne]; done) | (rw [Bool.eq_iff_iff]; simp [bne]; done)), (by first | rfl | (simp; done) | (simp [*]; done) | (congr 1; rw [Bool.eq_iff_iff]; simp [bne]; done) | (rw [Bool.eq_iff_iff]; simp [bne]; done)), H', ⟨Nat.le_refl _⟩, ⟨by repeat (first | (with_reducible first | exact HB.out | apply below_alloc | apply pw_below_drewN | apply below_drew1) | exact HB.out)⟩⟩
              case round =>
               clear H'
               try clear c1
               try clear c2
               try clear p2
               try clear c3
               try clear c4
               try clear c6
               try clear c6b0
               try clear c6b1
               try clear c6b2
               try clear p6
               try clear c7
               try clear c8
               try clear c8b0
               try clear c8b1
               try clear c8b2
               try clear c10
               try clear c10b0
               try clear c10b1
               try clear c10b2
               try clear c12
               try clear c12b0
               try clear c12b1
               try clear c12b2
               try clear c14
               try clear c14b0
               try clear c14b1
               try clear c14b2
               try clear c17
               try clear c17b0
               try clear c17b1
               try clear c17b2
               try clear c19
               try clear c19b0
               try clear c19b1
               try clear c19b2
               try clear c21
               try clear c31
               try clear c31b0
               try clear c31b1
               try clear c32
               try clear c32b0
               try clear c33
               try clear c33b0
               try clear c33b1
               try clear c33b2
               try clear c35
               try clear c35b0
               try clear c35b1
               try clear c35b2
               try clear c37
               try clear c37b0
               try clear c37b1
               try clear c37b2
               try clear c39
               try clear c39b0
               try clear c39b1
               try clear c39b2
               try clear c41
               try clear c41b0
               try clear c41b1
               try clear c41b2
               try clear c43
               try clear c43b0
               try clear c43b1
               try clear c43b2
               try clear c49
               try clear c49b0
               try clear c49b1
               try clear c49b2
               try clear p2
               try clear p6
               obtain ⟨x8_2, x12_2, rfl, rfl, HA, HK2, HB⟩ := hrel
               cases gk with
               | zero => exact absurd HA.out (by simp [shelfmarklaw11_ParseLimits.l1])
               | succ k2 =>
                have H := HA.out
                clear HA
                simp only [shelfmarklaw11_ParseLimits.l1] at H
                by_cases c50 : x12_2 < (wrap64 (60 + (Int.tmod (wrap64 (a0)) 8)))
                ·rw [if_pos c50] at H
                 have c50b0 : decide (x12_2 < (wrap64 (60 + (Int.tmod (wrap64 (a0)) 8)))) = true := decide_eq_true c50
                 clear c50
                 replace H := Option.bind_eq_some_iff.mp H
                 obtain ⟨t225, A510, H⟩ := H
                 replace H : (if x8_2.size + t225.size ≤ 9223372036854775807 then ((shelfmarkref10_Str.f k2 (⟨#[41]⟩ : ByteArray)).bind fun t226 => (if (x8_2 ++ t225).size + t226.size ≤ 9223372036854775807 then (shelfmarklaw11_ParseLimits.l1 k2 ((x8_2 ++ t225) ++ t226) (wrap64 (60 + (Int.tmod (wrap64 (a0)) 8))) (wrap64 (x12_2 + 1))) else (none))) else (none)) = some r := H
                 have A51 := Aside0.mk A510
                 clear A510
                 by_cases c52 : x8_2.size + t225.size ≤ 9223372036854775807
                 ·rw [if_pos c52] at H
                  have c52b0 := eq_true c52
                  have c52b1 : decide (x8_2.size + t225.size ≤ 9223372036854775807) = true := decide_eq_true c52
                  try have c52b2 : (9223372036854775807 < x8_2.size + t225.size) = False := eq_false (Nat.not_lt.2 c52)
                  replace H := Option.bind_eq_some_iff.mp H
                  obtain ⟨t226, A530, H⟩ := H
                  replace H : (if (x8_2 ++ t225).size + t226.size ≤ 9223372036854775807 then (shelfmarklaw11_ParseLimits.l1 k2 ((x8_2 ++ t225) ++ t226) (wrap64 (60 + (Int.tmod (wrap64 (a0)) 8))) (wrap64 (x12_2 + 1))) else (none)) = some r := H
                  have A53 := Aside0.mk A530
                  clear A530
                  by_cases c54 : (x8_2 ++ t225).size + t226.size ≤ 9223372036854775807
                  ·rw [if_pos c54] at H
                   have c54b0 := eq_true c54
                   have c54b1 : decide ((x8_2 ++ t225).size + t226.size ≤ 9223372036854775807) = true := decide_eq_true c54
                   try have c54b2 : (9223372036854775807 < (x8_2 ++ t225).size + t226.size) = False := eq_false (Nat.not_lt.2 c54)
                   (try (have c54b2_l := c54b2; simp only [ByteArray.size_append] at c54b2_l))
                   have H' := Aside0.mk H
                   clear H
                   go_wp2_with (first | ((with_reducible refine gate_callee (f := 21) rfl ?_); refine goesL_ (some 114) rfl rfl Tryd.func21 (by kernel_rfl) rfl #[.string (⟨#[41]⟩ : ByteArray)] rfl (by (try simp only [List.map_toArray, List.map_cons, List.map_nil]); first | done | rfl | (simp only [List.length_drop, List.length_take]; rfl)) ?_; (with_reducible refine (shelfmarkref10_Str.calls k2 (⟨#[41]⟩ : ByteArray) t225 _ A51.out).mono ?_); rintro e w55 ⟨rfl, hb⟩; refine ⟨_, rfl, ?_⟩; have n0_ := Aside0.mk (below_step (by repeat (first | (with_reducible first | exact HB.out | apply below_alloc | apply pw_below_drewN | apply below_drew1) | exact HB.out)) hb); clear HB; have HB := n0_; clear n0_; (try clear hb); (try clear hb2); (try clear hk); (try clear hi)) | ((with_reducible refine gate_callee (f := 21) rfl ?_); refine goesL_ (some 116) rfl rfl Tryd.func21 (by kernel_rfl) rfl #[.string (⟨#[41]⟩ : ByteArray)] rfl (by (try simp only [List.map_toArray, List.map_cons, List.map_nil]); first | done | rfl | (simp only [List.length_drop, List.length_take]; rfl)) ?_; (with_reducible refine (shelfmarkref10_Str.calls k2 (⟨#[41]⟩ : ByteArray) t226 _ A53.out).mono ?_); rintro e w56 ⟨rfl, hb⟩; refine ⟨_, rfl, ?_⟩; have n0_ := Aside0.mk (below_step (by repeat (first | (with_reducible first | exact HB.out | apply below_alloc | apply pw_below_drewN | apply below_drew1) | exact HB.out)) hb); clear HB; have HB := n0_; clear n0_; (try clear hb); (try clear hb2); (try clear hk); (try clear hi)))
                   go_roundg k2
                   case measure => have := HK1.out; have := HK2.out; omega
                   case rel => exact ⟨((x8_2 ++ t225) ++ t226), (wrap64 (x12_2 + 1)), (by first | rfl | (simp; done) | (simp [*]; done) | (congr 1; rw [Bool.eq_iff_iff]; simp [bne]; done) | (rw [Bool.eq_iff_iff]; simp [bne]; done)), (by first | rfl | (simp; done) | (simp [*]; done) | (congr 1; rw [Bool.eq_iff_iff]; simp [bne]; done) | (rw [Bool.eq_iff_iff]; simp [bne]; done)), H', ⟨by have := HK1.out; have := HK2.out; omega⟩, ⟨by repeat (first | (with_reducible first | exact HB.out | apply below_alloc | apply pw_below_drewN | apply below_drew1) | exact HB.out)⟩⟩
                  ·rw [if_neg c54] at H
                   exact absurd H (by simp)
                 ·rw [if_neg c52] at H
                  exact absurd H (by simp)
                ·rw [if_neg c50] at H
                 have c50b0 : decide (x12_2 < (wrap64 (60 + (Int.tmod (wrap64 (a0)) 8)))) = false := decide_eq_false c50
                 clear c50
                 have H' := Aside0.mk H
                 clear H
                 go_wp2
                 go_meet
                 case rel => exact ⟨_, (x8_2), (decide ((wrap64 (60 + (Int.tmod (wrap64 (a0)) 8))) ≤ 64)), (by first | rfl | (simp; done) | (simp [*]; done) | (congr 1; rw [Bool.eq_iff_iff]; simp [bne]; done) | (rw [Bool.eq_iff_iff]; simp [bne]; done)), (by first | rfl | (simp; done) | (simp [*]; done) | (congr 1; rw [Bool.eq_iff_iff]; simp [bne]; done) | (rw [Bool.eq_iff_iff]; simp [bne]; done)), H', ⟨by have := HK1.out; have := HK2.out; first | omega | exact Nat.le_refl _⟩, ⟨by repeat (first | (with_reducible first | exact HB.out | apply below_alloc | apply pw_below_drewN | apply below_drew1) | exact HB.out)⟩⟩
             ·rw [if_neg c49] at H
              exact absurd H (by simp)
         ·rw [if_neg c31] at H
          have c31b0 : ((Int.tmod a1 3) == 0) = false := beq_eq_false_iff_ne.mpr c31
          have c31b1 : ((Int.tmod a1 3) != 0) = true := bne_iff_ne.mpr c31
          (first | rw [c31b0] | (simp only [i64_w, i32_w]; rw [c31b0]) | skip)
          by_cases c57 : (Int.tmod a1 3) = 1
          ·rw [if_pos c57] at H
           have c57b0 : ((Int.tmod a1 3) == 1) = true := beq_iff_eq.mpr c57
           have c57b1 : ((Int.tmod a1 3) != 1) = false := bne_eq_false_iff_eq.mpr c57
           clear c57
           replace H := Option.bind_eq_some_iff.mp H
           obtain ⟨t227, A580, H⟩ := H
           (try dsimp only at H)
           have A58 := Aside0.mk A580
           clear A580
           by_cases c59 : t210.size + t227.size ≤ 9223372036854775807
           ·rw [if_pos c59] at H
            have c59b0 := eq_true c59
            have c59b1 : decide (t210.size + t227.size ≤ 9223372036854775807) = true := decide_eq_true c59
            try have c59b2 : (9223372036854775807 < t210.size + t227.size) = False := eq_false (Nat.not_lt.2 c59)
            replace H := Option.bind_eq_some_iff.mp H
            obtain ⟨t228, A600, H⟩ := H
            (try dsimp only at H)
            have A60 := Aside0.mk A600
            clear A600
            by_cases c61 : (t210 ++ t227).size + t228.size ≤ 9223372036854775807
            ·rw [if_pos c61] at H
             have c61b0 := eq_true c61
             have c61b1 : decide ((t210 ++ t227).size + t228.size ≤ 9223372036854775807) = true := decide_eq_true c61
             try have c61b2 : (9223372036854775807 < (t210 ++ t227).size + t228.size) = False := eq_false (Nat.not_lt.2 c61)
             (try (have c61b2_l := c61b2; simp only [ByteArray.size_append] at c61b2_l))
             replace H := Option.bind_eq_some_iff.mp H
             obtain ⟨t229, A620, H⟩ := H
             (try dsimp only at H)
             have A62 := Aside0.mk A620
             clear A620
             by_cases c63 : ((t210 ++ t227) ++ t228).size + t229.size ≤ 9223372036854775807
             ·rw [if_pos c63] at H
              have c63b0 := eq_true c63
              have c63b1 : decide (((t210 ++ t227) ++ t228).size + t229.size ≤ 9223372036854775807) = true := decide_eq_true c63
              try have c63b2 : (9223372036854775807 < ((t210 ++ t227) ++ t228).size + t229.size) = False := eq_false (Nat.not_lt.2 c63)
              (try (have c63b2_l := c63b2; simp only [ByteArray.size_append] at c63b2_l))
              replace H := Option.bind_eq_some_iff.mp H
              obtain ⟨t230, A640, H⟩ := H
              (try dsimp only at H)
              have A64 := Aside0.mk A640
              clear A640
              by_cases c65 : (((t210 ++ t227) ++ t228) ++ t229).size + t230.size ≤ 9223372036854775807
              ·rw [if_pos c65] at H
               have c65b0 := eq_true c65
               have c65b1 : decide ((((t210 ++ t227) ++ t228) ++ t229).size + t230.size ≤ 9223372036854775807) = true := decide_eq_true c65
               try have c65b2 : (9223372036854775807 < (((t210 ++ t227) ++ t228) ++ t229).size + t230.size) = False := eq_false (Nat.not_lt.2 c65)
               (try (have c65b2_l := c65b2; simp only [ByteArray.size_append] at c65b2_l))
               obtain ⟨ji66, hji66⟩ : ∃ j_ : Int, (wrap64 (65533 + (Int.tmod (wrap64 (a0)) 7))) = j_ := ⟨_, rfl⟩
               replace H : (if 0 ≤ (ji66) then (if (ji66 : Int).toNat ≤ 281474976710656 then ((shelfmarkref10_Str.f k (strOfNums (List.replicate (ji66 : Int).toNat 0))).bind fun t234 => (if ((((t210 ++ t227) ++ t228) ++ t229) ++ t230).size + t234.size ≤ 9223372036854775807 then ((shelfmarkref10_Str.f k (⟨#[41]⟩ : ByteArray)).bind fun t235 => (if (((((t210 ++ t227) ++ t228) ++ t229) ++ t230) ++ t234).size + t235.size ≤ 9223372036854775807 then (shelfmarklaw11_ParseLimits.j3 k ((((((t210 ++ t227) ++ t228) ++ t229) ++ t230) ++ t234) ++ t235) (decide ((ji66) ≤ 65536))) else (none))) else (none))) else (none)) else (none)) = some r := by first | (rw [hji66] at H; exact H) | (simp only [hji66] at H ⊢; exact H)
               (try rw [hji66] at A58)
               (try rw [hji66] at A60)
               (try rw [hji66] at A62)
               (try rw [hji66] at A64)
               have hji66w : (IntKind.i64.wrap (65533 + (Int.tmod (wrap64 (a0)) 7))) = ji66 := (i64_w _).trans hji66
               by_cases c67 : 0 ≤ (ji66)
               ·rw [if_pos c67] at H
                have c67b0 := eq_true c67
                have c67b1 : decide (0 ≤ (ji66)) = true := decide_eq_true c67
                clear c67
                by_cases c68 : (ji66 : Int).toNat ≤ 281474976710656
                ·rw [if_pos c68] at H
                 have c68b0 := eq_true c68
                 have c68b1 : decide ((ji66 : Int).toNat ≤ 281474976710656) = true := decide_eq_true c68
                 clear c68
                 obtain ⟨y231, hy231⟩ : ∃ y_ : List Int, y_ = (List.replicate (ji66 : Int).toNat 0) := ⟨_, rfl⟩
                 replace H : ((shelfmarkref10_Str.f k (strOfNums y231)).bind fun t234 => (if ((((t210 ++ t227) ++ t228) ++ t229) ++ t230).size + t234.size ≤ 9223372036854775807 then ((shelfmarkref10_Str.f k (⟨#[41]⟩ : ByteArray)).bind fun t235 => (if (((((t210 ++ t227) ++ t228) ++ t229) ++ t230) ++ t234).size + t235.size ≤ 9223372036854775807 then (shelfmarklaw11_ParseLimits.j3 k ((((((t210 ++ t227) ++ t228) ++ t229) ++ t230) ++ t234) ++ t235) (decide ((ji66) ≤ 65536))) else (none))) else (none))) = some r := by first | (rw [hy231]; with_reducible exact H) | (have H2_ := (Option.bind_some _ _).symm.trans H; rw [hy231]; with_reducible exact H2_) | (have H2_ := (Option.bind_some _ _).symm.trans H; with_reducible exact H2_) | with_reducible exact H | (rw [hy231]; exact H) | exact H
                 have Ny231 := Aside0.mk hy231
                 clear hy231
                 replace H := Option.bind_eq_some_iff.mp H
                 obtain ⟨t234, A690, H⟩ := H
                 (try dsimp only at H)
                 have A69 := Aside0.mk A690
                 clear A690
                 by_cases c70 : ((((t210 ++ t227) ++ t228) ++ t229) ++ t230).size + t234.size ≤ 9223372036854775807
                 ·rw [if_pos c70] at H
                  have c70b0 := eq_true c70
                  have c70b1 : decide (((((t210 ++ t227) ++ t228) ++ t229) ++ t230).size + t234.size ≤ 9223372036854775807) = true := decide_eq_true c70
                  try have c70b2 : (9223372036854775807 < ((((t210 ++ t227) ++ t228) ++ t229) ++ t230).size + t234.size) = False := eq_false (Nat.not_lt.2 c70)
                  (try (have c70b2_l := c70b2; simp only [ByteArray.size_append] at c70b2_l))
                  replace H := Option.bind_eq_some_iff.mp H
                  obtain ⟨t235, A710, H⟩ := H
                  replace H : (if (((((t210 ++ t227) ++ t228) ++ t229) ++ t230) ++ t234).size + t235.size ≤ 9223372036854775807 then (shelfmarklaw11_ParseLimits.j3 k ((((((t210 ++ t227) ++ t228) ++ t229) ++ t230) ++ t234) ++ t235) (decide ((ji66) ≤ 65536))) else (none)) = some r := H
                  have A71 := Aside0.mk A710
                  clear A710
                  by_cases c72 : (((((t210 ++ t227) ++ t228) ++ t229) ++ t230) ++ t234).size + t235.size ≤ 9223372036854775807
                  ·rw [if_pos c72] at H
                   have c72b0 := eq_true c72
                   have c72b1 : decide ((((((t210 ++ t227) ++ t228) ++ t229) ++ t230) ++ t234).size + t235.size ≤ 9223372036854775807) = true := decide_eq_true c72
                   try have c72b2 : (9223372036854775807 < (((((t210 ++ t227) ++ t228) ++ t229) ++ t230) ++ t234).size + t235.size) = False := eq_false (Nat.not_lt.2 c72)
                   (try (have c72b2_l := c72b2; simp only [ByteArray.size_append] at c72b2_l))
                   have H' := Aside0.mk H
                   clear H
                   try go_wp2
                   have n0_ := Aside0.mk (below_drew1 HB.out)
                   clear HB
                   have HB := n0_
                   clear n0_
                   refine start_ (n := 17) (S := fun w' => True) (ds := []) #[false, false, false, false, false, false, false, false, false, false, false, false, false, false, false, false, false] (by kernel_rfl) rfl rfl trivial (fun hHeld => ?_); refine with_tabW shelfmarklaw11_ParseLimits.tab28 shelfmarklaw11_ParseLimits.bits28 (fun HT_ HW_ => ?_)
                   generalize w30.drew = w73 at HB hHeld ⊢
                   refine pure_ (i := 0) (N := some 126) (v := ?_) (a' := ?_) #[true, false, false, false, false, false, false, false, false, false, false, false, false, false, false, false, false] rfl rfl (any_of HT_.out (by kernel_rfl)) (fun _ _ _ h => h) (Or.inl ⟨by rfl, ?_⟩) ?_ ?_
                   rotate_left
                   ·intro w'
                    go_simp
                    with_reducible rfl
                   rotate_left
                   ·simp only [Act.put, List.setIfInBounds_toArray, List.set_cons_zero, List.set_cons_succ, i64_w, i32_w]
                    rfl
                   refine pure_ (i := 9) (N := some 135) (v := ?_) (a' := ?_) #[true, false, false, false, false, false, false, false, false, true, false, false, false, false, false, false, false] rfl rfl (any_of HT_.out (by kernel_rfl)) (fun _ _ _ h => h) (Or.inl ⟨by rfl, ?_⟩) ?_ ?_
                   rotate_left
                   ·intro w'
                    go_simp
                    with_reducible rfl
                   rotate_left
                   ·simp only [Act.put, List.setIfInBounds_toArray, List.set_cons_zero, List.set_cons_succ, i64_w, i32_w]
                    rfl
                   refine join_ (σ := Value) 5 #[true, true, true, true, true, true, true, true, true, true, true, true, false, false, false, false, false] (fun s_ => [(127, .string t227), (129, .string t228), (131, .string t229), (133, .string t230), (136, s_), (137, .string (strOfNums y231)), (128, .string (t210 ++ t227)), (130, .string ((t210 ++ t227) ++ t228)), (132, .string (((t210 ++ t227) ++ t228) ++ t229)), (134, .string ((((t210 ++ t227) ++ t228) ++ t229) ++ t230))]) (fun s_ w' => (Kd.R (Kd.int .u8) 5 w' w.heap.size (fun _ => True) s_ y231) ∧ (Below w.heap.size w w')) ?_ ?_
                   rotate_left
                   ·intro hJ1_3_5_7_10_11
                    refine join_ (σ := Value) 6 #[true, true, true, true, true, true, true, true, true, true, true, false, false, false, false, false, false] (fun s_ => [(127, .string t227), (129, .string t228), (131, .string t229), (133, .string t230), (136, s_), (128, .string (t210 ++ t227)), (130, .string ((t210 ++ t227) ++ t228)), (132, .string (((t210 ++ t227) ++ t228) ++ t229)), (134, .string ((((t210 ++ t227) ++ t228) ++ t229) ++ t230))]) (fun s_ w' => (Kd.R (Kd.int .u8) 5 w' w.heap.size (fun _ => True) s_ y231) ∧ (Below w.heap.size w w')) ?_ ?_
                    rotate_left
                    ·intro hJ1_3_5_7_10
                     refine join_ (σ := Value) 7 #[true, true, true, true, true, true, true, false, false, true, true, true, false, false, false, false, false] (fun s_ => [(127, .string t227), (129, .string t228), (131, .string t229), (136, s_), (137, .string (strOfNums y231)), (128, .string (t210 ++ t227)), (130, .string ((t210 ++ t227) ++ t228)), (132, .string (((t210 ++ t227) ++ t228) ++ t229))]) (fun s_ w' => (Kd.R (Kd.int .u8) 5 w' w.heap.size (fun _ => True) s_ y231) ∧ (Below w.heap.size w w')) ?_ ?_
                     rotate_left
                     ·intro hJ1_3_5_10_11
                      refine join_ (σ := Unit) 7 #[true, true, true, true, true, true, true, true, true, true, false, false, false, false, false, false, false] (fun s_ => [(127, .string t227), (129, .string t228), (131, .string t229), (133, .string t230), (128, .string (t210 ++ t227)), (130, .string ((t210 ++ t227) ++ t228)), (132, .string (((t210 ++ t227) ++ t228) ++ t229)), (134, .string ((((t210 ++ t227) ++ t228) ++ t229) ++ t230))]) (fun s_ w' => (Below w.heap.size w w')) ?_ ?_
                      rotate_left
                      ·intro hJ1_3_5_7
                       refine join_ (σ := Value) 8 #[true, true, true, true, true, true, true, false, false, true, true, false, false, false, false, false, false] (fun s_ => [(127, .string t227), (129, .string t228), (131, .string t229), (136, s_), (128, .string (t210 ++ t227)), (130, .string ((t210 ++ t227) ++ t228)), (132, .string (((t210 ++ t227) ++ t228) ++ t229))]) (fun s_ w' => (Kd.R (Kd.int .u8) 5 w' w.heap.size (fun _ => True) s_ y231) ∧ (Below w.heap.size w w')) ?_ ?_
                       rotate_left
                       ·intro hJ1_3_5_10
                        refine join_ (σ := Value) 9 #[true, true, true, true, true, false, false, false, false, true, true, true, false, false, false, false, false] (fun s_ => [(127, .string t227), (129, .string t228), (136, s_), (137, .string (strOfNums y231)), (128, .string (t210 ++ t227)), (130, .string ((t210 ++ t227) ++ t228))]) (fun s_ w' => (Kd.R (Kd.int .u8) 5 w' w.heap.size (fun _ => True) s_ y231) ∧ (Below w.heap.size w w')) ?_ ?_
                        rotate_left
                        ·intro hJ1_3_10_11
                         refine join_ (σ := Unit) 9 #[true, true, true, true, true, true, true, false, false, true, false, false, false, false, false, false, false] (fun s_ => [(127, .string t227), (129, .string t228), (131, .string t229), (128, .string (t210 ++ t227)), (130, .string ((t210 ++ t227) ++ t228)), (132, .string (((t210 ++ t227) ++ t228) ++ t229))]) (fun s_ w' => (Below w.heap.size w w')) ?_ ?_
                         rotate_left
                         ·intro hJ1_3_5
                          refine join_ (σ := Value) 10 #[true, true, true, true, true, false, false, false, false, true, true, false, false, false, false, false, false] (fun s_ => [(127, .string t227), (129, .string t228), (136, s_), (128, .string (t210 ++ t227)), (130, .string ((t210 ++ t227) ++ t228))]) (fun s_ w' => (Kd.R (Kd.int .u8) 5 w' w.heap.size (fun _ => True) s_ y231) ∧ (Below w.heap.size w w')) ?_ ?_
                          rotate_left
                          ·intro hJ1_3_10
                           refine join_ (σ := Value) 11 #[true, true, true, false, false, false, false, false, false, true, true, true, false, false, false, false, false] (fun s_ => [(127, .string t227), (136, s_), (137, .string (strOfNums y231)), (128, .string (t210 ++ t227))]) (fun s_ w' => (Kd.R (Kd.int .u8) 5 w' w.heap.size (fun _ => True) s_ y231) ∧ (Below w.heap.size w w')) ?_ ?_
                           rotate_left
                           ·intro hJ1_10_11
                            refine join_ (σ := Unit) 11 #[true, true, true, true, true, false, false, false, false, true, false, false, false, false, false, false, false] (fun s_ => [(127, .string t227), (129, .string t228), (128, .string (t210 ++ t227)), (130, .string ((t210 ++ t227) ++ t228))]) (fun s_ w' => (Below w.heap.size w w')) ?_ ?_
                            rotate_left
                            ·intro hJ1_3
                             refine join_ (σ := Value) 12 #[true, true, true, false, false, false, false, false, false, true, true, false, false, false, false, false, false] (fun s_ => [(127, .string t227), (136, s_), (128, .string (t210 ++ t227))]) (fun s_ w' => (Kd.R (Kd.int .u8) 5 w' w.heap.size (fun _ => True) s_ y231) ∧ (Below w.heap.size w w')) ?_ ?_
                             rotate_left
                             ·intro hJ1_10
                              refine join_ (σ := Value) 13 #[true, false, false, false, false, false, false, false, false, true, true, true, false, false, false, false, false] (fun s_ => [(136, s_), (137, .string (strOfNums y231))]) (fun s_ w' => (Kd.R (Kd.int .u8) 5 w' w.heap.size (fun _ => True) s_ y231) ∧ (Below w.heap.size w w')) ?_ ?_
                              rotate_left
                              ·intro hJ10_11
                               refine join_ (σ := Unit) 13 #[true, true, true, false, false, false, false, false, false, true, false, false, false, false, false, false, false] (fun s_ => [(127, .string t227), (128, .string (t210 ++ t227))]) (fun s_ w' => (Below w.heap.size w w')) ?_ ?_
                               rotate_left
                               ·intro hJ1
                                refine join_ (σ := Value) 14 #[true, false, false, false, false, false, false, false, false, true, true, false, false, false, false, false, false] (fun s_ => [(136, s_)]) (fun s_ w' => (Kd.R (Kd.int .u8) 5 w' w.heap.size (fun _ => True) s_ y231) ∧ (Below w.heap.size w w')) ?_ ?_
                                rotate_left
                                ·intro hJ10
                                 refine two_ (i := 1) (j := 10) (Ni := some 127) (Nj := some 136) #[true, true, false, false, false, false, false, false, false, true, false, false, false, false, false, false, false] #[true, false, false, false, false, false, false, false, false, true, true, false, false, false, false, false, false] rfl rfl rfl rfl (two_of HT_.out (by kernel_rfl)) (by decide) (by decide) (fun K hK => ?_) (fun K hK => ?_)
                                 ·skip
                                  refine goes_ Tryd.func21 (by kernel_rfl) rfl #[.string (⟨#[40]⟩ : ByteArray)] (by rfl) rfl rfl (by (try simp only [List.map_toArray, List.map_cons, List.map_nil]); first | done | rfl | (simp only [List.length_drop, List.length_take]; rfl)) ?_
                                  with_reducible refine (shelfmarkref10_Str.calls k (⟨#[40]⟩ : ByteArray) t227 _ A58.out).mono ?_
                                  rintro e w74 ⟨rfl, hb⟩
                                  refine ⟨_, rfl, ?_⟩
                                  have n0_ := Aside0.mk (below_step (by repeat (first | (with_reducible first | exact HB.out | apply below_alloc | apply pw_below_drewN | apply below_drew1) | exact HB.out)) hb)
                                  clear HB
                                  have HB := n0_
                                  clear n0_
                                  (try clear hb)
                                  (try clear hb2)
                                  (try clear hk)
                                  (try clear hi)
                                  refine hK.out _ _ trivial (fun hHeld => ?_)
                                  clear hK K
                                  refine norm_ (a' := ?_) ?_ ?_
                                  rotate_left
                                  ·show Act.put _ (some 127) _ = _
                                   simp only [Act.put, List.setIfInBounds_toArray, List.set_cons_zero, List.set_cons_succ, i64_w, i32_w]
                                   rfl
                                  refine pure_ (i := 2) (N := some 128) (v := ?_) (a' := ?_) #[true, true, true, false, false, false, false, false, false, true, false, false, false, false, false, false, false] rfl rfl (any_of HT_.out (by kernel_rfl)) (fun _ _ _ h => h) (Or.inl ⟨by rfl, ?_⟩) ?_ ?_
                                  rotate_left
                                  ·intro w'
                                   go_simp
                                   with_reducible rfl
                                  rotate_left
                                  ·simp only [Act.put, List.setIfInBounds_toArray, List.set_cons_zero, List.set_cons_succ, i64_w, i32_w]
                                   rfl
                                  exact norm_ (by first | (simp only [putAll, Act.put, List.setIfInBounds_toArray, List.set_cons_zero, List.set_cons_succ]; done) | (simp only [putAll, Act.put, List.setIfInBounds_toArray, List.set_cons_zero, List.set_cons_succ]; rfl)) (hJ1 () _ (by repeat (first | (with_reducible first | exact HB.out | apply below_alloc | apply pw_below_drewN | apply below_drew1) | exact HB.out)))
                                 ·skip
                                  refine Kd.R_make_step (Kd.int .u8) _ 5 (by rfl) (N := 136) rfl 33 _ _ rfl ji66 rfl rfl Tryd.underlying33 (.int .u8 0) 1 info5 rfl (by decide) (by omega) 0 (ok := fun _ => True) (okp := fun _ => True) rfl (fun _ hk => hk) trivial (of_decide_eq_true (by first | (with_reducible assumption) | assumption)) (Nat.le_trans (Nat.mul_le_mul_right _ (of_decide_eq_true (by first | (with_reducible assumption) | assumption) : ji66.toNat ≤ 281474976710656)) (by omega)) (Below.refl _ _) (Nat.le_refl _) ?_
                                  intro v232 w74 ho75 hb hg_ hnew_
                                  clear hg_ hnew_
                                  (first | rw [← Ny231.out] at ho75 | (simp only [Int.reduceToNat] at ho75; rw [← Ny231.out] at ho75))
                                  have n0_ := Aside0.mk (Kd.R_lower ho75 (below_size (by repeat (first | (with_reducible first | exact HB.out | apply below_alloc | apply pw_below_drewN | apply below_drew1) | exact HB.out))))
                                  have n1_ := Aside0.mk (below_step (by repeat (first | (with_reducible first | exact HB.out | apply below_alloc | apply pw_below_drewN | apply below_drew1) | exact HB.out)) hb)
                                  clear HB
                                  have HO233 := n0_
                                  have HB := n1_
                                  clear n0_ n1_
                                  clear hb ho75
                                  refine hK.out _ _ trivial (fun hHeld => ?_)
                                  clear hK K
                                  refine norm_ (a' := ?_) ?_ ?_
                                  rotate_left
                                  ·show Act.put _ (some 136) _ = _
                                   simp only [Act.put, List.setIfInBounds_toArray, List.set_cons_zero, List.set_cons_succ, i64_w, i32_w]
                                   rfl
                                  exact norm_ (by first | (simp only [putAll, Act.put, List.setIfInBounds_toArray, List.set_cons_zero, List.set_cons_succ]; done) | (simp only [putAll, Act.put, List.setIfInBounds_toArray, List.set_cons_zero, List.set_cons_succ]; rfl)) (hJ10 (v232) _ ⟨(by (with_reducible repeat (first | apply Kd.R_alloc | apply Kd.R_drewN | apply Kd.R_drew)); exact HO233.out), (by repeat (first | (with_reducible first | exact HB.out | apply below_alloc | apply pw_below_drewN | apply below_drew1) | exact HB.out))⟩)
                                ·skip
                                 rintro v232 w76 ⟨h0_, h1_⟩
                                 have n0_ : Aside0 (Kd.R (Kd.int .u8) 5 w76 w.heap.size (fun _ => True) v232 y231) := ⟨h0_⟩
                                 have n1_ : Aside0 (Below w.heap.size w w76) := ⟨h1_⟩
                                 clear HB
                                 clear h0_ h1_
                                 have HO233 := n0_
                                 have HB := n1_
                                 clear n0_ n1_
                                 have hHeld := trivial
                                 refine norm_ (a' := ?_) ?_ ?_
                                 rotate_left
                                 ·simp only [putAll, Act.put, List.setIfInBounds_toArray, List.set_cons_zero, List.set_cons_succ]
                                  rfl
                                 refine two_ (i := 1) (j := 11) (Ni := some 127) (Nj := some 137) #[true, true, false, false, false, false, false, false, false, true, true, false, false, false, false, false, false] #[true, false, false, false, false, false, false, false, false, true, true, true, false, false, false, false, false] rfl rfl rfl rfl (two_of HT_.out (by kernel_rfl)) (by decide) (by decide) (fun K hK => ?_) (fun K hK => ?_)
                                 ·skip
                                  refine goes_ Tryd.func21 (by kernel_rfl) rfl #[.string (⟨#[40]⟩ : ByteArray)] (by rfl) rfl rfl (by (try simp only [List.map_toArray, List.map_cons, List.map_nil]); first | done | rfl | (simp only [List.length_drop, List.length_take]; rfl)) ?_
                                  with_reducible refine (shelfmarkref10_Str.calls k (⟨#[40]⟩ : ByteArray) t227 _ A58.out).mono ?_
                                  rintro e w77 ⟨rfl, hb⟩
                                  refine ⟨_, rfl, ?_⟩
                                  have n0_ := Aside0.mk (Kd.R_below (by (with_reducible repeat (first | apply Kd.R_alloc | apply Kd.R_drewN | apply Kd.R_drew)); exact HO233.out) hb)
                                  have n1_ := Aside0.mk (below_step (by repeat (first | (with_reducible first | exact HB.out | apply below_alloc | apply pw_below_drewN | apply below_drew1) | exact HB.out)) hb)
                                  clear HO233
                                  clear HB
                                  have HO233 := n0_
                                  have HB := n1_
                                  clear n0_ n1_
                                  (try clear hb)
                                  (try clear hb2)
                                  (try clear hk)
                                  (try clear hi)
                                  refine hK.out _ _ trivial (fun hHeld => ?_)
                                  clear hK K
                                  refine norm_ (a' := ?_) ?_ ?_
                                  rotate_left
                                  ·show Act.put _ (some 127) _ = _
                                   simp only [Act.put, List.setIfInBounds_toArray, List.set_cons_zero, List.set_cons_succ, i64_w, i32_w]
                                   rfl
                                  refine pure_ (i := 2) (N := some 128) (v := ?_) (a' := ?_) #[true, true, true, false, false, false, false, false, false, true, true, false, false, false, false, false, false] rfl rfl (any_of HT_.out (by kernel_rfl)) (fun _ _ _ h => h) (Or.inl ⟨by rfl, ?_⟩) ?_ ?_
                                  rotate_left
                                  ·intro w'
                                   go_simp
                                   with_reducible rfl
                                  rotate_left
                                  ·simp only [Act.put, List.setIfInBounds_toArray, List.set_cons_zero, List.set_cons_succ, i64_w, i32_w]
                                   rfl
                                  exact norm_ (by first | (simp only [putAll, Act.put, List.setIfInBounds_toArray, List.set_cons_zero, List.set_cons_succ]; done) | (simp only [putAll, Act.put, List.setIfInBounds_toArray, List.set_cons_zero, List.set_cons_succ]; rfl)) (hJ1_10 (v232) _ ⟨(by (with_reducible repeat (first | apply Kd.R_alloc | apply Kd.R_drewN | apply Kd.R_drew)); exact HO233.out), (by repeat (first | (with_reducible first | exact HB.out | apply below_alloc | apply pw_below_drewN | apply below_drew1) | exact HB.out))⟩)
                                 ·skip
                                  have hcv77 := own_string (P := Tryd.prog) Tryd.underlying33 Tryd.underlying5 Tryd.underlying9 (Kd.own_of_R HO233.out)
                                  refine value_ (w1 := ?_) (v := ?_) (by rfl) rfl ?_ ?_
                                  rotate_left 2
                                  ·go_simp
                                   constructor
                                   ·rfl
                                   ·rfl
                                  clear hcv77
                                  refine hK.out _ _ trivial (fun hHeld => ?_)
                                  clear hK K
                                  refine norm_ (a' := ?_) ?_ ?_
                                  rotate_left
                                  ·show Act.put _ (some 137) _ = _
                                   simp only [Act.put, List.setIfInBounds_toArray, List.set_cons_zero, List.set_cons_succ, i64_w, i32_w]
                                   rfl
                                  exact norm_ (by first | (simp only [putAll, Act.put, List.setIfInBounds_toArray, List.set_cons_zero, List.set_cons_succ]; done) | (simp only [putAll, Act.put, List.setIfInBounds_toArray, List.set_cons_zero, List.set_cons_succ]; rfl)) (hJ10_11 (v232) _ ⟨(by (with_reducible repeat (first | apply Kd.R_alloc | apply Kd.R_drewN | apply Kd.R_drew)); exact HO233.out), (by repeat (first | (with_reducible first | exact HB.out | apply below_alloc | apply pw_below_drewN | apply below_drew1) | exact HB.out))⟩)
                               ·skip
                                rintro _ w75 h0_
                                have n0_ : Aside0 (Below w.heap.size w w75) := ⟨h0_⟩
                                clear HB
                                clear h0_
                                have HB := n0_
                                clear n0_
                                have hHeld := trivial
                                refine norm_ (a' := ?_) ?_ ?_
                                rotate_left
                                ·simp only [putAll, Act.put, List.setIfInBounds_toArray, List.set_cons_zero, List.set_cons_succ]
                                 rfl
                                refine two_ (i := 3) (j := 10) (Ni := some 129) (Nj := some 136) #[true, true, true, true, false, false, false, false, false, true, false, false, false, false, false, false, false] #[true, true, true, false, false, false, false, false, false, true, true, false, false, false, false, false, false] rfl rfl rfl rfl (two_of HT_.out (by kernel_rfl)) (by decide) (by decide) (fun K hK => ?_) (fun K hK => ?_)
                                ·skip
                                 refine goes_ Tryd.func21 (by kernel_rfl) rfl #[.string (⟨#[116, 121, 112, 101]⟩ : ByteArray)] (by rfl) rfl rfl (by (try simp only [List.map_toArray, List.map_cons, List.map_nil]); first | done | rfl | (simp only [List.length_drop, List.length_take]; rfl)) ?_
                                 with_reducible refine (shelfmarkref10_Str.calls k (⟨#[116, 121, 112, 101]⟩ : ByteArray) t228 _ A60.out).mono ?_
                                 rintro e w76 ⟨rfl, hb⟩
                                 refine ⟨_, rfl, ?_⟩
                                 have n0_ := Aside0.mk (below_step (by repeat (first | (with_reducible first | exact HB.out | apply below_alloc | apply pw_below_drewN | apply below_drew1) | exact HB.out)) hb)
                                 clear HB
                                 have HB := n0_
                                 clear n0_
                                 (try clear hb)
                                 (try clear hb2)
                                 (try clear hk)
                                 (try clear hi)
                                 refine hK.out _ _ trivial (fun hHeld => ?_)
                                 clear hK K
                                 refine norm_ (a' := ?_) ?_ ?_
                                 rotate_left
                                 ·show Act.put _ (some 129) _ = _
                                  simp only [Act.put, List.setIfInBounds_toArray, List.set_cons_zero, List.set_cons_succ, i64_w, i32_w]
                                  rfl
                                 refine pure_ (i := 4) (N := some 130) (v := ?_) (a' := ?_) #[true, true, true, true, true, false, false, false, false, true, false, false, false, false, false, false, false] rfl rfl (any_of HT_.out (by kernel_rfl)) (fun _ _ _ h => h) (Or.inl ⟨by rfl, ?_⟩) ?_ ?_
                                 rotate_left
                                 ·intro w'
                                  go_simp
                                  with_reducible rfl
                                 rotate_left
                                 ·simp only [Act.put, List.setIfInBounds_toArray, List.set_cons_zero, List.set_cons_succ, i64_w, i32_w]
                                  rfl
                                 exact norm_ (by first | (simp only [putAll, Act.put, List.setIfInBounds_toArray, List.set_cons_zero, List.set_cons_succ]; done) | (simp only [putAll, Act.put, List.setIfInBounds_toArray, List.set_cons_zero, List.set_cons_succ]; rfl)) (hJ1_3 () _ (by repeat (first | (with_reducible first | exact HB.out | apply below_alloc | apply pw_below_drewN | apply below_drew1) | exact HB.out)))
                                ·skip
                                 refine Kd.R_make_step (Kd.int .u8) _ 5 (by rfl) (N := 136) rfl 33 _ _ rfl ji66 rfl rfl Tryd.underlying33 (.int .u8 0) 1 info5 rfl (by decide) (by omega) 0 (ok := fun _ => True) (okp := fun _ => True) rfl (fun _ hk => hk) trivial (of_decide_eq_true (by first | (with_reducible assumption) | assumption)) (Nat.le_trans (Nat.mul_le_mul_right _ (of_decide_eq_true (by first | (with_reducible assumption) | assumption) : ji66.toNat ≤ 281474976710656)) (by omega)) (Below.refl _ _) (Nat.le_refl _) ?_
                                 intro v232 w76 ho77 hb hg_ hnew_
                                 clear hg_ hnew_
                                 (first | rw [← Ny231.out] at ho77 | (simp only [Int.reduceToNat] at ho77; rw [← Ny231.out] at ho77))
                                 have n0_ := Aside0.mk (Kd.R_lower ho77 (below_size (by repeat (first | (with_reducible first | exact HB.out | apply below_alloc | apply pw_below_drewN | apply below_drew1) | exact HB.out))))
                                 have n1_ := Aside0.mk (below_step (by repeat (first | (with_reducible first | exact HB.out | apply below_alloc | apply pw_below_drewN | apply below_drew1) | exact HB.out)) hb)
                                 clear HB
                                 have HO233 := n0_
                                 have HB := n1_
                                 clear n0_ n1_
                                 clear hb ho77
                                 refine hK.out _ _ trivial (fun hHeld => ?_)
                                 clear hK K
                                 refine norm_ (a' := ?_) ?_ ?_
                                 rotate_left
                                 ·show Act.put _ (some 136) _ = _
                                  simp only [Act.put, List.setIfInBounds_toArray, List.set_cons_zero, List.set_cons_succ, i64_w, i32_w]
                                  rfl
                                 exact norm_ (by first | (simp only [putAll, Act.put, List.setIfInBounds_toArray, List.set_cons_zero, List.set_cons_succ]; done) | (simp only [putAll, Act.put, List.setIfInBounds_toArray, List.set_cons_zero, List.set_cons_succ]; rfl)) (hJ1_10 (v232) _ ⟨(by (with_reducible repeat (first | apply Kd.R_alloc | apply Kd.R_drewN | apply Kd.R_drew)); exact HO233.out), (by repeat (first | (with_reducible first | exact HB.out | apply below_alloc | apply pw_below_drewN | apply below_drew1) | exact HB.out))⟩)
                              ·skip
                               rintro v232 w77 ⟨h0_, h1_⟩
                               have n0_ : Aside0 (Kd.R (Kd.int .u8) 5 w77 w.heap.size (fun _ => True) v232 y231) := ⟨h0_⟩
                               have n1_ : Aside0 (Below w.heap.size w w77) := ⟨h1_⟩
                               clear HB
                               clear h0_ h1_
                               have HO233 := n0_
                               have HB := n1_
                               clear n0_ n1_
                               have hHeld := trivial
                               refine norm_ (a' := ?_) ?_ ?_
                               rotate_left
                               ·simp only [putAll, Act.put, List.setIfInBounds_toArray, List.set_cons_zero, List.set_cons_succ]
                                rfl
                               refine one_ (i := 1) (N := some 127) #[true, true, false, false, false, false, false, false, false, true, true, true, false, false, false, false, false] rfl rfl (one_of HT_.out (by kernel_rfl)) (by decide) (fun K hK => ?_)
                               refine goes_ Tryd.func21 (by kernel_rfl) rfl #[.string (⟨#[40]⟩ : ByteArray)] (by rfl) rfl rfl (by (try simp only [List.map_toArray, List.map_cons, List.map_nil]); first | done | rfl | (simp only [List.length_drop, List.length_take]; rfl)) ?_
                               with_reducible refine (shelfmarkref10_Str.calls k (⟨#[40]⟩ : ByteArray) t227 _ A58.out).mono ?_
                               rintro e w78 ⟨rfl, hb⟩
                               refine ⟨_, rfl, ?_⟩
                               have n0_ := Aside0.mk (Kd.R_below (by (with_reducible repeat (first | apply Kd.R_alloc | apply Kd.R_drewN | apply Kd.R_drew)); exact HO233.out) hb)
                               have n1_ := Aside0.mk (below_step (by repeat (first | (with_reducible first | exact HB.out | apply below_alloc | apply pw_below_drewN | apply below_drew1) | exact HB.out)) hb)
                               clear HO233
                               clear HB
                               have HO233 := n0_
                               have HB := n1_
                               clear n0_ n1_
                               (try clear hb)
                               (try clear hb2)
                               (try clear hk)
                               (try clear hi)
                               refine hK.out _ _ trivial (fun hHeld => ?_)
                               clear hK K
                               refine norm_ (a' := ?_) ?_ ?_
                               rotate_left
                               ·show Act.put _ (some 127) _ = _
                                simp only [Act.put, List.setIfInBounds_toArray, List.set_cons_zero, List.set_cons_succ, i64_w, i32_w]
                                rfl
                               refine pure_ (i := 2) (N := some 128) (v := ?_) (a' := ?_) #[true, true, true, false, false, false, false, false, false, true, true, true, false, false, false, false, false] rfl rfl (any_of HT_.out (by kernel_rfl)) (fun _ _ _ h => h) (Or.inl ⟨by rfl, ?_⟩) ?_ ?_
                               rotate_left
                               ·intro w'
                                go_simp
                                with_reducible rfl
                               rotate_left
                               ·simp only [Act.put, List.setIfInBounds_toArray, List.set_cons_zero, List.set_cons_succ, i64_w, i32_w]
                                rfl
                               exact norm_ (by first | (simp only [putAll, Act.put, List.setIfInBounds_toArray, List.set_cons_zero, List.set_cons_succ]; done) | (simp only [putAll, Act.put, List.setIfInBounds_toArray, List.set_cons_zero, List.set_cons_succ]; rfl)) (hJ1_10_11 (v232) _ ⟨(by (with_reducible repeat (first | apply Kd.R_alloc | apply Kd.R_drewN | apply Kd.R_drew)); exact HO233.out), (by repeat (first | (with_reducible first | exact HB.out | apply below_alloc | apply pw_below_drewN | apply below_drew1) | exact HB.out))⟩)
                             ·skip
                              rintro v232 w77 ⟨h0_, h1_⟩
                              have n0_ : Aside0 (Kd.R (Kd.int .u8) 5 w77 w.heap.size (fun _ => True) v232 y231) := ⟨h0_⟩
                              have n1_ : Aside0 (Below w.heap.size w w77) := ⟨h1_⟩
                              clear HB
                              clear h0_ h1_
                              have HO233 := n0_
                              have HB := n1_
                              clear n0_ n1_
                              have hHeld := trivial
                              refine norm_ (a' := ?_) ?_ ?_
                              rotate_left
                              ·simp only [putAll, Act.put, List.setIfInBounds_toArray, List.set_cons_zero, List.set_cons_succ]
                               rfl
                              refine two_ (i := 3) (j := 11) (Ni := some 129) (Nj := some 137) #[true, true, true, true, false, false, false, false, false, true, true, false, false, false, false, false, false] #[true, true, true, false, false, false, false, false, false, true, true, true, false, false, false, false, false] rfl rfl rfl rfl (two_of HT_.out (by kernel_rfl)) (by decide) (by decide) (fun K hK => ?_) (fun K hK => ?_)
                              ·skip
                               refine goes_ Tryd.func21 (by kernel_rfl) rfl #[.string (⟨#[116, 121, 112, 101]⟩ : ByteArray)] (by rfl) rfl rfl (by (try simp only [List.map_toArray, List.map_cons, List.map_nil]); first | done | rfl | (simp only [List.length_drop, List.length_take]; rfl)) ?_
                               with_reducible refine (shelfmarkref10_Str.calls k (⟨#[116, 121, 112, 101]⟩ : ByteArray) t228 _ A60.out).mono ?_
                               rintro e w78 ⟨rfl, hb⟩
                               refine ⟨_, rfl, ?_⟩
                               have n0_ := Aside0.mk (Kd.R_below (by (with_reducible repeat (first | apply Kd.R_alloc | apply Kd.R_drewN | apply Kd.R_drew)); exact HO233.out) hb)
                               have n1_ := Aside0.mk (below_step (by repeat (first | (with_reducible first | exact HB.out | apply below_alloc | apply pw_below_drewN | apply below_drew1) | exact HB.out)) hb)
                               clear HO233
                               clear HB
                               have HO233 := n0_
                               have HB := n1_
                               clear n0_ n1_
                               (try clear hb)
                               (try clear hb2)
                               (try clear hk)
                               (try clear hi)
                               refine hK.out _ _ trivial (fun hHeld => ?_)
                               clear hK K
                               refine norm_ (a' := ?_) ?_ ?_
                               rotate_left
                               ·show Act.put _ (some 129) _ = _
                                simp only [Act.put, List.setIfInBounds_toArray, List.set_cons_zero, List.set_cons_succ, i64_w, i32_w]
                                rfl
                               refine pure_ (i := 4) (N := some 130) (v := ?_) (a' := ?_) #[true, true, true, true, true, false, false, false, false, true, true, false, false, false, false, false, false] rfl rfl (any_of HT_.out (by kernel_rfl)) (fun _ _ _ h => h) (Or.inl ⟨by rfl, ?_⟩) ?_ ?_
                               rotate_left
                               ·intro w'
                                go_simp
                                with_reducible rfl
                               rotate_left
                               ·simp only [Act.put, List.setIfInBounds_toArray, List.set_cons_zero, List.set_cons_succ, i64_w, i32_w]
                                rfl
                               exact norm_ (by first | (simp only [putAll, Act.put, List.setIfInBounds_toArray, List.set_cons_zero, List.set_cons_succ]; done) | (simp only [putAll, Act.put, List.setIfInBounds_toArray, List.set_cons_zero, List.set_cons_succ]; rfl)) (hJ1_3_10 (v232) _ ⟨(by (with_reducible repeat (first | apply Kd.R_alloc | apply Kd.R_drewN | apply Kd.R_drew)); exact HO233.out), (by repeat (first | (with_reducible first | exact HB.out | apply below_alloc | apply pw_below_drewN | apply below_drew1) | exact HB.out))⟩)
                              ·skip
                               have hcv78 := own_string (P := Tryd.prog) Tryd.underlying33 Tryd.underlying5 Tryd.underlying9 (Kd.own_of_R HO233.out)
                               refine value_ (w1 := ?_) (v := ?_) (by rfl) rfl ?_ ?_
                               rotate_left 2
                               ·go_simp
                                constructor
                                ·rfl
                                ·rfl
                               clear hcv78
                               refine hK.out _ _ trivial (fun hHeld => ?_)
                               clear hK K
                               refine norm_ (a' := ?_) ?_ ?_
                               rotate_left
                               ·show Act.put _ (some 137) _ = _
                                simp only [Act.put, List.setIfInBounds_toArray, List.set_cons_zero, List.set_cons_succ, i64_w, i32_w]
                                rfl
                               exact norm_ (by first | (simp only [putAll, Act.put, List.setIfInBounds_toArray, List.set_cons_zero, List.set_cons_succ]; done) | (simp only [putAll, Act.put, List.setIfInBounds_toArray, List.set_cons_zero, List.set_cons_succ]; rfl)) (hJ1_10_11 (v232) _ ⟨(by (with_reducible repeat (first | apply Kd.R_alloc | apply Kd.R_drewN | apply Kd.R_drew)); exact HO233.out), (by repeat (first | (with_reducible first | exact HB.out | apply below_alloc | apply pw_below_drewN | apply below_drew1) | exact HB.out))⟩)
                            ·skip
                             rintro _ w76 h0_
                             have n0_ : Aside0 (Below w.heap.size w w76) := ⟨h0_⟩
                             clear HB
                             clear h0_
                             have HB := n0_
                             clear n0_
                             have hHeld := trivial
                             refine norm_ (a' := ?_) ?_ ?_
                             rotate_left
                             ·simp only [putAll, Act.put, List.setIfInBounds_toArray, List.set_cons_zero, List.set_cons_succ]
                              rfl
                             refine two_ (i := 5) (j := 10) (Ni := some 131) (Nj := some 136) #[true, true, true, true, true, true, false, false, false, true, false, false, false, false, false, false, false] #[true, true, true, true, true, false, false, false, false, true, true, false, false, false, false, false, false] rfl rfl rfl rfl (two_of HT_.out (by kernel_rfl)) (by decide) (by decide) (fun K hK => ?_) (fun K hK => ?_)
                             ·skip
                              refine goes_ Tryd.func21 (by kernel_rfl) rfl #[.string (⟨#[114, 101, 103, 117, 108, 97, 114]⟩ : ByteArray)] (by rfl) rfl rfl (by (try simp only [List.map_toArray, List.map_cons, List.map_nil]); first | done | rfl | (simp only [List.length_drop, List.length_take]; rfl)) ?_
                              with_reducible refine (shelfmarkref10_Str.calls k (⟨#[114, 101, 103, 117, 108, 97, 114]⟩ : ByteArray) t229 _ A62.out).mono ?_
                              rintro e w77 ⟨rfl, hb⟩
                              refine ⟨_, rfl, ?_⟩
                              have n0_ := Aside0.mk (below_step (by repeat (first | (with_reducible first | exact HB.out | apply below_alloc | apply pw_below_drewN | apply below_drew1) | exact HB.out)) hb)
                              clear HB
                              have HB := n0_
                              clear n0_
                              (try clear hb)
                              (try clear hb2)
                              (try clear hk)
                              (try clear hi)
                              refine hK.out _ _ trivial (fun hHeld => ?_)
                              clear hK K
                              refine norm_ (a' := ?_) ?_ ?_
                              rotate_left
                              ·show Act.put _ (some 131) _ = _
                               simp only [Act.put, List.setIfInBounds_toArray, List.set_cons_zero, List.set_cons_succ, i64_w, i32_w]
                               rfl
                              refine pure_ (i := 6) (N := some 132) (v := ?_) (a' := ?_) #[true, true, true, true, true, true, true, false, false, true, false, false, false, false, false, false, false] rfl rfl (any_of HT_.out (by kernel_rfl)) (fun _ _ _ h => h) (Or.inl ⟨by rfl, ?_⟩) ?_ ?_
                              rotate_left
                              ·intro w'
                               go_simp
                               with_reducible rfl
                              rotate_left
                              ·simp only [Act.put, List.setIfInBounds_toArray, List.set_cons_zero, List.set_cons_succ, i64_w, i32_w]
                               rfl
                              exact norm_ (by first | (simp only [putAll, Act.put, List.setIfInBounds_toArray, List.set_cons_zero, List.set_cons_succ]; done) | (simp only [putAll, Act.put, List.setIfInBounds_toArray, List.set_cons_zero, List.set_cons_succ]; rfl)) (hJ1_3_5 () _ (by repeat (first | (with_reducible first | exact HB.out | apply below_alloc | apply pw_below_drewN | apply below_drew1) | exact HB.out)))
                             ·skip
                              refine Kd.R_make_step (Kd.int .u8) _ 5 (by rfl) (N := 136) rfl 33 _ _ rfl ji66 rfl rfl Tryd.underlying33 (.int .u8 0) 1 info5 rfl (by decide) (by omega) 0 (ok := fun _ => True) (okp := fun _ => True) rfl (fun _ hk => hk) trivial (of_decide_eq_true (by first | (with_reducible assumption) | assumption)) (Nat.le_trans (Nat.mul_le_mul_right _ (of_decide_eq_true (by first | (with_reducible assumption) | assumption) : ji66.toNat ≤ 281474976710656)) (by omega)) (Below.refl _ _) (Nat.le_refl _) ?_
                              intro v232 w77 ho78 hb hg_ hnew_
                              clear hg_ hnew_
                              (first | rw [← Ny231.out] at ho78 | (simp only [Int.reduceToNat] at ho78; rw [← Ny231.out] at ho78))
                              have n0_ := Aside0.mk (Kd.R_lower ho78 (below_size (by repeat (first | (with_reducible first | exact HB.out | apply below_alloc | apply pw_below_drewN | apply below_drew1) | exact HB.out))))
                              have n1_ := Aside0.mk (below_step (by repeat (first | (with_reducible first | exact HB.out | apply below_alloc | apply pw_below_drewN | apply below_drew1) | exact HB.out)) hb)
                              clear HB
                              have HO233 := n0_
                              have HB := n1_
                              clear n0_ n1_
                              clear hb ho78
                              refine hK.out _ _ trivial (fun hHeld => ?_)
                              clear hK K
                              refine norm_ (a' := ?_) ?_ ?_
                              rotate_left
                              ·show Act.put _ (some 136) _ = _
                               simp only [Act.put, List.setIfInBounds_toArray, List.set_cons_zero, List.set_cons_succ, i64_w, i32_w]
                               rfl
                              exact norm_ (by first | (simp only [putAll, Act.put, List.setIfInBounds_toArray, List.set_cons_zero, List.set_cons_succ]; done) | (simp only [putAll, Act.put, List.setIfInBounds_toArray, List.set_cons_zero, List.set_cons_succ]; rfl)) (hJ1_3_10 (v232) _ ⟨(by (with_reducible repeat (first | apply Kd.R_alloc | apply Kd.R_drewN | apply Kd.R_drew)); exact HO233.out), (by repeat (first | (with_reducible first | exact HB.out | apply below_alloc | apply pw_below_drewN | apply below_drew1) | exact HB.out))⟩)
                           ·skip
                            rintro v232 w78 ⟨h0_, h1_⟩
                            have n0_ : Aside0 (Kd.R (Kd.int .u8) 5 w78 w.heap.size (fun _ => True) v232 y231) := ⟨h0_⟩
                            have n1_ : Aside0 (Below w.heap.size w w78) := ⟨h1_⟩
                            clear HB
                            clear h0_ h1_
                            have HO233 := n0_
                            have HB := n1_
                            clear n0_ n1_
                            have hHeld := trivial
                            refine norm_ (a' := ?_) ?_ ?_
                            rotate_left
                            ·simp only [putAll, Act.put, List.setIfInBounds_toArray, List.set_cons_zero, List.set_cons_succ]
                             rfl
                            refine one_ (i := 3) (N := some 129) #[true, true, true, true, false, false, false, false, false, true, true, true, false, false, false, false, false] rfl rfl (one_of HT_.out (by kernel_rfl)) (by decide) (fun K hK => ?_)
                            refine goes_ Tryd.func21 (by kernel_rfl) rfl #[.string (⟨#[116, 121, 112, 101]⟩ : ByteArray)] (by rfl) rfl rfl (by (try simp only [List.map_toArray, List.map_cons, List.map_nil]); first | done | rfl | (simp only [List.length_drop, List.length_take]; rfl)) ?_
                            with_reducible refine (shelfmarkref10_Str.calls k (⟨#[116, 121, 112, 101]⟩ : ByteArray) t228 _ A60.out).mono ?_
                            rintro e w79 ⟨rfl, hb⟩
                            refine ⟨_, rfl, ?_⟩
                            have n0_ := Aside0.mk (Kd.R_below (by (with_reducible repeat (first | apply Kd.R_alloc | apply Kd.R_drewN | apply Kd.R_drew)); exact HO233.out) hb)
                            have n1_ := Aside0.mk (below_step (by repeat (first | (with_reducible first | exact HB.out | apply below_alloc | apply pw_below_drewN | apply below_drew1) | exact HB.out)) hb)
                            clear HO233
                            clear HB
                            have HO233 := n0_
                            have HB := n1_
                            clear n0_ n1_
                            (try clear hb)
                            (try clear hb2)
                            (try clear hk)
                            (try clear hi)
                            refine hK.out _ _ trivial (fun hHeld => ?_)
                            clear hK K
                            refine norm_ (a' := ?_) ?_ ?_
                            rotate_left
                            ·show Act.put _ (some 129) _ = _
                             simp only [Act.put, List.setIfInBounds_toArray, List.set_cons_zero, List.set_cons_succ, i64_w, i32_w]
                             rfl
                            refine pure_ (i := 4) (N := some 130) (v := ?_) (a' := ?_) #[true, true, true, true, true, false, false, false, false, true, true, true, false, false, false, false, false] rfl rfl (any_of HT_.out (by kernel_rfl)) (fun _ _ _ h => h) (Or.inl ⟨by rfl, ?_⟩) ?_ ?_
                            rotate_left
                            ·intro w'
                             go_simp
                             with_reducible rfl
                            rotate_left
                            ·simp only [Act.put, List.setIfInBounds_toArray, List.set_cons_zero, List.set_cons_succ, i64_w, i32_w]
                             rfl
                            exact norm_ (by first | (simp only [putAll, Act.put, List.setIfInBounds_toArray, List.set_cons_zero, List.set_cons_succ]; done) | (simp only [putAll, Act.put, List.setIfInBounds_toArray, List.set_cons_zero, List.set_cons_succ]; rfl)) (hJ1_3_10_11 (v232) _ ⟨(by (with_reducible repeat (first | apply Kd.R_alloc | apply Kd.R_drewN | apply Kd.R_drew)); exact HO233.out), (by repeat (first | (with_reducible first | exact HB.out | apply below_alloc | apply pw_below_drewN | apply below_drew1) | exact HB.out))⟩)
                          ·skip
                           rintro v232 w78 ⟨h0_, h1_⟩
                           have n0_ : Aside0 (Kd.R (Kd.int .u8) 5 w78 w.heap.size (fun _ => True) v232 y231) := ⟨h0_⟩
                           have n1_ : Aside0 (Below w.heap.size w w78) := ⟨h1_⟩
                           clear HB
                           clear h0_ h1_
                           have HO233 := n0_
                           have HB := n1_
                           clear n0_ n1_
                           have hHeld := trivial
                           refine norm_ (a' := ?_) ?_ ?_
                           rotate_left
                           ·simp only [putAll, Act.put, List.setIfInBounds_toArray, List.set_cons_zero, List.set_cons_succ]
                            rfl
                           refine two_ (i := 5) (j := 11) (Ni := some 131) (Nj := some 137) #[true, true, true, true, true, true, false, false, false, true, true, false, false, false, false, false, false] #[true, true, true, true, true, false, false, false, false, true, true, true, false, false, false, false, false] rfl rfl rfl rfl (two_of HT_.out (by kernel_rfl)) (by decide) (by decide) (fun K hK => ?_) (fun K hK => ?_)
                           ·skip
                            refine goes_ Tryd.func21 (by kernel_rfl) rfl #[.string (⟨#[114, 101, 103, 117, 108, 97, 114]⟩ : ByteArray)] (by rfl) rfl rfl (by (try simp only [List.map_toArray, List.map_cons, List.map_nil]); first | done | rfl | (simp only [List.length_drop, List.length_take]; rfl)) ?_
                            with_reducible refine (shelfmarkref10_Str.calls k (⟨#[114, 101, 103, 117, 108, 97, 114]⟩ : ByteArray) t229 _ A62.out).mono ?_
                            rintro e w79 ⟨rfl, hb⟩
                            refine ⟨_, rfl, ?_⟩
                            have n0_ := Aside0.mk (Kd.R_below (by (with_reducible repeat (first | apply Kd.R_alloc | apply Kd.R_drewN | apply Kd.R_drew)); exact HO233.out) hb)
                            have n1_ := Aside0.mk (below_step (by repeat (first | (with_reducible first | exact HB.out | apply below_alloc | apply pw_below_drewN | apply below_drew1) | exact HB.out)) hb)
                            clear HO233
                            clear HB
                            have HO233 := n0_
                            have HB := n1_
                            clear n0_ n1_
                            (try clear hb)
                            (try clear hb2)
                            (try clear hk)
                            (try clear hi)
                            refine hK.out _ _ trivial (fun hHeld => ?_)
                            clear hK K
                            refine norm_ (a' := ?_) ?_ ?_
                            rotate_left
                            ·show Act.put _ (some 131) _ = _
                             simp only [Act.put, List.setIfInBounds_toArray, List.set_cons_zero, List.set_cons_succ, i64_w, i32_w]
                             rfl
                            refine pure_ (i := 6) (N := some 132) (v := ?_) (a' := ?_) #[true, true, true, true, true, true, true, false, false, true, true, false, false, false, false, false, false] rfl rfl (any_of HT_.out (by kernel_rfl)) (fun _ _ _ h => h) (Or.inl ⟨by rfl, ?_⟩) ?_ ?_
                            rotate_left
                            ·intro w'
                             go_simp
                             with_reducible rfl
                            rotate_left
                            ·simp only [Act.put, List.setIfInBounds_toArray, List.set_cons_zero, List.set_cons_succ, i64_w, i32_w]
                             rfl
                            exact norm_ (by first | (simp only [putAll, Act.put, List.setIfInBounds_toArray, List.set_cons_zero, List.set_cons_succ]; done) | (simp only [putAll, Act.put, List.setIfInBounds_toArray, List.set_cons_zero, List.set_cons_succ]; rfl)) (hJ1_3_5_10 (v232) _ ⟨(by (with_reducible repeat (first | apply Kd.R_alloc | apply Kd.R_drewN | apply Kd.R_drew)); exact HO233.out), (by repeat (first | (with_reducible first | exact HB.out | apply below_alloc | apply pw_below_drewN | apply below_drew1) | exact HB.out))⟩)
                           ·skip
                            have hcv79 := own_string (P := Tryd.prog) Tryd.underlying33 Tryd.underlying5 Tryd.underlying9 (Kd.own_of_R HO233.out)
                            refine value_ (w1 := ?_) (v := ?_) (by rfl) rfl ?_ ?_
                            rotate_left 2
                            ·go_simp
                             constructor
                             ·rfl
                             ·rfl
                            clear hcv79
                            refine hK.out _ _ trivial (fun hHeld => ?_)
                            clear hK K
                            refine norm_ (a' := ?_) ?_ ?_
                            rotate_left
                            ·show Act.put _ (some 137) _ = _
                             simp only [Act.put, List.setIfInBounds_toArray, List.set_cons_zero, List.set_cons_succ, i64_w, i32_w]
                             rfl
                            exact norm_ (by first | (simp only [putAll, Act.put, List.setIfInBounds_toArray, List.set_cons_zero, List.set_cons_succ]; done) | (simp only [putAll, Act.put, List.setIfInBounds_toArray, List.set_cons_zero, List.set_cons_succ]; rfl)) (hJ1_3_10_11 (v232) _ ⟨(by (with_reducible repeat (first | apply Kd.R_alloc | apply Kd.R_drewN | apply Kd.R_drew)); exact HO233.out), (by repeat (first | (with_reducible first | exact HB.out | apply below_alloc | apply pw_below_drewN | apply below_drew1) | exact HB.out))⟩)
                         ·skip
                          rintro _ w77 h0_
                          have n0_ : Aside0 (Below w.heap.size w w77) := ⟨h0_⟩
                          clear HB
                          clear h0_
                          have HB := n0_
                          clear n0_
                          have hHeld := trivial
                          refine norm_ (a' := ?_) ?_ ?_
                          rotate_left
                          ·simp only [putAll, Act.put, List.setIfInBounds_toArray, List.set_cons_zero, List.set_cons_succ]
                           rfl
                          refine two_ (i := 7) (j := 10) (Ni := some 133) (Nj := some 136) #[true, true, true, true, true, true, true, true, false, true, false, false, false, false, false, false, false] #[true, true, true, true, true, true, true, false, false, true, true, false, false, false, false, false, false] rfl rfl rfl rfl (two_of HT_.out (by kernel_rfl)) (by decide) (by decide) (fun K hK => ?_) (fun K hK => ?_)
                          ·skip
                           refine goes_ Tryd.func21 (by kernel_rfl) rfl #[.string (⟨#[99, 111, 110, 116, 101, 110, 116, 115]⟩ : ByteArray)] (by rfl) rfl rfl (by (try simp only [List.map_toArray, List.map_cons, List.map_nil]); first | done | rfl | (simp only [List.length_drop, List.length_take]; rfl)) ?_
                           with_reducible refine (shelfmarkref10_Str.calls k (⟨#[99, 111, 110, 116, 101, 110, 116, 115]⟩ : ByteArray) t230 _ A64.out).mono ?_
                           rintro e w78 ⟨rfl, hb⟩
                           refine ⟨_, rfl, ?_⟩
                           have n0_ := Aside0.mk (below_step (by repeat (first | (with_reducible first | exact HB.out | apply below_alloc | apply pw_below_drewN | apply below_drew1) | exact HB.out)) hb)
                           clear HB
                           have HB := n0_
                           clear n0_
                           (try clear hb)
                           (try clear hb2)
                           (try clear hk)
                           (try clear hi)
                           refine hK.out _ _ trivial (fun hHeld => ?_)
                           clear hK K
                           refine norm_ (a' := ?_) ?_ ?_
                           rotate_left
                           ·show Act.put _ (some 133) _ = _
                            simp only [Act.put, List.setIfInBounds_toArray, List.set_cons_zero, List.set_cons_succ, i64_w, i32_w]
                            rfl
                           refine pure_ (i := 8) (N := some 134) (v := ?_) (a' := ?_) #[true, true, true, true, true, true, true, true, true, true, false, false, false, false, false, false, false] rfl rfl (any_of HT_.out (by kernel_rfl)) (fun _ _ _ h => h) (Or.inl ⟨by rfl, ?_⟩) ?_ ?_
                           rotate_left
                           ·intro w'
                            go_simp
                            with_reducible rfl
                           rotate_left
                           ·simp only [Act.put, List.setIfInBounds_toArray, List.set_cons_zero, List.set_cons_succ, i64_w, i32_w]
                            rfl
                           exact norm_ (by first | (simp only [putAll, Act.put, List.setIfInBounds_toArray, List.set_cons_zero, List.set_cons_succ]; done) | (simp only [putAll, Act.put, List.setIfInBounds_toArray, List.set_cons_zero, List.set_cons_succ]; rfl)) (hJ1_3_5_7 () _ (by repeat (first | (with_reducible first | exact HB.out | apply below_alloc | apply pw_below_drewN | apply below_drew1) | exact HB.out)))
                          ·skip
                           refine Kd.R_make_step (Kd.int .u8) _ 5 (by rfl) (N := 136) rfl 33 _ _ rfl ji66 rfl rfl Tryd.underlying33 (.int .u8 0) 1 info5 rfl (by decide) (by omega) 0 (ok := fun _ => True) (okp := fun _ => True) rfl (fun _ hk => hk) trivial (of_decide_eq_true (by first | (with_reducible assumption) | assumption)) (Nat.le_trans (Nat.mul_le_mul_right _ (of_decide_eq_true (by first | (with_reducible assumption) | assumption) : ji66.toNat ≤ 281474976710656)) (by omega)) (Below.refl _ _) (Nat.le_refl _) ?_
                           intro v232 w78 ho79 hb hg_ hnew_
                           clear hg_ hnew_
                           (first | rw [← Ny231.out] at ho79 | (simp only [Int.reduceToNat] at ho79; rw [← Ny231.out] at ho79))
                           have n0_ := Aside0.mk (Kd.R_lower ho79 (below_size (by repeat (first | (with_reducible first | exact HB.out | apply below_alloc | apply pw_below_drewN | apply below_drew1) | exact HB.out))))
                           have n1_ := Aside0.mk (below_step (by repeat (first | (with_reducible first | exact HB.out | apply below_alloc | apply pw_below_drewN | apply below_drew1) | exact HB.out)) hb)
                           clear HB
                           have HO233 := n0_
                           have HB := n1_
                           clear n0_ n1_
                           clear hb ho79
                           refine hK.out _ _ trivial (fun hHeld => ?_)
                           clear hK K
                           refine norm_ (a' := ?_) ?_ ?_
                           rotate_left
                           ·show Act.put _ (some 136) _ = _
                            simp only [Act.put, List.setIfInBounds_toArray, List.set_cons_zero, List.set_cons_succ, i64_w, i32_w]
                            rfl
                           exact norm_ (by first | (simp only [putAll, Act.put, List.setIfInBounds_toArray, List.set_cons_zero, List.set_cons_succ]; done) | (simp only [putAll, Act.put, List.setIfInBounds_toArray, List.set_cons_zero, List.set_cons_succ]; rfl)) (hJ1_3_5_10 (v232) _ ⟨(by (with_reducible repeat (first | apply Kd.R_alloc | apply Kd.R_drewN | apply Kd.R_drew)); exact HO233.out), (by repeat (first | (with_reducible first | exact HB.out | apply below_alloc | apply pw_below_drewN | apply below_drew1) | exact HB.out))⟩)
                        ·skip
                         rintro v232 w79 ⟨h0_, h1_⟩
                         have n0_ : Aside0 (Kd.R (Kd.int .u8) 5 w79 w.heap.size (fun _ => True) v232 y231) := ⟨h0_⟩
                         have n1_ : Aside0 (Below w.heap.size w w79) := ⟨h1_⟩
                         clear HB
                         clear h0_ h1_
                         have HO233 := n0_
                         have HB := n1_
                         clear n0_ n1_
                         have hHeld := trivial
                         refine norm_ (a' := ?_) ?_ ?_
                         rotate_left
                         ·simp only [putAll, Act.put, List.setIfInBounds_toArray, List.set_cons_zero, List.set_cons_succ]
                          rfl
                         refine one_ (i := 5) (N := some 131) #[true, true, true, true, true, true, false, false, false, true, true, true, false, false, false, false, false] rfl rfl (one_of HT_.out (by kernel_rfl)) (by decide) (fun K hK => ?_)
                         refine goes_ Tryd.func21 (by kernel_rfl) rfl #[.string (⟨#[114, 101, 103, 117, 108, 97, 114]⟩ : ByteArray)] (by rfl) rfl rfl (by (try simp only [List.map_toArray, List.map_cons, List.map_nil]); first | done | rfl | (simp only [List.length_drop, List.length_take]; rfl)) ?_
                         with_reducible refine (shelfmarkref10_Str.calls k (⟨#[114, 101, 103, 117, 108, 97, 114]⟩ : ByteArray) t229 _ A62.out).mono ?_
                         rintro e w80 ⟨rfl, hb⟩
                         refine ⟨_, rfl, ?_⟩
                         have n0_ := Aside0.mk (Kd.R_below (by (with_reducible repeat (first | apply Kd.R_alloc | apply Kd.R_drewN | apply Kd.R_drew)); exact HO233.out) hb)
                         have n1_ := Aside0.mk (below_step (by repeat (first | (with_reducible first | exact HB.out | apply below_alloc | apply pw_below_drewN | apply below_drew1) | exact HB.out)) hb)
                         clear HO233
                         clear HB
                         have HO233 := n0_
                         have HB := n1_
                         clear n0_ n1_
                         (try clear hb)
                         (try clear hb2)
                         (try clear hk)
                         (try clear hi)
                         refine hK.out _ _ trivial (fun hHeld => ?_)
                         clear hK K
                         refine norm_ (a' := ?_) ?_ ?_
                         rotate_left
                         ·show Act.put _ (some 131) _ = _
                          simp only [Act.put, List.setIfInBounds_toArray, List.set_cons_zero, List.set_cons_succ, i64_w, i32_w]
                          rfl
                         refine pure_ (i := 6) (N := some 132) (v := ?_) (a' := ?_) #[true, true, true, true, true, true, true, false, false, true, true, true, false, false, false, false, false] rfl rfl (any_of HT_.out (by kernel_rfl)) (fun _ _ _ h => h) (Or.inl ⟨by rfl, ?_⟩) ?_ ?_
                         rotate_left
                         ·intro w'
                          go_simp
                          with_reducible rfl
                         rotate_left
                         ·simp only [Act.put, List.setIfInBounds_toArray, List.set_cons_zero, List.set_cons_succ, i64_w, i32_w]
                          rfl
                         exact norm_ (by first | (simp only [putAll, Act.put, List.setIfInBounds_toArray, List.set_cons_zero, List.set_cons_succ]; done) | (simp only [putAll, Act.put, List.setIfInBounds_toArray, List.set_cons_zero, List.set_cons_succ]; rfl)) (hJ1_3_5_10_11 (v232) _ ⟨(by (with_reducible repeat (first | apply Kd.R_alloc | apply Kd.R_drewN | apply Kd.R_drew)); exact HO233.out), (by repeat (first | (with_reducible first | exact HB.out | apply below_alloc | apply pw_below_drewN | apply below_drew1) | exact HB.out))⟩)
                       ·skip
                        rintro v232 w79 ⟨h0_, h1_⟩
                        have n0_ : Aside0 (Kd.R (Kd.int .u8) 5 w79 w.heap.size (fun _ => True) v232 y231) := ⟨h0_⟩
                        have n1_ : Aside0 (Below w.heap.size w w79) := ⟨h1_⟩
                        clear HB
                        clear h0_ h1_
                        have HO233 := n0_
                        have HB := n1_
                        clear n0_ n1_
                        have hHeld := trivial
                        refine norm_ (a' := ?_) ?_ ?_
                        rotate_left
                        ·simp only [putAll, Act.put, List.setIfInBounds_toArray, List.set_cons_zero, List.set_cons_succ]
                         rfl
                        refine two_ (i := 7) (j := 11) (Ni := some 133) (Nj := some 137) #[true, true, true, true, true, true, true, true, false, true, true, false, false, false, false, false, false] #[true, true, true, true, true, true, true, false, false, true, true, true, false, false, false, false, false] rfl rfl rfl rfl (two_of HT_.out (by kernel_rfl)) (by decide) (by decide) (fun K hK => ?_) (fun K hK => ?_)
                        ·skip
                         refine goes_ Tryd.func21 (by kernel_rfl) rfl #[.string (⟨#[99, 111, 110, 116, 101, 110, 116, 115]⟩ : ByteArray)] (by rfl) rfl rfl (by (try simp only [List.map_toArray, List.map_cons, List.map_nil]); first | done | rfl | (simp only [List.length_drop, List.length_take]; rfl)) ?_
                         with_reducible refine (shelfmarkref10_Str.calls k (⟨#[99, 111, 110, 116, 101, 110, 116, 115]⟩ : ByteArray) t230 _ A64.out).mono ?_
                         rintro e w80 ⟨rfl, hb⟩
                         refine ⟨_, rfl, ?_⟩
                         have n0_ := Aside0.mk (Kd.R_below (by (with_reducible repeat (first | apply Kd.R_alloc | apply Kd.R_drewN | apply Kd.R_drew)); exact HO233.out) hb)
                         have n1_ := Aside0.mk (below_step (by repeat (first | (with_reducible first | exact HB.out | apply below_alloc | apply pw_below_drewN | apply below_drew1) | exact HB.out)) hb)
                         clear HO233
                         clear HB
                         have HO233 := n0_
                         have HB := n1_
                         clear n0_ n1_
                         (try clear hb)
                         (try clear hb2)
                         (try clear hk)
                         (try clear hi)
                         refine hK.out _ _ trivial (fun hHeld => ?_)
                         clear hK K
                         refine norm_ (a' := ?_) ?_ ?_
                         rotate_left
                         ·show Act.put _ (some 133) _ = _
                          simp only [Act.put, List.setIfInBounds_toArray, List.set_cons_zero, List.set_cons_succ, i64_w, i32_w]
                          rfl
                         refine pure_ (i := 8) (N := some 134) (v := ?_) (a' := ?_) #[true, true, true, true, true, true, true, true, true, true, true, false, false, false, false, false, false] rfl rfl (any_of HT_.out (by kernel_rfl)) (fun _ _ _ h => h) (Or.inl ⟨by rfl, ?_⟩) ?_ ?_
                         rotate_left
                         ·intro w'
                          go_simp
                          with_reducible rfl
                         rotate_left
                         ·simp only [Act.put, List.setIfInBounds_toArray, List.set_cons_zero, List.set_cons_succ, i64_w, i32_w]
                          rfl
                         exact norm_ (by first | (simp only [putAll, Act.put, List.setIfInBounds_toArray, List.set_cons_zero, List.set_cons_succ]; done) | (simp only [putAll, Act.put, List.setIfInBounds_toArray, List.set_cons_zero, List.set_cons_succ]; rfl)) (hJ1_3_5_7_10 (v232) _ ⟨(by (with_reducible repeat (first | apply Kd.R_alloc | apply Kd.R_drewN | apply Kd.R_drew)); exact HO233.out), (by repeat (first | (with_reducible first | exact HB.out | apply below_alloc | apply pw_below_drewN | apply below_drew1) | exact HB.out))⟩)
                        ·skip
                         have hcv80 := own_string (P := Tryd.prog) Tryd.underlying33 Tryd.underlying5 Tryd.underlying9 (Kd.own_of_R HO233.out)
                         refine value_ (w1 := ?_) (v := ?_) (by rfl) rfl ?_ ?_
                         rotate_left 2
                         ·go_simp
                          constructor
                          ·rfl
                          ·rfl
                         clear hcv80
                         refine hK.out _ _ trivial (fun hHeld => ?_)
                         clear hK K
                         refine norm_ (a' := ?_) ?_ ?_
                         rotate_left
                         ·show Act.put _ (some 137) _ = _
                          simp only [Act.put, List.setIfInBounds_toArray, List.set_cons_zero, List.set_cons_succ, i64_w, i32_w]
                          rfl
                         exact norm_ (by first | (simp only [putAll, Act.put, List.setIfInBounds_toArray, List.set_cons_zero, List.set_cons_succ]; done) | (simp only [putAll, Act.put, List.setIfInBounds_toArray, List.set_cons_zero, List.set_cons_succ]; rfl)) (hJ1_3_5_10_11 (v232) _ ⟨(by (with_reducible repeat (first | apply Kd.R_alloc | apply Kd.R_drewN | apply Kd.R_drew)); exact HO233.out), (by repeat (first | (with_reducible first | exact HB.out | apply below_alloc | apply pw_below_drewN | apply below_drew1) | exact HB.out))⟩)
                      ·skip
                       rintro _ w78 h0_
                       have n0_ : Aside0 (Below w.heap.size w w78) := ⟨h0_⟩
                       clear HB
                       clear h0_
                       have HB := n0_
                       clear n0_
                       have hHeld := trivial
                       refine norm_ (a' := ?_) ?_ ?_
                       rotate_left
                       ·simp only [putAll, Act.put, List.setIfInBounds_toArray, List.set_cons_zero, List.set_cons_succ]
                        rfl
                       refine one_ (i := 10) (N := some 136) #[true, true, true, true, true, true, true, true, true, true, true, false, false, false, false, false, false] rfl rfl (one_of HT_.out (by kernel_rfl)) (by decide) (fun K hK => ?_)
                       refine Kd.R_make_step (Kd.int .u8) _ 5 (by rfl) (N := 136) rfl 33 _ _ rfl ji66 rfl rfl Tryd.underlying33 (.int .u8 0) 1 info5 rfl (by decide) (by omega) 0 (ok := fun _ => True) (okp := fun _ => True) rfl (fun _ hk => hk) trivial (of_decide_eq_true (by first | (with_reducible assumption) | assumption)) (Nat.le_trans (Nat.mul_le_mul_right _ (of_decide_eq_true (by first | (with_reducible assumption) | assumption) : ji66.toNat ≤ 281474976710656)) (by omega)) (Below.refl _ _) (Nat.le_refl _) ?_
                       intro v232 w79 ho80 hb hg_ hnew_
                       clear hg_ hnew_
                       (first | rw [← Ny231.out] at ho80 | (simp only [Int.reduceToNat] at ho80; rw [← Ny231.out] at ho80))
                       have n0_ := Aside0.mk (Kd.R_lower ho80 (below_size (by repeat (first | (with_reducible first | exact HB.out | apply below_alloc | apply pw_below_drewN | apply below_drew1) | exact HB.out))))
                       have n1_ := Aside0.mk (below_step (by repeat (first | (with_reducible first | exact HB.out | apply below_alloc | apply pw_below_drewN | apply below_drew1) | exact HB.out)) hb)
                       clear HB
                       have HO233 := n0_
                       have HB := n1_
                       clear n0_ n1_
                       clear hb ho80
                       refine hK.out _ _ trivial (fun hHeld => ?_)
                       clear hK K
                       refine norm_ (a' := ?_) ?_ ?_
                       rotate_left
                       ·show Act.put _ (some 136) _ = _
                        simp only [Act.put, List.setIfInBounds_toArray, List.set_cons_zero, List.set_cons_succ, i64_w, i32_w]
                        rfl
                       exact norm_ (by first | (simp only [putAll, Act.put, List.setIfInBounds_toArray, List.set_cons_zero, List.set_cons_succ]; done) | (simp only [putAll, Act.put, List.setIfInBounds_toArray, List.set_cons_zero, List.set_cons_succ]; rfl)) (hJ1_3_5_7_10 (v232) _ ⟨(by (with_reducible repeat (first | apply Kd.R_alloc | apply Kd.R_drewN | apply Kd.R_drew)); exact HO233.out), (by repeat (first | (with_reducible first | exact HB.out | apply below_alloc | apply pw_below_drewN | apply below_drew1) | exact HB.out))⟩)
                     ·skip
                      rintro v232 w80 ⟨h0_, h1_⟩
                      have n0_ : Aside0 (Kd.R (Kd.int .u8) 5 w80 w.heap.size (fun _ => True) v232 y231) := ⟨h0_⟩
                      have n1_ : Aside0 (Below w.heap.size w w80) := ⟨h1_⟩
                      clear HB
                      clear h0_ h1_
                      have HO233 := n0_
                      have HB := n1_
                      clear n0_ n1_
                      have hHeld := trivial
                      refine norm_ (a' := ?_) ?_ ?_
                      rotate_left
                      ·simp only [putAll, Act.put, List.setIfInBounds_toArray, List.set_cons_zero, List.set_cons_succ]
                       rfl
                      refine one_ (i := 7) (N := some 133) #[true, true, true, true, true, true, true, true, false, true, true, true, false, false, false, false, false] rfl rfl (one_of HT_.out (by kernel_rfl)) (by decide) (fun K hK => ?_)
                      refine goes_ Tryd.func21 (by kernel_rfl) rfl #[.string (⟨#[99, 111, 110, 116, 101, 110, 116, 115]⟩ : ByteArray)] (by rfl) rfl rfl (by (try simp only [List.map_toArray, List.map_cons, List.map_nil]); first | done | rfl | (simp only [List.length_drop, List.length_take]; rfl)) ?_
                      with_reducible refine (shelfmarkref10_Str.calls k (⟨#[99, 111, 110, 116, 101, 110, 116, 115]⟩ : ByteArray) t230 _ A64.out).mono ?_
                      rintro e w81 ⟨rfl, hb⟩
                      refine ⟨_, rfl, ?_⟩
                      have n0_ := Aside0.mk (Kd.R_below (by (with_reducible repeat (first | apply Kd.R_alloc | apply Kd.R_drewN | apply Kd.R_drew)); exact HO233.out) hb)
                      have n1_ := Aside0.mk (below_step (by repeat (first | (with_reducible first | exact HB.out | apply below_alloc | apply pw_below_drewN | apply below_drew1) | exact HB.out)) hb)
                      clear HO233
                      clear HB
                      have HO233 := n0_
                      have HB := n1_
                      clear n0_ n1_
                      (try clear hb)
                      (try clear hb2)
                      (try clear hk)
                      (try clear hi)
                      refine hK.out _ _ trivial (fun hHeld => ?_)
                      clear hK K
                      refine norm_ (a' := ?_) ?_ ?_
                      rotate_left
                      ·show Act.put _ (some 133) _ = _
                       simp only [Act.put, List.setIfInBounds_toArray, List.set_cons_zero, List.set_cons_succ, i64_w, i32_w]
                       rfl
                      refine pure_ (i := 8) (N := some 134) (v := ?_) (a' := ?_) #[true, true, true, true, true, true, true, true, true, true, true, true, false, false, false, false, false] rfl rfl (any_of HT_.out (by kernel_rfl)) (fun _ _ _ h => h) (Or.inl ⟨by rfl, ?_⟩) ?_ ?_
                      rotate_left
                      ·intro w'
                       go_simp
                       with_reducible rfl
                      rotate_left
                      ·simp only [Act.put, List.setIfInBounds_toArray, List.set_cons_zero, List.set_cons_succ, i64_w, i32_w]
                       rfl
                      exact norm_ (by first | (simp only [putAll, Act.put, List.setIfInBounds_toArray, List.set_cons_zero, List.set_cons_succ]; done) | (simp only [putAll, Act.put, List.setIfInBounds_toArray, List.set_cons_zero, List.set_cons_succ]; rfl)) (hJ1_3_5_7_10_11 (v232) _ ⟨(by (with_reducible repeat (first | apply Kd.R_alloc | apply Kd.R_drewN | apply Kd.R_drew)); exact HO233.out), (by repeat (first | (with_reducible first | exact HB.out | apply below_alloc | apply pw_below_drewN | apply below_drew1) | exact HB.out))⟩)
                    ·skip
                     rintro v232 w80 ⟨h0_, h1_⟩
                     have n0_ : Aside0 (Kd.R (Kd.int .u8) 5 w80 w.heap.size (fun _ => True) v232 y231) := ⟨h0_⟩
                     have n1_ : Aside0 (Below w.heap.size w w80) := ⟨h1_⟩
                     clear HB
                     clear h0_ h1_
                     have HO233 := n0_
                     have HB := n1_
                     clear n0_ n1_
                     have hHeld := trivial
                     refine norm_ (a' := ?_) ?_ ?_
                     rotate_left
                     ·simp only [putAll, Act.put, List.setIfInBounds_toArray, List.set_cons_zero, List.set_cons_succ]
                      rfl
                     refine one_ (i := 11) (N := some 137) #[true, true, true, true, true, true, true, true, true, true, true, true, false, false, false, false, false] rfl rfl (one_of HT_.out (by kernel_rfl)) (by decide) (fun K hK => ?_)
                     have hcv81 := own_string (P := Tryd.prog) Tryd.underlying33 Tryd.underlying5 Tryd.underlying9 (Kd.own_of_R HO233.out)
                     refine value_ (w1 := ?_) (v := ?_) (by rfl) rfl ?_ ?_
                     rotate_left 2
                     ·go_simp
                      constructor
                      ·rfl
                      ·rfl
                     clear hcv81
                     refine hK.out _ _ trivial (fun hHeld => ?_)
                     clear hK K
                     refine norm_ (a' := ?_) ?_ ?_
                     rotate_left
                     ·show Act.put _ (some 137) _ = _
                      simp only [Act.put, List.setIfInBounds_toArray, List.set_cons_zero, List.set_cons_succ, i64_w, i32_w]
                      rfl
                     exact norm_ (by first | (simp only [putAll, Act.put, List.setIfInBounds_toArray, List.set_cons_zero, List.set_cons_succ]; done) | (simp only [putAll, Act.put, List.setIfInBounds_toArray, List.set_cons_zero, List.set_cons_succ]; rfl)) (hJ1_3_5_7_10_11 (v232) _ ⟨(by (with_reducible repeat (first | apply Kd.R_alloc | apply Kd.R_drewN | apply Kd.R_drew)); exact HO233.out), (by repeat (first | (with_reducible first | exact HB.out | apply below_alloc | apply pw_below_drewN | apply below_drew1) | exact HB.out))⟩)
                   rintro v232 w81 ⟨h0_, h1_⟩
                   have n0_ : Aside0 (Kd.R (Kd.int .u8) 5 w81 w.heap.size (fun _ => True) v232 y231) := ⟨h0_⟩
                   have n1_ : Aside0 (Below w.heap.size w w81) := ⟨h1_⟩
                   clear HB
                   clear h0_ h1_
                   have HO233 := n0_
                   have HB := n1_
                   clear n0_ n1_
                   have hHeld := trivial
                   refine norm_ (a' := ?_) ?_ ?_
                   rotate_left
                   ·simp only [putAll, Act.put, List.setIfInBounds_toArray, List.set_cons_zero, List.set_cons_succ]
                    rfl
                   refine one_ (i := 12) (N := some 138) #[true, true, true, true, true, true, true, true, true, true, true, true, true, false, false, false, false] rfl rfl (one_of HT_.out (by kernel_rfl)) (by decide) (fun K hK => ?_)
                   refine goes_ Tryd.func21 (by kernel_rfl) rfl #[.string (strOfNums y231)] (by rfl) rfl rfl (by (try simp only [List.map_toArray, List.map_cons, List.map_nil]); first | done | rfl | (simp only [List.length_drop, List.length_take]; rfl)) ?_
                   with_reducible refine (shelfmarkref10_Str.calls k (strOfNums y231) t234 _ A69.out).mono ?_
                   rintro e w82 ⟨rfl, hb⟩
                   refine ⟨_, rfl, ?_⟩
                   have n0_ := Aside0.mk (Kd.R_below (by (with_reducible repeat (first | apply Kd.R_alloc | apply Kd.R_drewN | apply Kd.R_drew)); exact HO233.out) hb)
                   have n1_ := Aside0.mk (below_step (by repeat (first | (with_reducible first | exact HB.out | apply below_alloc | apply pw_below_drewN | apply below_drew1) | exact HB.out)) hb)
                   clear HO233
                   clear HB
                   have HO233 := n0_
                   have HB := n1_
                   clear n0_ n1_
                   (try clear hb)
                   (try clear hb2)
                   (try clear hk)
                   (try clear hi)
                   refine hK.out _ _ trivial (fun hHeld => ?_)
                   clear hK K
                   refine norm_ (a' := ?_) ?_ ?_
                   rotate_left
                   ·show Act.put _ (some 138) _ = _
                    simp only [Act.put, List.setIfInBounds_toArray, List.set_cons_zero, List.set_cons_succ, i64_w, i32_w]
                    rfl
                   refine pure_ (i := 13) (N := some 139) (v := ?_) (a' := ?_) #[true, true, true, true, true, true, true, true, true, true, true, true, true, true, false, false, false] rfl rfl (any_of HT_.out (by kernel_rfl)) (fun _ _ _ h => h) (Or.inl ⟨by rfl, ?_⟩) ?_ ?_
                   rotate_left
                   ·intro w'
                    go_simp
                    with_reducible rfl
                   rotate_left
                   ·simp only [Act.put, List.setIfInBounds_toArray, List.set_cons_zero, List.set_cons_succ, i64_w, i32_w]
                    rfl
                   refine one_ (i := 14) (N := some 140) #[true, true, true, true, true, true, true, true, true, true, true, true, true, true, true, false, false] rfl rfl (one_of HT_.out (by kernel_rfl)) (by decide) (fun K hK => ?_)
                   refine goes_ Tryd.func21 (by kernel_rfl) rfl #[.string (⟨#[41]⟩ : ByteArray)] (by rfl) rfl rfl (by (try simp only [List.map_toArray, List.map_cons, List.map_nil]); first | done | rfl | (simp only [List.length_drop, List.length_take]; rfl)) ?_
                   with_reducible refine (shelfmarkref10_Str.calls k (⟨#[41]⟩ : ByteArray) t235 _ A71.out).mono ?_
                   rintro e w83 ⟨rfl, hb⟩
                   refine ⟨_, rfl, ?_⟩
                   have n0_ := Aside0.mk (Kd.R_below (by (with_reducible repeat (first | apply Kd.R_alloc | apply Kd.R_drewN | apply Kd.R_drew)); exact HO233.out) hb)
                   have n1_ := Aside0.mk (below_step (by repeat (first | (with_reducible first | exact HB.out | apply below_alloc | apply pw_below_drewN | apply below_drew1) | exact HB.out)) hb)
                   clear HO233
                   clear HB
                   have HO233 := n0_
                   have HB := n1_
                   clear n0_ n1_
                   (try clear hb)
                   (try clear hb2)
                   (try clear hk)
                   (try clear hi)
                   refine hK.out _ _ trivial (fun hHeld => ?_)
                   clear hK K
                   refine norm_ (a' := ?_) ?_ ?_
                   rotate_left
                   ·show Act.put _ (some 140) _ = _
                    simp only [Act.put, List.setIfInBounds_toArray, List.set_cons_zero, List.set_cons_succ, i64_w, i32_w]
                    rfl
                   refine pure_ (i := 15) (N := some 141) (v := ?_) (a' := ?_) #[true, true, true, true, true, true, true, true, true, true, true, true, true, true, true, true, false] rfl rfl (any_of HT_.out (by kernel_rfl)) (fun _ _ _ h => h) (Or.inl ⟨by rfl, ?_⟩) ?_ ?_
                   rotate_left
                   ·intro w'
                    go_simp
                    with_reducible rfl
                   rotate_left
                   ·simp only [Act.put, List.setIfInBounds_toArray, List.set_cons_zero, List.set_cons_succ, i64_w, i32_w]
                    rfl
                   refine pure_ (i := 16) (N := some 8) (v := ?_) (a' := ?_) #[true, true, true, true, true, true, true, true, true, true, true, true, true, true, true, true, true] rfl rfl (any_of HT_.out (by kernel_rfl)) (fun _ _ _ h => h) (Or.inl ⟨by rfl, ?_⟩) ?_ ?_
                   rotate_left
                   ·intro w'
                    go_simp
                    with_reducible rfl
                   rotate_left
                   ·simp only [Act.put, List.setIfInBounds_toArray, List.set_cons_zero, List.set_cons_succ, i64_w, i32_w]
                    rfl
                   refine done_ (done_of HT_.out (by kernel_rfl)) ?_
                   try go_wp2
                   go_meet
                   case rel => exact ⟨_, ((((((t210 ++ t227) ++ t228) ++ t229) ++ t230) ++ t234) ++ t235), (decide ((ji66) ≤ 65536)), (by first | rfl | (simp; done) | (simp [*]; done) | (congr 1; rw [Bool.eq_iff_iff]; simp [bne]; done) | (rw [Bool.eq_iff_iff]; simp [bne]; done)), (by first | rfl | (simp; done) | (simp only [← hji66] <;> (first | rfl | simp)) | (simp [*]; done)), H', ⟨by first | omega | exact Nat.le_refl _⟩, ⟨by repeat (first | (with_reducible first | exact HB.out | apply below_alloc | apply pw_below_drewN | apply below_drew1) | exact HB.out)⟩⟩
                  ·rw [if_neg c72] at H
                   exact absurd H (by simp)
                 ·rw [if_neg c70] at H
                  exact absurd H (by simp)
                ·rw [if_neg c68] at H
                 exact absurd H (by simp)
               ·rw [if_neg c67] at H
                exact absurd H (by simp)
              ·rw [if_neg c65] at H
               exact absurd H (by simp)
             ·rw [if_neg c63] at H
              exact absurd H (by simp)
            ·rw [if_neg c61] at H
             exact absurd H (by simp)
           ·rw [if_neg c59] at H
            exact absurd H (by simp)
          ·rw [if_neg c57] at H
           have c57b0 : ((Int.tmod a1 3) == 1) = false := beq_eq_false_iff_ne.mpr c57
           have c57b1 : ((Int.tmod a1 3) != 1) = true := bne_iff_ne.mpr c57
           by_cases c84 : t210.size + ((t217 ++ t218) ++ t219).size ≤ 9223372036854775807
           ·rw [if_pos c84] at H
            have c84b0 := eq_true c84
            have c84b1 : decide (t210.size + ((t217 ++ t218) ++ t219).size ≤ 9223372036854775807) = true := decide_eq_true c84
            try have c84b2 : (9223372036854775807 < t210.size + ((t217 ++ t218) ++ t219).size) = False := eq_false (Nat.not_lt.2 c84)
            (try (have c84b2_l := c84b2; simp only [ByteArray.size_append] at c84b2_l))
            have H' := Aside0.mk H
            clear H
            go_wp2
            go_loopg [8, 15] k (fun kq v8 v15 w' => ∃ (x8_1 : ByteArray) (x15_1 : Int), v8 = .string x8_1 ∧ v15 = .int .i64 x15_1 ∧ Aside0 (shelfmarklaw11_ParseLimits.l2 kq (((((t211 ++ t212) ++ t213) ++ t214) ++ t215) ++ t216) x8_1 (wrap64 (250 + (Int.tmod (wrap64 (a0)) 12))) x15_1 = some r) ∧ Aside0 (kq ≤ k) ∧ Aside0 (Below w.heap.size w w'))
            case atStart => exact ⟨(t210 ++ ((t217 ++ t218) ++ t219)), (1), (by first | rfl | (simp; done) | (simp [*]; done) | (congr 1; rw [Bool.eq_iff_iff]; simp [bne]; done) | (rw [Bool.eq_iff_iff]; simp [bne]; done)), (by first | rfl | (simp; done) | (simp [*]; done) | (congr 1; rw [Bool.eq_iff_iff]; simp [bne]; done) | (rw [Bool.eq_iff_iff]; simp [bne]; done)), H', ⟨Nat.le_refl _⟩, ⟨by repeat (first | (with_reducible first | exact HB.out | apply below_alloc | apply pw_below_drewN | apply below_drew1) | exact HB.out)⟩⟩
            case round =>
             clear H'
             try clear c2
             try clear p2
             try clear c5
             try clear c6
             try clear p6
             try clear c7
             try clear hcv7
             try clear c8
             try clear hcv8
             try clear c21
             try clear c57
             try clear c57b0
             try clear c57b1
             try clear c59
             try clear c61
             try clear c63
             try clear p64
             try clear c65
             try clear c67
             try clear c68
             try clear c70
             try clear c72
             try clear hcv78
             try clear hcv79
             try clear hcv80
             try clear hcv81
             try clear c84
             try clear c84b0
             try clear c84b1
             try clear c84b2
             obtain ⟨x8_1, x15_1, rfl, rfl, HA, HK1, HB⟩ := hrel
             cases gk with
             | zero => exact absurd HA.out (by simp [shelfmarklaw11_ParseLimits.l2])
             | succ k1 =>
              have H := HA.out
              clear HA
              simp only [shelfmarklaw11_ParseLimits.l2] at H
              by_cases c85 : x15_1 < (wrap64 (250 + (Int.tmod (wrap64 (a0)) 12)))
              ·rw [if_pos c85] at H
               have c85b0 : decide (x15_1 < (wrap64 (250 + (Int.tmod (wrap64 (a0)) 12)))) = true := decide_eq_true c85
               clear c85
               replace H := Option.bind_eq_some_iff.mp H
               obtain ⟨t237, A860, H⟩ := H
               (try dsimp only at H)
               have A86 := Aside0.mk A860
               clear A860
               by_cases c87 : x8_1.size + t237.size ≤ 9223372036854775807
               ·rw [if_pos c87] at H
                have c87b0 := eq_true c87
                have c87b1 : decide (x8_1.size + t237.size ≤ 9223372036854775807) = true := decide_eq_true c87
                try have c87b2 : (9223372036854775807 < x8_1.size + t237.size) = False := eq_false (Nat.not_lt.2 c87)
                replace H := Option.bind_eq_some_iff.mp H
                obtain ⟨t238, A880, H⟩ := H
                (try dsimp only at H)
                have A88 := Aside0.mk A880
                clear A880
                by_cases c89 : (x8_1 ++ t237).size + t238.size ≤ 9223372036854775807
                ·rw [if_pos c89] at H
                 have c89b0 := eq_true c89
                 have c89b1 : decide ((x8_1 ++ t237).size + t238.size ≤ 9223372036854775807) = true := decide_eq_true c89
                 try have c89b2 : (9223372036854775807 < (x8_1 ++ t237).size + t238.size) = False := eq_false (Nat.not_lt.2 c89)
                 (try (have c89b2_l := c89b2; simp only [ByteArray.size_append] at c89b2_l))
                 replace H := Option.bind_eq_some_iff.mp H
                 obtain ⟨t239, A900, H⟩ := H
                 (try dsimp only at H)
                 have A90 := Aside0.mk A900
                 clear A900
                 by_cases c91 : ((x8_1 ++ t237) ++ t238).size + t239.size ≤ 9223372036854775807
                 ·rw [if_pos c91] at H
                  have c91b0 := eq_true c91
                  have c91b1 : decide (((x8_1 ++ t237) ++ t238).size + t239.size ≤ 9223372036854775807) = true := decide_eq_true c91
                  try have c91b2 : (9223372036854775807 < ((x8_1 ++ t237) ++ t238).size + t239.size) = False := eq_false (Nat.not_lt.2 c91)
                  (try (have c91b2_l := c91b2; simp only [ByteArray.size_append] at c91b2_l))
                  obtain ⟨y240, hy240⟩ : ∃ y_ : List Int, y_ = (([(wrap64 (97 + (Int.tmod (wrap64 (Int.tdiv x15_1 26)) 26))) % 256, (wrap64 (97 + (Int.tmod x15_1 26))) % 256] : List Int)) := ⟨_, rfl⟩
                  replace H : ((shelfmarkref10_Str.f k1 (strOfNums y240)).bind fun t243 => (if (((x8_1 ++ t237) ++ t238) ++ t239).size + t243.size ≤ 9223372036854775807 then ((shelfmarkref10_Str.f k1 (⟨#[110, 111, 100, 101]⟩ : ByteArray)).bind fun t244 => (if ((((x8_1 ++ t237) ++ t238) ++ t239) ++ t243).size + t244.size ≤ 9223372036854775807 then (if (((((x8_1 ++ t237) ++ t238) ++ t239) ++ t243) ++ t244).size + (((((t211 ++ t212) ++ t213) ++ t214) ++ t215) ++ t216).size ≤ 9223372036854775807 then ((shelfmarkref10_Str.f k1 (⟨#[41]⟩ : ByteArray)).bind fun t245 => (if ((((((x8_1 ++ t237) ++ t238) ++ t239) ++ t243) ++ t244) ++ (((((t211 ++ t212) ++ t213) ++ t214) ++ t215) ++ t216)).size + t245.size ≤ 9223372036854775807 then (shelfmarklaw11_ParseLimits.l2 k1 (((((t211 ++ t212) ++ t213) ++ t214) ++ t215) ++ t216) (((((((x8_1 ++ t237) ++ t238) ++ t239) ++ t243) ++ t244) ++ (((((t211 ++ t212) ++ t213) ++ t214) ++ t215) ++ t216)) ++ t245) (wrap64 (250 + (Int.tmod (wrap64 (a0)) 12))) (wrap64 (x15_1 + 1))) else (none))) else (none)) else (none))) else (none))) = some r := by first | (rw [hy240]; with_reducible exact H) | (have H2_ := (Option.bind_some _ _).symm.trans H; rw [hy240]; with_reducible exact H2_) | (have H2_ := (Option.bind_some _ _).symm.trans H; with_reducible exact H2_) | with_reducible exact H | (rw [hy240]; exact H) | exact H
                  have Ny240 := Aside0.mk hy240
                  clear hy240
                  replace H := Option.bind_eq_some_iff.mp H
                  obtain ⟨t243, A920, H⟩ := H
                  (try dsimp only at H)
                  have A92 := Aside0.mk A920
                  clear A920
                  by_cases c93 : (((x8_1 ++ t237) ++ t238) ++ t239).size + t243.size ≤ 9223372036854775807
                  ·rw [if_pos c93] at H
                   have c93b0 := eq_true c93
                   have c93b1 : decide ((((x8_1 ++ t237) ++ t238) ++ t239).size + t243.size ≤ 9223372036854775807) = true := decide_eq_true c93
                   try have c93b2 : (9223372036854775807 < (((x8_1 ++ t237) ++ t238) ++ t239).size + t243.size) = False := eq_false (Nat.not_lt.2 c93)
                   (try (have c93b2_l := c93b2; simp only [ByteArray.size_append] at c93b2_l))
                   replace H := Option.bind_eq_some_iff.mp H
                   obtain ⟨t244, A940, H⟩ := H
                   (try dsimp only at H)
                   have A94 := Aside0.mk A940
                   clear A940
                   by_cases c95 : ((((x8_1 ++ t237) ++ t238) ++ t239) ++ t243).size + t244.size ≤ 9223372036854775807
                   ·rw [if_pos c95] at H
                    have c95b0 := eq_true c95
                    have c95b1 : decide (((((x8_1 ++ t237) ++ t238) ++ t239) ++ t243).size + t244.size ≤ 9223372036854775807) = true := decide_eq_true c95
                    try have c95b2 : (9223372036854775807 < ((((x8_1 ++ t237) ++ t238) ++ t239) ++ t243).size + t244.size) = False := eq_false (Nat.not_lt.2 c95)
                    (try (have c95b2_l := c95b2; simp only [ByteArray.size_append] at c95b2_l))
                    by_cases c96 : (((((x8_1 ++ t237) ++ t238) ++ t239) ++ t243) ++ t244).size + (((((t211 ++ t212) ++ t213) ++ t214) ++ t215) ++ t216).size ≤ 9223372036854775807
                    ·rw [if_pos c96] at H
                     have c96b0 := eq_true c96
                     have c96b1 : decide ((((((x8_1 ++ t237) ++ t238) ++ t239) ++ t243) ++ t244).size + (((((t211 ++ t212) ++ t213) ++ t214) ++ t215) ++ t216).size ≤ 9223372036854775807) = true := decide_eq_true c96
                     try have c96b2 : (9223372036854775807 < (((((x8_1 ++ t237) ++ t238) ++ t239) ++ t243) ++ t244).size + (((((t211 ++ t212) ++ t213) ++ t214) ++ t215) ++ t216).size) = False := eq_false (Nat.not_lt.2 c96)
                     (try (have c96b2_l := c96b2; simp only [ByteArray.size_append] at c96b2_l))
                     replace H := Option.bind_eq_some_iff.mp H
                     obtain ⟨t245, A970, H⟩ := H
                     (try dsimp only at H)
                     have A97 := Aside0.mk A970
                     clear A970
                     by_cases c98 : ((((((x8_1 ++ t237) ++ t238) ++ t239) ++ t243) ++ t244) ++ (((((t211 ++ t212) ++ t213) ++ t214) ++ t215) ++ t216)).size + t245.size ≤ 9223372036854775807
                     ·rw [if_pos c98] at H
                      have c98b0 := eq_true c98
                      have c98b1 : decide (((((((x8_1 ++ t237) ++ t238) ++ t239) ++ t243) ++ t244) ++ (((((t211 ++ t212) ++ t213) ++ t214) ++ t215) ++ t216)).size + t245.size ≤ 9223372036854775807) = true := decide_eq_true c98
                      try have c98b2 : (9223372036854775807 < ((((((x8_1 ++ t237) ++ t238) ++ t239) ++ t243) ++ t244) ++ (((((t211 ++ t212) ++ t213) ++ t214) ++ t215) ++ t216)).size + t245.size) = False := eq_false (Nat.not_lt.2 c98)
                      (try (have c98b2_l := c98b2; simp only [ByteArray.size_append] at c98b2_l))
                      have H' := Aside0.mk H
                      clear H
                      try go_wp2
                      have n0_ := Aside0.mk (below_drew1 HB.out)
                      clear HB
                      have HB := n0_
                      clear n0_
                      refine start_ (n := 27) (S := fun w' => True) (ds := []) #[false, false, false, false, false, false, false, false, false, false, false, false, false, false, false, false, false, false, false, false, false, false, false, false, false, false, false] (by kernel_rfl) rfl rfl trivial (fun hHeld => ?_); refine with_tabW shelfmarklaw11_ParseLimits.tab11 shelfmarklaw11_ParseLimits.bits11 (fun HT_ HW_ => ?_)
                      generalize wr.drew = w99 at HB hHeld ⊢
                      refine pure_ (i := 0) (N := some 50) (v := ?_) (a' := ?_) #[true, false, false, false, false, false, false, false, false, false, false, false, false, false, false, false, false, false, false, false, false, false, false, false, false, false, false] rfl rfl (any_of HT_.out (by kernel_rfl)) (fun _ _ _ h => h) (Or.inl ⟨by rfl, ?_⟩) ?_ ?_
                      rotate_left
                      ·intro w'
                       go_simp
                       with_reducible rfl
                      rotate_left
                      ·simp only [Act.put, List.setIfInBounds_toArray, List.set_cons_zero, List.set_cons_succ, i64_w, i32_w]
                       rfl
                      refine pure_ (i := 7) (N := some 57) (v := ?_) (a' := ?_) #[true, false, false, false, false, false, false, true, false, false, false, false, false, false, false, false, false, false, false, false, false, false, false, false, false, false, false] rfl rfl (any_of HT_.out (by kernel_rfl)) (fun _ _ _ h => h) (Or.inl ⟨by rfl, ?_⟩) ?_ ?_
                      rotate_left
                      ·intro w'
                       go_simp
                       with_reducible rfl
                      rotate_left
                      ·simp only [Act.put, List.setIfInBounds_toArray, List.set_cons_zero, List.set_cons_succ, i64_w, i32_w]
                       rfl
                      refine pure_ (i := 8) (N := some 58) (v := ?_) (a' := ?_) #[true, false, false, false, false, false, false, true, true, false, false, false, false, false, false, false, false, false, false, false, false, false, false, false, false, false, false] rfl rfl (any_of HT_.out (by kernel_rfl)) (fun _ _ _ h => h) (Or.inl ⟨by rfl, ?_⟩) ?_ ?_
                      rotate_left
                      ·intro w'
                       go_simp
                       with_reducible rfl
                      rotate_left
                      ·simp only [Act.put, List.setIfInBounds_toArray, List.set_cons_zero, List.set_cons_succ, i64_w, i32_w]
                       rfl
                      refine pure_ (i := 9) (N := some 59) (v := ?_) (a' := ?_) #[true, false, false, false, false, false, false, true, true, true, false, false, false, false, false, false, false, false, false, false, false, false, false, false, false, false, false] rfl rfl (any_of HT_.out (by kernel_rfl)) (fun _ _ _ h => h) (Or.inl ⟨by rfl, ?_⟩) ?_ ?_
                      rotate_left
                      ·intro w'
                       go_simp
                       with_reducible rfl
                      rotate_left
                      ·simp only [Act.put, List.setIfInBounds_toArray, List.set_cons_zero, List.set_cons_succ, i64_w, i32_w]
                       rfl
                      refine pure_ (i := 10) (N := some 60) (v := ?_) (a' := ?_) #[true, false, false, false, false, false, false, true, true, true, true, false, false, false, false, false, false, false, false, false, false, false, false, false, false, false, false] rfl rfl (any_of HT_.out (by kernel_rfl)) (fun _ _ _ h => h) (Or.inl ⟨by rfl, ?_⟩) ?_ ?_
                      rotate_left
                      ·intro w'
                       go_simp
                       with_reducible rfl
                      rotate_left
                      ·simp only [Act.put, List.setIfInBounds_toArray, List.set_cons_zero, List.set_cons_succ, i64_w, i32_w]
                       rfl
                      refine pure_ (i := 11) (N := some 61) (v := ?_) (a' := ?_) #[true, false, false, false, false, false, false, true, true, true, true, true, false, false, false, false, false, false, false, false, false, false, false, false, false, false, false] rfl rfl (any_of HT_.out (by kernel_rfl)) (fun _ _ _ h => h) (Or.inl ⟨by rfl, ?_⟩) ?_ ?_
                      rotate_left
                      ·intro w'
                       go_simp
                       with_reducible rfl
                      rotate_left
                      ·simp only [Act.put, List.setIfInBounds_toArray, List.set_cons_zero, List.set_cons_succ, i64_w, i32_w]
                       rfl
                      refine pure_ (i := 12) (N := some 62) (v := ?_) (a' := ?_) #[true, false, false, false, false, false, false, true, true, true, true, true, true, false, false, false, false, false, false, false, false, false, false, false, false, false, false] rfl rfl (any_of HT_.out (by kernel_rfl)) (fun _ _ _ h => h) (Or.inl ⟨by rfl, ?_⟩) ?_ ?_
                      rotate_left
                      ·intro w'
                       go_simp
                       with_reducible rfl
                      rotate_left
                      ·simp only [Act.put, List.setIfInBounds_toArray, List.set_cons_zero, List.set_cons_succ, i64_w, i32_w]
                       rfl
                      refine pure_ (i := 13) (N := some 63) (v := ?_) (a' := ?_) #[true, false, false, false, false, false, false, true, true, true, true, true, true, true, false, false, false, false, false, false, false, false, false, false, false, false, false] rfl rfl (any_of HT_.out (by kernel_rfl)) (fun _ _ _ h => h) (Or.inl ⟨by rfl, ?_⟩) ?_ ?_
                      rotate_left
                      ·intro w'
                       go_simp
                       with_reducible rfl
                      rotate_left
                      ·simp only [Act.put, List.setIfInBounds_toArray, List.set_cons_zero, List.set_cons_succ, i64_w, i32_w]
                       rfl
                      refine pure_ (i := 14) (N := some 64) (v := ?_) (a' := ?_) #[true, false, false, false, false, false, false, true, true, true, true, true, true, true, true, false, false, false, false, false, false, false, false, false, false, false, false] rfl rfl (any_of HT_.out (by kernel_rfl)) (fun _ _ _ h => h) (Or.inl ⟨by rfl, ?_⟩) ?_ ?_
                      rotate_left
                      ·intro w'
                       go_simp
                       with_reducible rfl
                      rotate_left
                      ·simp only [Act.put, List.setIfInBounds_toArray, List.set_cons_zero, List.set_cons_succ, i64_w, i32_w]
                       rfl
                      refine pure_ (i := 15) (N := some 65) (v := ?_) (a' := ?_) #[true, false, false, false, false, false, false, true, true, true, true, true, true, true, true, true, false, false, false, false, false, false, false, false, false, false, false] rfl rfl (any_of HT_.out (by kernel_rfl)) (fun _ _ _ h => h) (Or.inl ⟨by rfl, ?_⟩) ?_ ?_
                      rotate_left
                      ·intro w'
                       go_simp
                       with_reducible rfl
                      rotate_left
                      ·simp only [Act.put, List.setIfInBounds_toArray, List.set_cons_zero, List.set_cons_succ, i64_w, i32_w]
                       rfl
                      refine pure_ (i := 22) (N := some 72) (v := ?_) (a' := ?_) #[true, false, false, false, false, false, false, true, true, true, true, true, true, true, true, true, false, false, false, false, false, false, true, false, false, false, false] rfl rfl (any_of HT_.out (by kernel_rfl)) (fun _ _ _ h => h) (Or.inl ⟨by rfl, ?_⟩) ?_ ?_
                      rotate_left
                      ·intro w'
                       go_simp
                       with_reducible rfl
                      rotate_left
                      ·simp only [Act.put, List.setIfInBounds_toArray, List.set_cons_zero, List.set_cons_succ, i64_w, i32_w]
                       rfl
                      refine join_ (σ := Value) 8 #[true, true, true, true, true, true, true, true, true, true, true, true, true, true, true, true, true, true, false, false, false, false, true, false, false, false, false] (fun s_ => [(51, .string t237), (53, .string t238), (55, .string t239), (66, s_), (67, .string (strOfNums y240)), (52, .string (x8_1 ++ t237)), (54, .string ((x8_1 ++ t237) ++ t238)), (56, .string (((x8_1 ++ t237) ++ t238) ++ t239))]) (fun s_ w' => (Kd.R (Kd.int .u8) 5 w' w.heap.size (fun _ => True) s_ y240) ∧ (Below w.heap.size w w')) ?_ ?_
                      rotate_left
                      ·intro hJ1_3_5_16_17
                       refine join_ (σ := Value) 9 #[true, true, true, true, true, true, true, true, true, true, true, true, true, true, true, true, true, false, false, false, false, false, true, false, false, false, false] (fun s_ => [(51, .string t237), (53, .string t238), (55, .string t239), (66, s_), (52, .string (x8_1 ++ t237)), (54, .string ((x8_1 ++ t237) ++ t238)), (56, .string (((x8_1 ++ t237) ++ t238) ++ t239))]) (fun s_ w' => (Kd.R (Kd.int .u8) 5 w' w.heap.size (fun _ => True) s_ y240) ∧ (Below w.heap.size w w')) ?_ ?_
                       rotate_left
                       ·intro hJ1_3_5_16
                        refine join_ (σ := Value) 10 #[true, true, true, true, true, false, false, true, true, true, true, true, true, true, true, true, true, true, false, false, false, false, true, false, false, false, false] (fun s_ => [(51, .string t237), (53, .string t238), (66, s_), (67, .string (strOfNums y240)), (52, .string (x8_1 ++ t237)), (54, .string ((x8_1 ++ t237) ++ t238))]) (fun s_ w' => (Kd.R (Kd.int .u8) 5 w' w.heap.size (fun _ => True) s_ y240) ∧ (Below w.heap.size w w')) ?_ ?_
                        rotate_left
                        ·intro hJ1_3_16_17
                         refine join_ (σ := Unit) 10 #[true, true, true, true, true, true, true, true, true, true, true, true, true, true, true, true, false, false, false, false, false, false, true, false, false, false, false] (fun s_ => [(51, .string t237), (53, .string t238), (55, .string t239), (52, .string (x8_1 ++ t237)), (54, .string ((x8_1 ++ t237) ++ t238)), (56, .string (((x8_1 ++ t237) ++ t238) ++ t239))]) (fun s_ w' => (Below w.heap.size w w')) ?_ ?_
                         rotate_left
                         ·intro hJ1_3_5
                          refine join_ (σ := Value) 11 #[true, true, true, true, true, false, false, true, true, true, true, true, true, true, true, true, true, false, false, false, false, false, true, false, false, false, false] (fun s_ => [(51, .string t237), (53, .string t238), (66, s_), (52, .string (x8_1 ++ t237)), (54, .string ((x8_1 ++ t237) ++ t238))]) (fun s_ w' => (Kd.R (Kd.int .u8) 5 w' w.heap.size (fun _ => True) s_ y240) ∧ (Below w.heap.size w w')) ?_ ?_
                          rotate_left
                          ·intro hJ1_3_16
                           refine join_ (σ := Value) 12 #[true, true, true, false, false, false, false, true, true, true, true, true, true, true, true, true, true, true, false, false, false, false, true, false, false, false, false] (fun s_ => [(51, .string t237), (66, s_), (67, .string (strOfNums y240)), (52, .string (x8_1 ++ t237))]) (fun s_ w' => (Kd.R (Kd.int .u8) 5 w' w.heap.size (fun _ => True) s_ y240) ∧ (Below w.heap.size w w')) ?_ ?_
                           rotate_left
                           ·intro hJ1_16_17
                            refine join_ (σ := Unit) 12 #[true, true, true, true, true, false, false, true, true, true, true, true, true, true, true, true, false, false, false, false, false, false, true, false, false, false, false] (fun s_ => [(51, .string t237), (53, .string t238), (52, .string (x8_1 ++ t237)), (54, .string ((x8_1 ++ t237) ++ t238))]) (fun s_ w' => (Below w.heap.size w w')) ?_ ?_
                            rotate_left
                            ·intro hJ1_3
                             refine join_ (σ := Value) 13 #[true, true, true, false, false, false, false, true, true, true, true, true, true, true, true, true, true, false, false, false, false, false, true, false, false, false, false] (fun s_ => [(51, .string t237), (66, s_), (52, .string (x8_1 ++ t237))]) (fun s_ w' => (Kd.R (Kd.int .u8) 5 w' w.heap.size (fun _ => True) s_ y240) ∧ (Below w.heap.size w w')) ?_ ?_
                             rotate_left
                             ·intro hJ1_16
                              refine join_ (σ := Value) 14 #[true, false, false, false, false, false, false, true, true, true, true, true, true, true, true, true, true, true, false, false, false, false, true, false, false, false, false] (fun s_ => [(66, s_), (67, .string (strOfNums y240))]) (fun s_ w' => (Kd.R (Kd.int .u8) 5 w' w.heap.size (fun _ => True) s_ y240) ∧ (Below w.heap.size w w')) ?_ ?_
                              rotate_left
                              ·intro hJ16_17
                               refine join_ (σ := Unit) 14 #[true, true, true, false, false, false, false, true, true, true, true, true, true, true, true, true, false, false, false, false, false, false, true, false, false, false, false] (fun s_ => [(51, .string t237), (52, .string (x8_1 ++ t237))]) (fun s_ w' => (Below w.heap.size w w')) ?_ ?_
                               rotate_left
                               ·intro hJ1
                                refine join_ (σ := Value) 15 #[true, false, false, false, false, false, false, true, true, true, true, true, true, true, true, true, true, false, false, false, false, false, true, false, false, false, false] (fun s_ => [(66, s_)]) (fun s_ w' => (Kd.R (Kd.int .u8) 5 w' w.heap.size (fun _ => True) s_ y240) ∧ (Below w.heap.size w w')) ?_ ?_
                                rotate_left
                                ·intro hJ16
                                 refine two_ (i := 1) (j := 16) (Ni := some 51) (Nj := some 66) #[true, true, false, false, false, false, false, true, true, true, true, true, true, true, true, true, false, false, false, false, false, false, true, false, false, false, false] #[true, false, false, false, false, false, false, true, true, true, true, true, true, true, true, true, true, false, false, false, false, false, true, false, false, false, false] rfl rfl rfl rfl (two_of HT_.out (by kernel_rfl)) (by decide) (by decide) (fun K hK => ?_) (fun K hK => ?_)
                                 ·skip
                                  refine goes_ Tryd.func21 (by kernel_rfl) rfl #[.string (⟨#[101, 110, 116, 114, 121]⟩ : ByteArray)] (by rfl) rfl rfl (by (try simp only [List.map_toArray, List.map_cons, List.map_nil]); first | done | rfl | (simp only [List.length_drop, List.length_take]; rfl)) ?_
                                  with_reducible refine (shelfmarkref10_Str.calls k1 (⟨#[101, 110, 116, 114, 121]⟩ : ByteArray) t237 _ A86.out).mono ?_
                                  rintro e w100 ⟨rfl, hb⟩
                                  refine ⟨_, rfl, ?_⟩
                                  have n0_ := Aside0.mk (below_step (by repeat (first | (with_reducible first | exact HB.out | apply below_alloc | apply pw_below_drewN | apply below_drew1) | exact HB.out)) hb)
                                  clear HB
                                  have HB := n0_
                                  clear n0_
                                  (try clear hb)
                                  (try clear hb2)
                                  (try clear hk)
                                  (try clear hi)
                                  refine hK.out _ _ trivial (fun hHeld => ?_)
                                  clear hK K
                                  refine norm_ (a' := ?_) ?_ ?_
                                  rotate_left
                                  ·show Act.put _ (some 51) _ = _
                                   simp only [Act.put, List.setIfInBounds_toArray, List.set_cons_zero, List.set_cons_succ, i64_w, i32_w]
                                   rfl
                                  refine pure_ (i := 2) (N := some 52) (v := ?_) (a' := ?_) #[true, true, true, false, false, false, false, true, true, true, true, true, true, true, true, true, false, false, false, false, false, false, true, false, false, false, false] rfl rfl (any_of HT_.out (by kernel_rfl)) (fun _ _ _ h => h) (Or.inl ⟨by rfl, ?_⟩) ?_ ?_
                                  rotate_left
                                  ·intro w'
                                   go_simp
                                   with_reducible rfl
                                  rotate_left
                                  ·simp only [Act.put, List.setIfInBounds_toArray, List.set_cons_zero, List.set_cons_succ, i64_w, i32_w]
                                   rfl
                                  exact norm_ (by first | (simp only [putAll, Act.put, List.setIfInBounds_toArray, List.set_cons_zero, List.set_cons_succ]; done) | (simp only [putAll, Act.put, List.setIfInBounds_toArray, List.set_cons_zero, List.set_cons_succ]; rfl)) (hJ1 () _ (by repeat (first | (with_reducible first | exact HB.out | apply below_alloc | apply pw_below_drewN | apply below_drew1) | exact HB.out)))
                                 ·skip
                                  refine Kd.R_lit_step (Kd.int .u8) _ 5 ?hg (N := 66) ?hd (xs := ([(wrap64 (97 + (Int.tmod (wrap64 (Int.tdiv x15_1 26)) 26))) % 256, (wrap64 (97 + (Int.tmod x15_1 26))) % 256] : List Int)) (inner := [.int .u8 ((wrap64 (97 + (Int.tmod (wrap64 (Int.tdiv x15_1 26)) 26))) % 256), .int .u8 ((wrap64 (97 + (Int.tmod x15_1 26))) % 256)]) (ok := fun _ => True) (okp := fun _ => True) ?hr ?hp (fun _ hk => hk) trivial (Below.refl _ _) (Nat.le_refl _) (by simp) ?_; (case hd => rfl); (case hg => rfl); (case hr => first | (go_simp; done) | (go_simp; rfl)); (case hp => exact (Reps.one (show Kd.M (Kd.int .u8) _ _ _ ((wrap64 (97 + (Int.tmod (wrap64 (Int.tdiv x15_1 26)) 26))) % 256) [.int .u8 ((wrap64 (97 + (Int.tmod (wrap64 (Int.tdiv x15_1 26)) 26))) % 256)] from rfl) (Reps.one (show Kd.M (Kd.int .u8) _ _ _ ((wrap64 (97 + (Int.tmod x15_1 26))) % 256) [.int .u8 ((wrap64 (97 + (Int.tmod x15_1 26))) % 256)] from rfl) (Reps.none _ _))))
                                  intro v241 w100 ho101 hb hg_ hnew_
                                  clear hg_ hnew_
                                  (first | rw [← Ny240.out] at ho101 | (simp only [Int.reduceToNat] at ho101; rw [← Ny240.out] at ho101))
                                  have n0_ := Aside0.mk (Kd.R_lower ho101 (below_size (by repeat (first | (with_reducible first | exact HB.out | apply below_alloc | apply pw_below_drewN | apply below_drew1) | exact HB.out))))
                                  have n1_ := Aside0.mk (below_step (by repeat (first | (with_reducible first | exact HB.out | apply below_alloc | apply pw_below_drewN | apply below_drew1) | exact HB.out)) hb)
                                  clear HB
                                  have HO242 := n0_
                                  have HB := n1_
                                  clear n0_ n1_
                                  clear hb ho101
                                  refine hK.out _ _ trivial (fun hHeld => ?_)
                                  clear hK K
                                  refine norm_ (a' := ?_) ?_ ?_
                                  rotate_left
                                  ·show Act.put _ (some 66) _ = _
                                   simp only [Act.put, List.setIfInBounds_toArray, List.set_cons_zero, List.set_cons_succ, i64_w, i32_w]
                                   rfl
                                  exact norm_ (by first | (simp only [putAll, Act.put, List.setIfInBounds_toArray, List.set_cons_zero, List.set_cons_succ]; done) | (simp only [putAll, Act.put, List.setIfInBounds_toArray, List.set_cons_zero, List.set_cons_succ]; rfl)) (hJ16 (v241) _ ⟨(by (with_reducible repeat (first | apply Kd.R_alloc | apply Kd.R_drewN | apply Kd.R_drew)); exact HO242.out), (by repeat (first | (with_reducible first | exact HB.out | apply below_alloc | apply pw_below_drewN | apply below_drew1) | exact HB.out))⟩)
                                ·skip
                                 rintro v241 w102 ⟨h0_, h1_⟩
                                 have n0_ : Aside0 (Kd.R (Kd.int .u8) 5 w102 w.heap.size (fun _ => True) v241 y240) := ⟨h0_⟩
                                 have n1_ : Aside0 (Below w.heap.size w w102) := ⟨h1_⟩
                                 clear HB
                                 clear h0_ h1_
                                 have HO242 := n0_
                                 have HB := n1_
                                 clear n0_ n1_
                                 have hHeld := trivial
                                 refine norm_ (a' := ?_) ?_ ?_
                                 rotate_left
                                 ·simp only [putAll, Act.put, List.setIfInBounds_toArray, List.set_cons_zero, List.set_cons_succ]
                                  rfl
                                 refine two_ (i := 1) (j := 17) (Ni := some 51) (Nj := some 67) #[true, true, false, false, false, false, false, true, true, true, true, true, true, true, true, true, true, false, false, false, false, false, true, false, false, false, false] #[true, false, false, false, false, false, false, true, true, true, true, true, true, true, true, true, true, true, false, false, false, false, true, false, false, false, false] rfl rfl rfl rfl (two_of HT_.out (by kernel_rfl)) (by decide) (by decide) (fun K hK => ?_) (fun K hK => ?_)
                                 ·skip
                                  refine goes_ Tryd.func21 (by kernel_rfl) rfl #[.string (⟨#[101, 110, 116, 114, 121]⟩ : ByteArray)] (by rfl) rfl rfl (by (try simp only [List.map_toArray, List.map_cons, List.map_nil]); first | done | rfl | (simp only [List.length_drop, List.length_take]; rfl)) ?_
                                  with_reducible refine (shelfmarkref10_Str.calls k1 (⟨#[101, 110, 116, 114, 121]⟩ : ByteArray) t237 _ A86.out).mono ?_
                                  rintro e w103 ⟨rfl, hb⟩
                                  refine ⟨_, rfl, ?_⟩
                                  have n0_ := Aside0.mk (Kd.R_below (by (with_reducible repeat (first | apply Kd.R_alloc | apply Kd.R_drewN | apply Kd.R_drew)); exact HO242.out) hb)
                                  have n1_ := Aside0.mk (below_step (by repeat (first | (with_reducible first | exact HB.out | apply below_alloc | apply pw_below_drewN | apply below_drew1) | exact HB.out)) hb)
                                  clear HO242
                                  clear HB
                                  have HO242 := n0_
                                  have HB := n1_
                                  clear n0_ n1_
                                  (try clear hb)
                                  (try clear hb2)
                                  (try clear hk)
                                  (try clear hi)
                                  refine hK.out _ _ trivial (fun hHeld => ?_)
                                  clear hK K
                                  refine norm_ (a' := ?_) ?_ ?_
                                  rotate_left
                                  ·show Act.put _ (some 51) _ = _
                                   simp only [Act.put, List.setIfInBounds_toArray, List.set_cons_zero, List.set_cons_succ, i64_w, i32_w]
                                   rfl
                                  refine pure_ (i := 2) (N := some 52) (v := ?_) (a' := ?_) #[true, true, true, false, false, false, false, true, true, true, true, true, true, true, true, true, true, false, false, false, false, false, true, false, false, false, false] rfl rfl (any_of HT_.out (by kernel_rfl)) (fun _ _ _ h => h) (Or.inl ⟨by rfl, ?_⟩) ?_ ?_
                                  rotate_left
                                  ·intro w'
                                   go_simp
                                   with_reducible rfl
                                  rotate_left
                                  ·simp only [Act.put, List.setIfInBounds_toArray, List.set_cons_zero, List.set_cons_succ, i64_w, i32_w]
                                   rfl
                                  exact norm_ (by first | (simp only [putAll, Act.put, List.setIfInBounds_toArray, List.set_cons_zero, List.set_cons_succ]; done) | (simp only [putAll, Act.put, List.setIfInBounds_toArray, List.set_cons_zero, List.set_cons_succ]; rfl)) (hJ1_16 (v241) _ ⟨(by (with_reducible repeat (first | apply Kd.R_alloc | apply Kd.R_drewN | apply Kd.R_drew)); exact HO242.out), (by repeat (first | (with_reducible first | exact HB.out | apply below_alloc | apply pw_below_drewN | apply below_drew1) | exact HB.out))⟩)
                                 ·skip
                                  have hcv103 := own_string (P := Tryd.prog) Tryd.underlying33 Tryd.underlying5 Tryd.underlying9 (Kd.own_of_R HO242.out)
                                  refine value_ (w1 := ?_) (v := ?_) (by rfl) rfl ?_ ?_
                                  rotate_left 2
                                  ·go_simp
                                   constructor
                                   ·rfl
                                   ·rfl
                                  clear hcv103
                                  refine hK.out _ _ trivial (fun hHeld => ?_)
                                  clear hK K
                                  refine norm_ (a' := ?_) ?_ ?_
                                  rotate_left
                                  ·show Act.put _ (some 67) _ = _
                                   simp only [Act.put, List.setIfInBounds_toArray, List.set_cons_zero, List.set_cons_succ, i64_w, i32_w]
                                   rfl
                                  exact norm_ (by first | (simp only [putAll, Act.put, List.setIfInBounds_toArray, List.set_cons_zero, List.set_cons_succ]; done) | (simp only [putAll, Act.put, List.setIfInBounds_toArray, List.set_cons_zero, List.set_cons_succ]; rfl)) (hJ16_17 (v241) _ ⟨(by (with_reducible repeat (first | apply Kd.R_alloc | apply Kd.R_drewN | apply Kd.R_drew)); exact HO242.out), (by repeat (first | (with_reducible first | exact HB.out | apply below_alloc | apply pw_below_drewN | apply below_drew1) | exact HB.out))⟩)
                               ·skip
                                rintro _ w101 h0_
                                have n0_ : Aside0 (Below w.heap.size w w101) := ⟨h0_⟩
                                clear HB
                                clear h0_
                                have HB := n0_
                                clear n0_
                                have hHeld := trivial
                                refine norm_ (a' := ?_) ?_ ?_
                                rotate_left
                                ·simp only [putAll, Act.put, List.setIfInBounds_toArray, List.set_cons_zero, List.set_cons_succ]
                                 rfl
                                refine two_ (i := 3) (j := 16) (Ni := some 53) (Nj := some 66) #[true, true, true, true, false, false, false, true, true, true, true, true, true, true, true, true, false, false, false, false, false, false, true, false, false, false, false] #[true, true, true, false, false, false, false, true, true, true, true, true, true, true, true, true, true, false, false, false, false, false, true, false, false, false, false] rfl rfl rfl rfl (two_of HT_.out (by kernel_rfl)) (by decide) (by decide) (fun K hK => ?_) (fun K hK => ?_)
                                ·skip
                                 refine goes_ Tryd.func21 (by kernel_rfl) rfl #[.string (⟨#[40]⟩ : ByteArray)] (by rfl) rfl rfl (by (try simp only [List.map_toArray, List.map_cons, List.map_nil]); first | done | rfl | (simp only [List.length_drop, List.length_take]; rfl)) ?_
                                 with_reducible refine (shelfmarkref10_Str.calls k1 (⟨#[40]⟩ : ByteArray) t238 _ A88.out).mono ?_
                                 rintro e w102 ⟨rfl, hb⟩
                                 refine ⟨_, rfl, ?_⟩
                                 have n0_ := Aside0.mk (below_step (by repeat (first | (with_reducible first | exact HB.out | apply below_alloc | apply pw_below_drewN | apply below_drew1) | exact HB.out)) hb)
                                 clear HB
                                 have HB := n0_
                                 clear n0_
                                 (try clear hb)
                                 (try clear hb2)
                                 (try clear hk)
                                 (try clear hi)
                                 refine hK.out _ _ trivial (fun hHeld => ?_)
                                 clear hK K
                                 refine norm_ (a' := ?_) ?_ ?_
                                 rotate_left
                                 ·show Act.put _ (some 53) _ = _
                                  simp only [Act.put, List.setIfInBounds_toArray, List.set_cons_zero, List.set_cons_succ, i64_w, i32_w]
                                  rfl
                                 refine pure_ (i := 4) (N := some 54) (v := ?_) (a' := ?_) #[true, true, true, true, true, false, false, true, true, true, true, true, true, true, true, true, false, false, false, false, false, false, true, false, false, false, false] rfl rfl (any_of HT_.out (by kernel_rfl)) (fun _ _ _ h => h) (Or.inl ⟨by rfl, ?_⟩) ?_ ?_
                                 rotate_left
                                 ·intro w'
                                  go_simp
                                  with_reducible rfl
                                 rotate_left
                                 ·simp only [Act.put, List.setIfInBounds_toArray, List.set_cons_zero, List.set_cons_succ, i64_w, i32_w]
                                  rfl
                                 exact norm_ (by first | (simp only [putAll, Act.put, List.setIfInBounds_toArray, List.set_cons_zero, List.set_cons_succ]; done) | (simp only [putAll, Act.put, List.setIfInBounds_toArray, List.set_cons_zero, List.set_cons_succ]; rfl)) (hJ1_3 () _ (by repeat (first | (with_reducible first | exact HB.out | apply below_alloc | apply pw_below_drewN | apply below_drew1) | exact HB.out)))
                                ·skip
                                 refine Kd.R_lit_step (Kd.int .u8) _ 5 ?hg (N := 66) ?hd (xs := ([(wrap64 (97 + (Int.tmod (wrap64 (Int.tdiv x15_1 26)) 26))) % 256, (wrap64 (97 + (Int.tmod x15_1 26))) % 256] : List Int)) (inner := [.int .u8 ((wrap64 (97 + (Int.tmod (wrap64 (Int.tdiv x15_1 26)) 26))) % 256), .int .u8 ((wrap64 (97 + (Int.tmod x15_1 26))) % 256)]) (ok := fun _ => True) (okp := fun _ => True) ?hr ?hp (fun _ hk => hk) trivial (Below.refl _ _) (Nat.le_refl _) (by simp) ?_; (case hd => rfl); (case hg => rfl); (case hr => first | (go_simp; done) | (go_simp; rfl)); (case hp => exact (Reps.one (show Kd.M (Kd.int .u8) _ _ _ ((wrap64 (97 + (Int.tmod (wrap64 (Int.tdiv x15_1 26)) 26))) % 256) [.int .u8 ((wrap64 (97 + (Int.tmod (wrap64 (Int.tdiv x15_1 26)) 26))) % 256)] from rfl) (Reps.one (show Kd.M (Kd.int .u8) _ _ _ ((wrap64 (97 + (Int.tmod x15_1 26))) % 256) [.int .u8 ((wrap64 (97 + (Int.tmod x15_1 26))) % 256)] from rfl) (Reps.none _ _))))
                                 intro v241 w102 ho103 hb hg_ hnew_
                                 clear hg_ hnew_
                                 (first | rw [← Ny240.out] at ho103 | (simp only [Int.reduceToNat] at ho103; rw [← Ny240.out] at ho103))
                                 have n0_ := Aside0.mk (Kd.R_lower ho103 (below_size (by repeat (first | (with_reducible first | exact HB.out | apply below_alloc | apply pw_below_drewN | apply below_drew1) | exact HB.out))))
                                 have n1_ := Aside0.mk (below_step (by repeat (first | (with_reducible first | exact HB.out | apply below_alloc | apply pw_below_drewN | apply below_drew1) | exact HB.out)) hb)
                                 clear HB
                                 have HO242 := n0_
                                 have HB := n1_
                                 clear n0_ n1_
                                 clear hb ho103
                                 refine hK.out _ _ trivial (fun hHeld => ?_)
                                 clear hK K
                                 refine norm_ (a' := ?_) ?_ ?_
                                 rotate_left
                                 ·show Act.put _ (some 66) _ = _
                                  simp only [Act.put, List.setIfInBounds_toArray, List.set_cons_zero, List.set_cons_succ, i64_w, i32_w]
                                  rfl
                                 exact norm_ (by first | (simp only [putAll, Act.put, List.setIfInBounds_toArray, List.set_cons_zero, List.set_cons_succ]; done) | (simp only [putAll, Act.put, List.setIfInBounds_toArray, List.set_cons_zero, List.set_cons_succ]; rfl)) (hJ1_16 (v241) _ ⟨(by (with_reducible repeat (first | apply Kd.R_alloc | apply Kd.R_drewN | apply Kd.R_drew)); exact HO242.out), (by repeat (first | (with_reducible first | exact HB.out | apply below_alloc | apply pw_below_drewN | apply below_drew1) | exact HB.out))⟩)
                              ·skip
                               rintro v241 w103 ⟨h0_, h1_⟩
                               have n0_ : Aside0 (Kd.R (Kd.int .u8) 5 w103 w.heap.size (fun _ => True) v241 y240) := ⟨h0_⟩
                               have n1_ : Aside0 (Below w.heap.size w w103) := ⟨h1_⟩
                               clear HB
                               clear h0_ h1_
                               have HO242 := n0_
                               have HB := n1_
                               clear n0_ n1_
                               have hHeld := trivial
                               refine norm_ (a' := ?_) ?_ ?_
                               rotate_left
                               ·simp only [putAll, Act.put, List.setIfInBounds_toArray, List.set_cons_zero, List.set_cons_succ]
                                rfl
                               refine one_ (i := 1) (N := some 51) #[true, true, false, false, false, false, false, true, true, true, true, true, true, true, true, true, true, true, false, false, false, false, true, false, false, false, false] rfl rfl (one_of HT_.out (by kernel_rfl)) (by decide) (fun K hK => ?_)
                               refine goes_ Tryd.func21 (by kernel_rfl) rfl #[.string (⟨#[101, 110, 116, 114, 121]⟩ : ByteArray)] (by rfl) rfl rfl (by (try simp only [List.map_toArray, List.map_cons, List.map_nil]); first | done | rfl | (simp only [List.length_drop, List.length_take]; rfl)) ?_
                               with_reducible refine (shelfmarkref10_Str.calls k1 (⟨#[101, 110, 116, 114, 121]⟩ : ByteArray) t237 _ A86.out).mono ?_
                               rintro e w104 ⟨rfl, hb⟩
                               refine ⟨_, rfl, ?_⟩
                               have n0_ := Aside0.mk (Kd.R_below (by (with_reducible repeat (first | apply Kd.R_alloc | apply Kd.R_drewN | apply Kd.R_drew)); exact HO242.out) hb)
                               have n1_ := Aside0.mk (below_step (by repeat (first | (with_reducible first | exact HB.out | apply below_alloc | apply pw_below_drewN | apply below_drew1) | exact HB.out)) hb)
                               clear HO242
                               clear HB
                               have HO242 := n0_
                               have HB := n1_
                               clear n0_ n1_
                               (try clear hb)
                               (try clear hb2)
                               (try clear hk)
                               (try clear hi)
                               refine hK.out _ _ trivial (fun hHeld => ?_)
                               clear hK K
                               refine norm_ (a' := ?_) ?_ ?_
                               rotate_left
                               ·show Act.put _ (some 51) _ = _
                                simp only [Act.put, List.setIfInBounds_toArray, List.set_cons_zero, List.set_cons_succ, i64_w, i32_w]
                                rfl
                               refine pure_ (i := 2) (N := some 52) (v := ?_) (a' := ?_) #[true, true, true, false, false, false, false, true, true, true, true, true, true, true, true, true, true, true, false, false, false, false, true, false, false, false, false] rfl rfl (any_of HT_.out (by kernel_rfl)) (fun _ _ _ h => h) (Or.inl ⟨by rfl, ?_⟩) ?_ ?_
                               rotate_left
                               ·intro w'
                                go_simp
                                with_reducible rfl
                               rotate_left
                               ·simp only [Act.put, List.setIfInBounds_toArray, List.set_cons_zero, List.set_cons_succ, i64_w, i32_w]
                                rfl
                               exact norm_ (by first | (simp only [putAll, Act.put, List.setIfInBounds_toArray, List.set_cons_zero, List.set_cons_succ]; done) | (simp only [putAll, Act.put, List.setIfInBounds_toArray, List.set_cons_zero, List.set_cons_succ]; rfl)) (hJ1_16_17 (v241) _ ⟨(by (with_reducible repeat (first | apply Kd.R_alloc | apply Kd.R_drewN | apply Kd.R_drew)); exact HO242.out), (by repeat (first | (with_reducible first | exact HB.out | apply below_alloc | apply pw_below_drewN | apply below_drew1) | exact HB.out))⟩)
                             ·skip
                              rintro v241 w103 ⟨h0_, h1_⟩
                              have n0_ : Aside0 (Kd.R (Kd.int .u8) 5 w103 w.heap.size (fun _ => True) v241 y240) := ⟨h0_⟩
                              have n1_ : Aside0 (Below w.heap.size w w103) := ⟨h1_⟩
                              clear HB
                              clear h0_ h1_
                              have HO242 := n0_
                              have HB := n1_
                              clear n0_ n1_
                              have hHeld := trivial
                              refine norm_ (a' := ?_) ?_ ?_
                              rotate_left
                              ·simp only [putAll, Act.put, List.setIfInBounds_toArray, List.set_cons_zero, List.set_cons_succ]
                               rfl
                              refine two_ (i := 3) (j := 17) (Ni := some 53) (Nj := some 67) #[true, true, true, true, false, false, false, true, true, true, true, true, true, true, true, true, true, false, false, false, false, false, true, false, false, false, false] #[true, true, true, false, false, false, false, true, true, true, true, true, true, true, true, true, true, true, false, false, false, false, true, false, false, false, false] rfl rfl rfl rfl (two_of HT_.out (by kernel_rfl)) (by decide) (by decide) (fun K hK => ?_) (fun K hK => ?_)
                              ·skip
                               refine goes_ Tryd.func21 (by kernel_rfl) rfl #[.string (⟨#[40]⟩ : ByteArray)] (by rfl) rfl rfl (by (try simp only [List.map_toArray, List.map_cons, List.map_nil]); first | done | rfl | (simp only [List.length_drop, List.length_take]; rfl)) ?_
                               with_reducible refine (shelfmarkref10_Str.calls k1 (⟨#[40]⟩ : ByteArray) t238 _ A88.out).mono ?_
                               rintro e w104 ⟨rfl, hb⟩
                               refine ⟨_, rfl, ?_⟩
                               have n0_ := Aside0.mk (Kd.R_below (by (with_reducible repeat (first | apply Kd.R_alloc | apply Kd.R_drewN | apply Kd.R_drew)); exact HO242.out) hb)
                               have n1_ := Aside0.mk (below_step (by repeat (first | (with_reducible first | exact HB.out | apply below_alloc | apply pw_below_drewN | apply below_drew1) | exact HB.out)) hb)
                               clear HO242
                               clear HB
                               have HO242 := n0_
                               have HB := n1_
                               clear n0_ n1_
                               (try clear hb)
                               (try clear hb2)
                               (try clear hk)
                               (try clear hi)
                               refine hK.out _ _ trivial (fun hHeld => ?_)
                               clear hK K
                               refine norm_ (a' := ?_) ?_ ?_
                               rotate_left
                               ·show Act.put _ (some 53) _ = _
                                simp only [Act.put, List.setIfInBounds_toArray, List.set_cons_zero, List.set_cons_succ, i64_w, i32_w]
                                rfl
                               refine pure_ (i := 4) (N := some 54) (v := ?_) (a' := ?_) #[true, true, true, true, true, false, false, true, true, true, true, true, true, true, true, true, true, false, false, false, false, false, true, false, false, false, false] rfl rfl (any_of HT_.out (by kernel_rfl)) (fun _ _ _ h => h) (Or.inl ⟨by rfl, ?_⟩) ?_ ?_
                               rotate_left
                               ·intro w'
                                go_simp
                                with_reducible rfl
                               rotate_left
                               ·simp only [Act.put, List.setIfInBounds_toArray, List.set_cons_zero, List.set_cons_succ, i64_w, i32_w]
                                rfl
                               exact norm_ (by first | (simp only [putAll, Act.put, List.setIfInBounds_toArray, List.set_cons_zero, List.set_cons_succ]; done) | (simp only [putAll, Act.put, List.setIfInBounds_toArray, List.set_cons_zero, List.set_cons_succ]; rfl)) (hJ1_3_16 (v241) _ ⟨(by (with_reducible repeat (first | apply Kd.R_alloc | apply Kd.R_drewN | apply Kd.R_drew)); exact HO242.out), (by repeat (first | (with_reducible first | exact HB.out | apply below_alloc | apply pw_below_drewN | apply below_drew1) | exact HB.out))⟩)
                              ·skip
                               have hcv104 := own_string (P := Tryd.prog) Tryd.underlying33 Tryd.underlying5 Tryd.underlying9 (Kd.own_of_R HO242.out)
                               refine value_ (w1 := ?_) (v := ?_) (by rfl) rfl ?_ ?_
                               rotate_left 2
                               ·go_simp
                                constructor
                                ·rfl
                                ·rfl
                               clear hcv104
                               refine hK.out _ _ trivial (fun hHeld => ?_)
                               clear hK K
                               refine norm_ (a' := ?_) ?_ ?_
                               rotate_left
                               ·show Act.put _ (some 67) _ = _
                                simp only [Act.put, List.setIfInBounds_toArray, List.set_cons_zero, List.set_cons_succ, i64_w, i32_w]
                                rfl
                               exact norm_ (by first | (simp only [putAll, Act.put, List.setIfInBounds_toArray, List.set_cons_zero, List.set_cons_succ]; done) | (simp only [putAll, Act.put, List.setIfInBounds_toArray, List.set_cons_zero, List.set_cons_succ]; rfl)) (hJ1_16_17 (v241) _ ⟨(by (with_reducible repeat (first | apply Kd.R_alloc | apply Kd.R_drewN | apply Kd.R_drew)); exact HO242.out), (by repeat (first | (with_reducible first | exact HB.out | apply below_alloc | apply pw_below_drewN | apply below_drew1) | exact HB.out))⟩)
                            ·skip
                             rintro _ w102 h0_
                             have n0_ : Aside0 (Below w.heap.size w w102) := ⟨h0_⟩
                             clear HB
                             clear h0_
                             have HB := n0_
                             clear n0_
                             have hHeld := trivial
                             refine norm_ (a' := ?_) ?_ ?_
                             rotate_left
                             ·simp only [putAll, Act.put, List.setIfInBounds_toArray, List.set_cons_zero, List.set_cons_succ]
                              rfl
                             refine two_ (i := 5) (j := 16) (Ni := some 55) (Nj := some 66) #[true, true, true, true, true, true, false, true, true, true, true, true, true, true, true, true, false, false, false, false, false, false, true, false, false, false, false] #[true, true, true, true, true, false, false, true, true, true, true, true, true, true, true, true, true, false, false, false, false, false, true, false, false, false, false] rfl rfl rfl rfl (two_of HT_.out (by kernel_rfl)) (by decide) (by decide) (fun K hK => ?_) (fun K hK => ?_)
                             ·skip
                              refine goes_ Tryd.func21 (by kernel_rfl) rfl #[.string (⟨#[110, 97, 109, 101]⟩ : ByteArray)] (by rfl) rfl rfl (by (try simp only [List.map_toArray, List.map_cons, List.map_nil]); first | done | rfl | (simp only [List.length_drop, List.length_take]; rfl)) ?_
                              with_reducible refine (shelfmarkref10_Str.calls k1 (⟨#[110, 97, 109, 101]⟩ : ByteArray) t239 _ A90.out).mono ?_
                              rintro e w103 ⟨rfl, hb⟩
                              refine ⟨_, rfl, ?_⟩
                              have n0_ := Aside0.mk (below_step (by repeat (first | (with_reducible first | exact HB.out | apply below_alloc | apply pw_below_drewN | apply below_drew1) | exact HB.out)) hb)
                              clear HB
                              have HB := n0_
                              clear n0_
                              (try clear hb)
                              (try clear hb2)
                              (try clear hk)
                              (try clear hi)
                              refine hK.out _ _ trivial (fun hHeld => ?_)
                              clear hK K
                              refine norm_ (a' := ?_) ?_ ?_
                              rotate_left
                              ·show Act.put _ (some 55) _ = _
                               simp only [Act.put, List.setIfInBounds_toArray, List.set_cons_zero, List.set_cons_succ, i64_w, i32_w]
                               rfl
                              refine pure_ (i := 6) (N := some 56) (v := ?_) (a' := ?_) #[true, true, true, true, true, true, true, true, true, true, true, true, true, true, true, true, false, false, false, false, false, false, true, false, false, false, false] rfl rfl (any_of HT_.out (by kernel_rfl)) (fun _ _ _ h => h) (Or.inl ⟨by rfl, ?_⟩) ?_ ?_
                              rotate_left
                              ·intro w'
                               go_simp
                               with_reducible rfl
                              rotate_left
                              ·simp only [Act.put, List.setIfInBounds_toArray, List.set_cons_zero, List.set_cons_succ, i64_w, i32_w]
                               rfl
                              exact norm_ (by first | (simp only [putAll, Act.put, List.setIfInBounds_toArray, List.set_cons_zero, List.set_cons_succ]; done) | (simp only [putAll, Act.put, List.setIfInBounds_toArray, List.set_cons_zero, List.set_cons_succ]; rfl)) (hJ1_3_5 () _ (by repeat (first | (with_reducible first | exact HB.out | apply below_alloc | apply pw_below_drewN | apply below_drew1) | exact HB.out)))
                             ·skip
                              refine Kd.R_lit_step (Kd.int .u8) _ 5 ?hg (N := 66) ?hd (xs := ([(wrap64 (97 + (Int.tmod (wrap64 (Int.tdiv x15_1 26)) 26))) % 256, (wrap64 (97 + (Int.tmod x15_1 26))) % 256] : List Int)) (inner := [.int .u8 ((wrap64 (97 + (Int.tmod (wrap64 (Int.tdiv x15_1 26)) 26))) % 256), .int .u8 ((wrap64 (97 + (Int.tmod x15_1 26))) % 256)]) (ok := fun _ => True) (okp := fun _ => True) ?hr ?hp (fun _ hk => hk) trivial (Below.refl _ _) (Nat.le_refl _) (by simp) ?_; (case hd => rfl); (case hg => rfl); (case hr => first | (go_simp; done) | (go_simp; rfl)); (case hp => exact (Reps.one (show Kd.M (Kd.int .u8) _ _ _ ((wrap64 (97 + (Int.tmod (wrap64 (Int.tdiv x15_1 26)) 26))) % 256) [.int .u8 ((wrap64 (97 + (Int.tmod (wrap64 (Int.tdiv x15_1 26)) 26))) % 256)] from rfl) (Reps.one (show Kd.M (Kd.int .u8) _ _ _ ((wrap64 (97 + (Int.tmod x15_1 26))) % 256) [.int .u8 ((wrap64 (97 + (Int.tmod x15_1 26))) % 256)] from rfl) (Reps.none _ _))))
                              intro v241 w103 ho104 hb hg_ hnew_
                              clear hg_ hnew_
                              (first | rw [← Ny240.out] at ho104 | (simp only [Int.reduceToNat] at ho104; rw [← Ny240.out] at ho104))
                              have n0_ := Aside0.mk (Kd.R_lower ho104 (below_size (by repeat (first | (with_reducible first | exact HB.out | apply below_alloc | apply pw_below_drewN | apply below_drew1) | exact HB.out))))
                              have n1_ := Aside0.mk (below_step (by repeat (first | (with_reducible first | exact HB.out | apply below_alloc | apply pw_below_drewN | apply below_drew1) | exact HB.out)) hb)
                              clear HB
                              have HO242 := n0_
                              have HB := n1_
                              clear n0_ n1_
                              clear hb ho104
                              refine hK.out _ _ trivial (fun hHeld => ?_)
                              clear hK K
                              refine norm_ (a' := ?_) ?_ ?_
                              rotate_left
                              ·show Act.put _ (some 66) _ = _
                               simp only [Act.put, List.setIfInBounds_toArray, List.set_cons_zero, List.set_cons_succ, i64_w, i32_w]
                               rfl
                              exact norm_ (by first | (simp only [putAll, Act.put, List.setIfInBounds_toArray, List.set_cons_zero, List.set_cons_succ]; done) | (simp only [putAll, Act.put, List.setIfInBounds_toArray, List.set_cons_zero, List.set_cons_succ]; rfl)) (hJ1_3_16 (v241) _ ⟨(by (with_reducible repeat (first | apply Kd.R_alloc | apply Kd.R_drewN | apply Kd.R_drew)); exact HO242.out), (by repeat (first | (with_reducible first | exact HB.out | apply below_alloc | apply pw_below_drewN | apply below_drew1) | exact HB.out))⟩)
                           ·skip
                            rintro v241 w104 ⟨h0_, h1_⟩
                            have n0_ : Aside0 (Kd.R (Kd.int .u8) 5 w104 w.heap.size (fun _ => True) v241 y240) := ⟨h0_⟩
                            have n1_ : Aside0 (Below w.heap.size w w104) := ⟨h1_⟩
                            clear HB
                            clear h0_ h1_
                            have HO242 := n0_
                            have HB := n1_
                            clear n0_ n1_
                            have hHeld := trivial
                            refine norm_ (a' := ?_) ?_ ?_
                            rotate_left
                            ·simp only [putAll, Act.put, List.setIfInBounds_toArray, List.set_cons_zero, List.set_cons_succ]
                             rfl
                            refine one_ (i := 3) (N := some 53) #[true, true, true, true, false, false, false, true, true, true, true, true, true, true, true, true, true, true, false, false, false, false, true, false, false, false, false] rfl rfl (one_of HT_.out (by kernel_rfl)) (by decide) (fun K hK => ?_)
                            refine goes_ Tryd.func21 (by kernel_rfl) rfl #[.string (⟨#[40]⟩ : ByteArray)] (by rfl) rfl rfl (by (try simp only [List.map_toArray, List.map_cons, List.map_nil]); first | done | rfl | (simp only [List.length_drop, List.length_take]; rfl)) ?_
                            with_reducible refine (shelfmarkref10_Str.calls k1 (⟨#[40]⟩ : ByteArray) t238 _ A88.out).mono ?_
                            rintro e w105 ⟨rfl, hb⟩
                            refine ⟨_, rfl, ?_⟩
                            have n0_ := Aside0.mk (Kd.R_below (by (with_reducible repeat (first | apply Kd.R_alloc | apply Kd.R_drewN | apply Kd.R_drew)); exact HO242.out) hb)
                            have n1_ := Aside0.mk (below_step (by repeat (first | (with_reducible first | exact HB.out | apply below_alloc | apply pw_below_drewN | apply below_drew1) | exact HB.out)) hb)
                            clear HO242
                            clear HB
                            have HO242 := n0_
                            have HB := n1_
                            clear n0_ n1_
                            (try clear hb)
                            (try clear hb2)
                            (try clear hk)
                            (try clear hi)
                            refine hK.out _ _ trivial (fun hHeld => ?_)
                            clear hK K
                            refine norm_ (a' := ?_) ?_ ?_
                            rotate_left
                            ·show Act.put _ (some 53) _ = _
                             simp only [Act.put, List.setIfInBounds_toArray, List.set_cons_zero, List.set_cons_succ, i64_w, i32_w]
                             rfl
                            refine pure_ (i := 4) (N := some 54) (v := ?_) (a' := ?_) #[true, true, true, true, true, false, false, true, true, true, true, true, true, true, true, true, true, true, false, false, false, false, true, false, false, false, false] rfl rfl (any_of HT_.out (by kernel_rfl)) (fun _ _ _ h => h) (Or.inl ⟨by rfl, ?_⟩) ?_ ?_
                            rotate_left
                            ·intro w'
                             go_simp
                             with_reducible rfl
                            rotate_left
                            ·simp only [Act.put, List.setIfInBounds_toArray, List.set_cons_zero, List.set_cons_succ, i64_w, i32_w]
                             rfl
                            exact norm_ (by first | (simp only [putAll, Act.put, List.setIfInBounds_toArray, List.set_cons_zero, List.set_cons_succ]; done) | (simp only [putAll, Act.put, List.setIfInBounds_toArray, List.set_cons_zero, List.set_cons_succ]; rfl)) (hJ1_3_16_17 (v241) _ ⟨(by (with_reducible repeat (first | apply Kd.R_alloc | apply Kd.R_drewN | apply Kd.R_drew)); exact HO242.out), (by repeat (first | (with_reducible first | exact HB.out | apply below_alloc | apply pw_below_drewN | apply below_drew1) | exact HB.out))⟩)
                          ·skip
                           rintro v241 w104 ⟨h0_, h1_⟩
                           have n0_ : Aside0 (Kd.R (Kd.int .u8) 5 w104 w.heap.size (fun _ => True) v241 y240) := ⟨h0_⟩
                           have n1_ : Aside0 (Below w.heap.size w w104) := ⟨h1_⟩
                           clear HB
                           clear h0_ h1_
                           have HO242 := n0_
                           have HB := n1_
                           clear n0_ n1_
                           have hHeld := trivial
                           refine norm_ (a' := ?_) ?_ ?_
                           rotate_left
                           ·simp only [putAll, Act.put, List.setIfInBounds_toArray, List.set_cons_zero, List.set_cons_succ]
                            rfl
                           refine two_ (i := 5) (j := 17) (Ni := some 55) (Nj := some 67) #[true, true, true, true, true, true, false, true, true, true, true, true, true, true, true, true, true, false, false, false, false, false, true, false, false, false, false] #[true, true, true, true, true, false, false, true, true, true, true, true, true, true, true, true, true, true, false, false, false, false, true, false, false, false, false] rfl rfl rfl rfl (two_of HT_.out (by kernel_rfl)) (by decide) (by decide) (fun K hK => ?_) (fun K hK => ?_)
                           ·skip
                            refine goes_ Tryd.func21 (by kernel_rfl) rfl #[.string (⟨#[110, 97, 109, 101]⟩ : ByteArray)] (by rfl) rfl rfl (by (try simp only [List.map_toArray, List.map_cons, List.map_nil]); first | done | rfl | (simp only [List.length_drop, List.length_take]; rfl)) ?_
                            with_reducible refine (shelfmarkref10_Str.calls k1 (⟨#[110, 97, 109, 101]⟩ : ByteArray) t239 _ A90.out).mono ?_
                            rintro e w105 ⟨rfl, hb⟩
                            refine ⟨_, rfl, ?_⟩
                            have n0_ := Aside0.mk (Kd.R_below (by (with_reducible repeat (first | apply Kd.R_alloc | apply Kd.R_drewN | apply Kd.R_drew)); exact HO242.out) hb)
                            have n1_ := Aside0.mk (below_step (by repeat (first | (with_reducible first | exact HB.out | apply below_alloc | apply pw_below_drewN | apply below_drew1) | exact HB.out)) hb)
                            clear HO242
                            clear HB
                            have HO242 := n0_
                            have HB := n1_
                            clear n0_ n1_
                            (try clear hb)
                            (try clear hb2)
                            (try clear hk)
                            (try clear hi)
                            refine hK.out _ _ trivial (fun hHeld => ?_)
                            clear hK K
                            refine norm_ (a' := ?_) ?_ ?_
                            rotate_left
                            ·show Act.put _ (some 55) _ = _
                             simp only [Act.put, List.setIfInBounds_toArray, List.set_cons_zero, List.set_cons_succ, i64_w, i32_w]
                             rfl
                            refine pure_ (i := 6) (N := some 56) (v := ?_) (a' := ?_) #[true, true, true, true, true, true, true, true, true, true, true, true, true, true, true, true, true, false, false, false, false, false, true, false, false, false, false] rfl rfl (any_of HT_.out (by kernel_rfl)) (fun _ _ _ h => h) (Or.inl ⟨by rfl, ?_⟩) ?_ ?_
                            rotate_left
                            ·intro w'
                             go_simp
                             with_reducible rfl
                            rotate_left
                            ·simp only [Act.put, List.setIfInBounds_toArray, List.set_cons_zero, List.set_cons_succ, i64_w, i32_w]
                             rfl
                            exact norm_ (by first | (simp only [putAll, Act.put, List.setIfInBounds_toArray, List.set_cons_zero, List.set_cons_succ]; done) | (simp only [putAll, Act.put, List.setIfInBounds_toArray, List.set_cons_zero, List.set_cons_succ]; rfl)) (hJ1_3_5_16 (v241) _ ⟨(by (with_reducible repeat (first | apply Kd.R_alloc | apply Kd.R_drewN | apply Kd.R_drew)); exact HO242.out), (by repeat (first | (with_reducible first | exact HB.out | apply below_alloc | apply pw_below_drewN | apply below_drew1) | exact HB.out))⟩)
                           ·skip
                            have hcv105 := own_string (P := Tryd.prog) Tryd.underlying33 Tryd.underlying5 Tryd.underlying9 (Kd.own_of_R HO242.out)
                            refine value_ (w1 := ?_) (v := ?_) (by rfl) rfl ?_ ?_
                            rotate_left 2
                            ·go_simp
                             constructor
                             ·rfl
                             ·rfl
                            clear hcv105
                            refine hK.out _ _ trivial (fun hHeld => ?_)
                            clear hK K
                            refine norm_ (a' := ?_) ?_ ?_
                            rotate_left
                            ·show Act.put _ (some 67) _ = _
                             simp only [Act.put, List.setIfInBounds_toArray, List.set_cons_zero, List.set_cons_succ, i64_w, i32_w]
                             rfl
                            exact norm_ (by first | (simp only [putAll, Act.put, List.setIfInBounds_toArray, List.set_cons_zero, List.set_cons_succ]; done) | (simp only [putAll, Act.put, List.setIfInBounds_toArray, List.set_cons_zero, List.set_cons_succ]; rfl)) (hJ1_3_16_17 (v241) _ ⟨(by (with_reducible repeat (first | apply Kd.R_alloc | apply Kd.R_drewN | apply Kd.R_drew)); exact HO242.out), (by repeat (first | (with_reducible first | exact HB.out | apply below_alloc | apply pw_below_drewN | apply below_drew1) | exact HB.out))⟩)
                         ·skip
                          rintro _ w103 h0_
                          have n0_ : Aside0 (Below w.heap.size w w103) := ⟨h0_⟩
                          clear HB
                          clear h0_
                          have HB := n0_
                          clear n0_
                          have hHeld := trivial
                          refine norm_ (a' := ?_) ?_ ?_
                          rotate_left
                          ·simp only [putAll, Act.put, List.setIfInBounds_toArray, List.set_cons_zero, List.set_cons_succ]
                           rfl
                          refine one_ (i := 16) (N := some 66) #[true, true, true, true, true, true, true, true, true, true, true, true, true, true, true, true, true, false, false, false, false, false, true, false, false, false, false] rfl rfl (one_of HT_.out (by kernel_rfl)) (by decide) (fun K hK => ?_)
                          refine Kd.R_lit_step (Kd.int .u8) _ 5 ?hg (N := 66) ?hd (xs := ([(wrap64 (97 + (Int.tmod (wrap64 (Int.tdiv x15_1 26)) 26))) % 256, (wrap64 (97 + (Int.tmod x15_1 26))) % 256] : List Int)) (inner := [.int .u8 ((wrap64 (97 + (Int.tmod (wrap64 (Int.tdiv x15_1 26)) 26))) % 256), .int .u8 ((wrap64 (97 + (Int.tmod x15_1 26))) % 256)]) (ok := fun _ => True) (okp := fun _ => True) ?hr ?hp (fun _ hk => hk) trivial (Below.refl _ _) (Nat.le_refl _) (by simp) ?_; (case hd => rfl); (case hg => rfl); (case hr => first | (go_simp; done) | (go_simp; rfl)); (case hp => exact (Reps.one (show Kd.M (Kd.int .u8) _ _ _ ((wrap64 (97 + (Int.tmod (wrap64 (Int.tdiv x15_1 26)) 26))) % 256) [.int .u8 ((wrap64 (97 + (Int.tmod (wrap64 (Int.tdiv x15_1 26)) 26))) % 256)] from rfl) (Reps.one (show Kd.M (Kd.int .u8) _ _ _ ((wrap64 (97 + (Int.tmod x15_1 26))) % 256) [.int .u8 ((wrap64 (97 + (Int.tmod x15_1 26))) % 256)] from rfl) (Reps.none _ _))))
                          intro v241 w104 ho105 hb hg_ hnew_
                          clear hg_ hnew_
                          (first | rw [← Ny240.out] at ho105 | (simp only [Int.reduceToNat] at ho105; rw [← Ny240.out] at ho105))
                          have n0_ := Aside0.mk (Kd.R_lower ho105 (below_size (by repeat (first | (with_reducible first | exact HB.out | apply below_alloc | apply pw_below_drewN | apply below_drew1) | exact HB.out))))
                          have n1_ := Aside0.mk (below_step (by repeat (first | (with_reducible first | exact HB.out | apply below_alloc | apply pw_below_drewN | apply below_drew1) | exact HB.out)) hb)
                          clear HB
                          have HO242 := n0_
                          have HB := n1_
                          clear n0_ n1_
                          clear hb ho105
                          refine hK.out _ _ trivial (fun hHeld => ?_)
                          clear hK K
                          refine norm_ (a' := ?_) ?_ ?_
                          rotate_left
                          ·show Act.put _ (some 66) _ = _
                           simp only [Act.put, List.setIfInBounds_toArray, List.set_cons_zero, List.set_cons_succ, i64_w, i32_w]
                           rfl
                          exact norm_ (by first | (simp only [putAll, Act.put, List.setIfInBounds_toArray, List.set_cons_zero, List.set_cons_succ]; done) | (simp only [putAll, Act.put, List.setIfInBounds_toArray, List.set_cons_zero, List.set_cons_succ]; rfl)) (hJ1_3_5_16 (v241) _ ⟨(by (with_reducible repeat (first | apply Kd.R_alloc | apply Kd.R_drewN | apply Kd.R_drew)); exact HO242.out), (by repeat (first | (with_reducible first | exact HB.out | apply below_alloc | apply pw_below_drewN | apply below_drew1) | exact HB.out))⟩)
                        ·skip
                         rintro v241 w105 ⟨h0_, h1_⟩
                         have n0_ : Aside0 (Kd.R (Kd.int .u8) 5 w105 w.heap.size (fun _ => True) v241 y240) := ⟨h0_⟩
                         have n1_ : Aside0 (Below w.heap.size w w105) := ⟨h1_⟩
                         clear HB
                         clear h0_ h1_
                         have HO242 := n0_
                         have HB := n1_
                         clear n0_ n1_
                         have hHeld := trivial
                         refine norm_ (a' := ?_) ?_ ?_
                         rotate_left
                         ·simp only [putAll, Act.put, List.setIfInBounds_toArray, List.set_cons_zero, List.set_cons_succ]
                          rfl
                         refine one_ (i := 5) (N := some 55) #[true, true, true, true, true, true, false, true, true, true, true, true, true, true, true, true, true, true, false, false, false, false, true, false, false, false, false] rfl rfl (one_of HT_.out (by kernel_rfl)) (by decide) (fun K hK => ?_)
                         refine goes_ Tryd.func21 (by kernel_rfl) rfl #[.string (⟨#[110, 97, 109, 101]⟩ : ByteArray)] (by rfl) rfl rfl (by (try simp only [List.map_toArray, List.map_cons, List.map_nil]); first | done | rfl | (simp only [List.length_drop, List.length_take]; rfl)) ?_
                         with_reducible refine (shelfmarkref10_Str.calls k1 (⟨#[110, 97, 109, 101]⟩ : ByteArray) t239 _ A90.out).mono ?_
                         rintro e w106 ⟨rfl, hb⟩
                         refine ⟨_, rfl, ?_⟩
                         have n0_ := Aside0.mk (Kd.R_below (by (with_reducible repeat (first | apply Kd.R_alloc | apply Kd.R_drewN | apply Kd.R_drew)); exact HO242.out) hb)
                         have n1_ := Aside0.mk (below_step (by repeat (first | (with_reducible first | exact HB.out | apply below_alloc | apply pw_below_drewN | apply below_drew1) | exact HB.out)) hb)
                         clear HO242
                         clear HB
                         have HO242 := n0_
                         have HB := n1_
                         clear n0_ n1_
                         (try clear hb)
                         (try clear hb2)
                         (try clear hk)
                         (try clear hi)
                         refine hK.out _ _ trivial (fun hHeld => ?_)
                         clear hK K
                         refine norm_ (a' := ?_) ?_ ?_
                         rotate_left
                         ·show Act.put _ (some 55) _ = _
                          simp only [Act.put, List.setIfInBounds_toArray, List.set_cons_zero, List.set_cons_succ, i64_w, i32_w]
                          rfl
                         refine pure_ (i := 6) (N := some 56) (v := ?_) (a' := ?_) #[true, true, true, true, true, true, true, true, true, true, true, true, true, true, true, true, true, true, false, false, false, false, true, false, false, false, false] rfl rfl (any_of HT_.out (by kernel_rfl)) (fun _ _ _ h => h) (Or.inl ⟨by rfl, ?_⟩) ?_ ?_
                         rotate_left
                         ·intro w'
                          go_simp
                          with_reducible rfl
                         rotate_left
                         ·simp only [Act.put, List.setIfInBounds_toArray, List.set_cons_zero, List.set_cons_succ, i64_w, i32_w]
                          rfl
                         exact norm_ (by first | (simp only [putAll, Act.put, List.setIfInBounds_toArray, List.set_cons_zero, List.set_cons_succ]; done) | (simp only [putAll, Act.put, List.setIfInBounds_toArray, List.set_cons_zero, List.set_cons_succ]; rfl)) (hJ1_3_5_16_17 (v241) _ ⟨(by (with_reducible repeat (first | apply Kd.R_alloc | apply Kd.R_drewN | apply Kd.R_drew)); exact HO242.out), (by repeat (first | (with_reducible first | exact HB.out | apply below_alloc | apply pw_below_drewN | apply below_drew1) | exact HB.out))⟩)
                       ·skip
                        rintro v241 w105 ⟨h0_, h1_⟩
                        have n0_ : Aside0 (Kd.R (Kd.int .u8) 5 w105 w.heap.size (fun _ => True) v241 y240) := ⟨h0_⟩
                        have n1_ : Aside0 (Below w.heap.size w w105) := ⟨h1_⟩
                        clear HB
                        clear h0_ h1_
                        have HO242 := n0_
                        have HB := n1_
                        clear n0_ n1_
                        have hHeld := trivial
                        refine norm_ (a' := ?_) ?_ ?_
                        rotate_left
                        ·simp only [putAll, Act.put, List.setIfInBounds_toArray, List.set_cons_zero, List.set_cons_succ]
                         rfl
                        refine one_ (i := 17) (N := some 67) #[true, true, true, true, true, true, true, true, true, true, true, true, true, true, true, true, true, true, false, false, false, false, true, false, false, false, false] rfl rfl (one_of HT_.out (by kernel_rfl)) (by decide) (fun K hK => ?_)
                        have hcv106 := own_string (P := Tryd.prog) Tryd.underlying33 Tryd.underlying5 Tryd.underlying9 (Kd.own_of_R HO242.out)
                        refine value_ (w1 := ?_) (v := ?_) (by rfl) rfl ?_ ?_
                        rotate_left 2
                        ·go_simp
                         constructor
                         ·rfl
                         ·rfl
                        clear hcv106
                        refine hK.out _ _ trivial (fun hHeld => ?_)
                        clear hK K
                        refine norm_ (a' := ?_) ?_ ?_
                        rotate_left
                        ·show Act.put _ (some 67) _ = _
                         simp only [Act.put, List.setIfInBounds_toArray, List.set_cons_zero, List.set_cons_succ, i64_w, i32_w]
                         rfl
                        exact norm_ (by first | (simp only [putAll, Act.put, List.setIfInBounds_toArray, List.set_cons_zero, List.set_cons_succ]; done) | (simp only [putAll, Act.put, List.setIfInBounds_toArray, List.set_cons_zero, List.set_cons_succ]; rfl)) (hJ1_3_5_16_17 (v241) _ ⟨(by (with_reducible repeat (first | apply Kd.R_alloc | apply Kd.R_drewN | apply Kd.R_drew)); exact HO242.out), (by repeat (first | (with_reducible first | exact HB.out | apply below_alloc | apply pw_below_drewN | apply below_drew1) | exact HB.out))⟩)
                      rintro v241 w106 ⟨h0_, h1_⟩
                      have n0_ : Aside0 (Kd.R (Kd.int .u8) 5 w106 w.heap.size (fun _ => True) v241 y240) := ⟨h0_⟩
                      have n1_ : Aside0 (Below w.heap.size w w106) := ⟨h1_⟩
                      clear HB
                      clear h0_ h1_
                      have HO242 := n0_
                      have HB := n1_
                      clear n0_ n1_
                      have hHeld := trivial
                      refine norm_ (a' := ?_) ?_ ?_
                      rotate_left
                      ·simp only [putAll, Act.put, List.setIfInBounds_toArray, List.set_cons_zero, List.set_cons_succ]
                       rfl
                      refine one_ (i := 18) (N := some 68) #[true, true, true, true, true, true, true, true, true, true, true, true, true, true, true, true, true, true, true, false, false, false, true, false, false, false, false] rfl rfl (one_of HT_.out (by kernel_rfl)) (by decide) (fun K hK => ?_)
                      refine goes_ Tryd.func21 (by kernel_rfl) rfl #[.string (strOfNums y240)] (by rfl) rfl rfl (by (try simp only [List.map_toArray, List.map_cons, List.map_nil]); first | done | rfl | (simp only [List.length_drop, List.length_take]; rfl)) ?_
                      with_reducible refine (shelfmarkref10_Str.calls k1 (strOfNums y240) t243 _ A92.out).mono ?_
                      rintro e w107 ⟨rfl, hb⟩
                      refine ⟨_, rfl, ?_⟩
                      have n0_ := Aside0.mk (Kd.R_below (by (with_reducible repeat (first | apply Kd.R_alloc | apply Kd.R_drewN | apply Kd.R_drew)); exact HO242.out) hb)
                      have n1_ := Aside0.mk (below_step (by repeat (first | (with_reducible first | exact HB.out | apply below_alloc | apply pw_below_drewN | apply below_drew1) | exact HB.out)) hb)
                      clear HO242
                      clear HB
                      have HO242 := n0_
                      have HB := n1_
                      clear n0_ n1_
                      (try clear hb)
                      (try clear hb2)
                      (try clear hk)
                      (try clear hi)
                      refine hK.out _ _ trivial (fun hHeld => ?_)
                      clear hK K
                      refine norm_ (a' := ?_) ?_ ?_
                      rotate_left
                      ·show Act.put _ (some 68) _ = _
                       simp only [Act.put, List.setIfInBounds_toArray, List.set_cons_zero, List.set_cons_succ, i64_w, i32_w]
                       rfl
                      refine pure_ (i := 19) (N := some 69) (v := ?_) (a' := ?_) #[true, true, true, true, true, true, true, true, true, true, true, true, true, true, true, true, true, true, true, true, false, false, true, false, false, false, false] rfl rfl (any_of HT_.out (by kernel_rfl)) (fun _ _ _ h => h) (Or.inl ⟨by rfl, ?_⟩) ?_ ?_
                      rotate_left
                      ·intro w'
                       go_simp
                       with_reducible rfl
                      rotate_left
                      ·simp only [Act.put, List.setIfInBounds_toArray, List.set_cons_zero, List.set_cons_succ, i64_w, i32_w]
                       rfl
                      refine one_ (i := 20) (N := some 70) #[true, true, true, true, true, true, true, true, true, true, true, true, true, true, true, true, true, true, true, true, true, false, true, false, false, false, false] rfl rfl (one_of HT_.out (by kernel_rfl)) (by decide) (fun K hK => ?_)
                      refine goes_ Tryd.func21 (by kernel_rfl) rfl #[.string (⟨#[110, 111, 100, 101]⟩ : ByteArray)] (by rfl) rfl rfl (by (try simp only [List.map_toArray, List.map_cons, List.map_nil]); first | done | rfl | (simp only [List.length_drop, List.length_take]; rfl)) ?_
                      with_reducible refine (shelfmarkref10_Str.calls k1 (⟨#[110, 111, 100, 101]⟩ : ByteArray) t244 _ A94.out).mono ?_
                      rintro e w108 ⟨rfl, hb⟩
                      refine ⟨_, rfl, ?_⟩
                      have n0_ := Aside0.mk (Kd.R_below (by (with_reducible repeat (first | apply Kd.R_alloc | apply Kd.R_drewN | apply Kd.R_drew)); exact HO242.out) hb)
                      have n1_ := Aside0.mk (below_step (by repeat (first | (with_reducible first | exact HB.out | apply below_alloc | apply pw_below_drewN | apply below_drew1) | exact HB.out)) hb)
                      clear HO242
                      clear HB
                      have HO242 := n0_
                      have HB := n1_
                      clear n0_ n1_
                      (try clear hb)
                      (try clear hb2)
                      (try clear hk)
                      (try clear hi)
                      refine hK.out _ _ trivial (fun hHeld => ?_)
                      clear hK K
                      refine norm_ (a' := ?_) ?_ ?_
                      rotate_left
                      ·show Act.put _ (some 70) _ = _
                       simp only [Act.put, List.setIfInBounds_toArray, List.set_cons_zero, List.set_cons_succ, i64_w, i32_w]
                       rfl
                      refine pure_ (i := 21) (N := some 71) (v := ?_) (a' := ?_) #[true, true, true, true, true, true, true, true, true, true, true, true, true, true, true, true, true, true, true, true, true, true, true, false, false, false, false] rfl rfl (any_of HT_.out (by kernel_rfl)) (fun _ _ _ h => h) (Or.inl ⟨by rfl, ?_⟩) ?_ ?_
                      rotate_left
                      ·intro w'
                       go_simp
                       with_reducible rfl
                      rotate_left
                      ·simp only [Act.put, List.setIfInBounds_toArray, List.set_cons_zero, List.set_cons_succ, i64_w, i32_w]
                       rfl
                      refine pure_ (i := 23) (N := some 73) (v := ?_) (a' := ?_) #[true, true, true, true, true, true, true, true, true, true, true, true, true, true, true, true, true, true, true, true, true, true, true, true, false, false, false] rfl rfl (any_of HT_.out (by kernel_rfl)) (fun _ _ _ h => h) (Or.inl ⟨by rfl, ?_⟩) ?_ ?_
                      rotate_left
                      ·intro w'
                       go_simp
                       with_reducible rfl
                      rotate_left
                      ·simp only [Act.put, List.setIfInBounds_toArray, List.set_cons_zero, List.set_cons_succ, i64_w, i32_w]
                       rfl
                      refine one_ (i := 24) (N := some 74) #[true, true, true, true, true, true, true, true, true, true, true, true, true, true, true, true, true, true, true, true, true, true, true, true, true, false, false] rfl rfl (one_of HT_.out (by kernel_rfl)) (by decide) (fun K hK => ?_)
                      refine goes_ Tryd.func21 (by kernel_rfl) rfl #[.string (⟨#[41]⟩ : ByteArray)] (by rfl) rfl rfl (by (try simp only [List.map_toArray, List.map_cons, List.map_nil]); first | done | rfl | (simp only [List.length_drop, List.length_take]; rfl)) ?_
                      with_reducible refine (shelfmarkref10_Str.calls k1 (⟨#[41]⟩ : ByteArray) t245 _ A97.out).mono ?_
                      rintro e w109 ⟨rfl, hb⟩
                      refine ⟨_, rfl, ?_⟩
                      have n0_ := Aside0.mk (Kd.R_below (by (with_reducible repeat (first | apply Kd.R_alloc | apply Kd.R_drewN | apply Kd.R_drew)); exact HO242.out) hb)
                      have n1_ := Aside0.mk (below_step (by repeat (first | (with_reducible first | exact HB.out | apply below_alloc | apply pw_below_drewN | apply below_drew1) | exact HB.out)) hb)
                      clear HO242
                      clear HB
                      have HO242 := n0_
                      have HB := n1_
                      clear n0_ n1_
                      (try clear hb)
                      (try clear hb2)
                      (try clear hk)
                      (try clear hi)
                      refine hK.out _ _ trivial (fun hHeld => ?_)
                      clear hK K
                      refine norm_ (a' := ?_) ?_ ?_
                      rotate_left
                      ·show Act.put _ (some 74) _ = _
                       simp only [Act.put, List.setIfInBounds_toArray, List.set_cons_zero, List.set_cons_succ, i64_w, i32_w]
                       rfl
                      refine pure_ (i := 25) (N := some 75) (v := ?_) (a' := ?_) #[true, true, true, true, true, true, true, true, true, true, true, true, true, true, true, true, true, true, true, true, true, true, true, true, true, true, false] rfl rfl (any_of HT_.out (by kernel_rfl)) (fun _ _ _ h => h) (Or.inl ⟨by rfl, ?_⟩) ?_ ?_
                      rotate_left
                      ·intro w'
                       go_simp
                       with_reducible rfl
                      rotate_left
                      ·simp only [Act.put, List.setIfInBounds_toArray, List.set_cons_zero, List.set_cons_succ, i64_w, i32_w]
                       rfl
                      refine pure_ (i := 26) (N := some 8) (v := ?_) (a' := ?_) #[true, true, true, true, true, true, true, true, true, true, true, true, true, true, true, true, true, true, true, true, true, true, true, true, true, true, true] rfl rfl (any_of HT_.out (by kernel_rfl)) (fun _ _ _ h => h) (Or.inl ⟨by rfl, ?_⟩) ?_ ?_
                      rotate_left
                      ·intro w'
                       go_simp
                       with_reducible rfl
                      rotate_left
                      ·simp only [Act.put, List.setIfInBounds_toArray, List.set_cons_zero, List.set_cons_succ, i64_w, i32_w]
                       rfl
                      refine done_ (done_of HT_.out (by kernel_rfl)) ?_
                      try go_wp2
                      go_roundg k1
                      case measure => have := HK1.out; omega
                      case rel => exact ⟨(((((((x8_1 ++ t237) ++ t238) ++ t239) ++ t243) ++ t244) ++ (((((t211 ++ t212) ++ t213) ++ t214) ++ t215) ++ t216)) ++ t245), (wrap64 (x15_1 + 1)), (by first | rfl | (simp; done) | (simp [*]; done) | (congr 1; rw [Bool.eq_iff_iff]; simp [bne]; done) | (rw [Bool.eq_iff_iff]; simp [bne]; done)), (by first | rfl | (simp; done) | (simp [*]; done) | (congr 1; rw [Bool.eq_iff_iff]; simp [bne]; done) | (rw [Bool.eq_iff_iff]; simp [bne]; done)), H', ⟨by have := HK1.out; omega⟩, ⟨by repeat (first | (with_reducible first | exact HB.out | apply below_alloc | apply pw_below_drewN | apply below_drew1) | exact HB.out)⟩⟩
                     ·rw [if_neg c98] at H
                      exact absurd H (by simp)
                    ·rw [if_neg c96] at H
                     exact absurd H (by simp)
                   ·rw [if_neg c95] at H
                    exact absurd H (by simp)
                  ·rw [if_neg c93] at H
                   exact absurd H (by simp)
                 ·rw [if_neg c91] at H
                  exact absurd H (by simp)
                ·rw [if_neg c89] at H
                 exact absurd H (by simp)
               ·rw [if_neg c87] at H
                exact absurd H (by simp)
              ·rw [if_neg c85] at H
               have c85b0 : decide (x15_1 < (wrap64 (250 + (Int.tmod (wrap64 (a0)) 12)))) = false := decide_eq_false c85
               clear c85
               replace H := Option.bind_eq_some_iff.mp H
               obtain ⟨t236, A1100, H⟩ := H
               replace H : (if x8_1.size + t236.size ≤ 9223372036854775807 then (shelfmarklaw11_ParseLimits.j3 k1 (x8_1 ++ t236) (decide ((wrap64 (250 + (Int.tmod (wrap64 (a0)) 12))) ≤ 256))) else (none)) = some r := H
               have A110 := Aside0.mk A1100
               clear A1100
               by_cases c111 : x8_1.size + t236.size ≤ 9223372036854775807
               ·rw [if_pos c111] at H
                have c111b0 := eq_true c111
                have c111b1 : decide (x8_1.size + t236.size ≤ 9223372036854775807) = true := decide_eq_true c111
                try have c111b2 : (9223372036854775807 < x8_1.size + t236.size) = False := eq_false (Nat.not_lt.2 c111)
                have H' := Aside0.mk H
                clear H
                go_wp2_with (first | ((with_reducible refine gate_callee (f := 21) rfl ?_); refine goesL_ (some 77) rfl rfl Tryd.func21 (by kernel_rfl) rfl #[.string (⟨#[41]⟩ : ByteArray)] rfl (by (try simp only [List.map_toArray, List.map_cons, List.map_nil]); first | done | rfl | (simp only [List.length_drop, List.length_take]; rfl)) ?_; (with_reducible refine (shelfmarkref10_Str.calls k1 (⟨#[41]⟩ : ByteArray) t236 _ A110.out).mono ?_); rintro e w112 ⟨rfl, hb⟩; refine ⟨_, rfl, ?_⟩; have n0_ := Aside0.mk (below_step (by repeat (first | (with_reducible first | exact HB.out | apply below_alloc | apply pw_below_drewN | apply below_drew1) | exact HB.out)) hb); clear HB; have HB := n0_; clear n0_; (try clear hb); (try clear hb2); (try clear hk); (try clear hi)))
                go_meet
                case rel => exact ⟨_, (x8_1 ++ t236), (decide ((wrap64 (250 + (Int.tmod (wrap64 (a0)) 12))) ≤ 256)), (by first | rfl | (simp; done) | (simp [*]; done) | (congr 1; rw [Bool.eq_iff_iff]; simp [bne]; done) | (rw [Bool.eq_iff_iff]; simp [bne]; done)), (by first | rfl | (simp; done) | (simp [*]; done) | (congr 1; rw [Bool.eq_iff_iff]; simp [bne]; done) | (rw [Bool.eq_iff_iff]; simp [bne]; done)), H', ⟨by have := HK1.out; first | omega | exact Nat.le_refl _⟩, ⟨by repeat (first | (with_reducible first | exact HB.out | apply below_alloc | apply pw_below_drewN | apply below_drew1) | exact HB.out)⟩⟩
               ·rw [if_neg c111] at H
                exact absurd H (by simp)
           ·rw [if_neg c84] at H
            exact absurd H (by simp)
        case rest =>
         clear HC20
         try clear c1
         try clear hcv1
         try clear c2
         try clear p2
         try clear p6
         try clear c8
         try clear c9
         try clear hcv10
         try clear c11
         try clear c21
         try clear p64
         try clear c84
         try clear c85
         try clear c85b0
         try clear c87
         try clear c89
         try clear c91
         try clear c93
         try clear c95
         try clear c96
         try clear c98
         try clear hcv104
         try clear hcv105
         try clear hcv106
         try clear c111
         try clear c111b0
         try clear c111b1
         try clear c111b2
         obtain ⟨kq, x8_19, x9_19, rfl, rfl, HA, HJ19, HB⟩ := hcut
         cases kq with
         | zero => exact absurd HA.out (by simp [shelfmarklaw11_ParseLimits.j3])
         | succ kj19 =>
          have H := HA.out
          clear HA
          simp only [shelfmarklaw11_ParseLimits.j3] at H
          replace H := Option.bind_eq_some_iff.mp H
          obtain ⟨⟨t246, t247⟩, A1130, H⟩ := H
          replace H : ((shelfmarklaw1_Err.f t247).bind fun t250 => (if ((t250 == 0) == x9_19) = true then (if x9_19 = true then ((shelfmarklaw11_awake.f kj19).bind fun t251 => (some t251)) else ((shelfmarklaw1_Err.f t247).bind fun t252 => (if t252 = 4 then (if (t246.length : Int) = 0 then ((shelfmarklaw11_awake.f kj19).bind fun t253 => (some t253)) else (some false)) else (some false)))) else (some false))) = some r := H
          have A113 := Aside0.mk A1130
          clear A1130
          replace H := Option.bind_eq_some_iff.mp H
          obtain ⟨t250, A1140, H⟩ := H
          replace H : (if ((t250 == 0) == x9_19) = true then (if x9_19 = true then ((shelfmarklaw11_awake.f kj19).bind fun t251 => (some t251)) else ((shelfmarklaw1_Err.f t247).bind fun t252 => (if t252 = 4 then (if (t246.length : Int) = 0 then ((shelfmarklaw11_awake.f kj19).bind fun t253 => (some t253)) else (some false)) else (some false)))) else (some false)) = some r := H
          have A114 := Aside0.mk A1140
          clear A1140
          by_cases c115 : ((t250 == 0) == x9_19) = true
          ·rw [if_pos c115] at H
           have c115b0 : ((t250 == 0) == x9_19) = true := c115
           (try (have c115b1 : decide ((t250 == 0) = x9_19) = true := by simpa using c115))
           (try (have c115b2 : ((t250 == 0) == x9_19) = true := by simpa using c115))
           clear c115
           by_cases c116 : x9_19 = true
           ·subst c116
            have H1 : ((shelfmarklaw11_awake.f kj19).bind fun t251 => (some t251)) = some r := by rw [if_pos rfl] at H; exact H
            clear H
            have H := H1
            clear H1
            replace H := Option.bind_eq_some_iff.mp H
            obtain ⟨t251, A1170, H⟩ := H
            replace H : (some t251) = some r := H
            have A117 := Aside0.mk A1170
            clear A1170
            obtain rfl := Option.some.inj H
            go_wp2_with (first | ((with_reducible refine gate_callee (f := 14) rfl ?_); refine goesL_ (some 146) rfl rfl Tryd.func14 (by kernel_rfl) rfl #[.string x8_19] rfl (by (try simp only [List.map_toArray, List.map_cons, List.map_nil]); first | done | rfl | (simp only [List.length_drop, List.length_take]; rfl)) ?_; (with_reducible refine (parse_Get.calls x8_19 t246 t247 _ A113.out).mono ?_); rintro e w118 ⟨v248, rfl, ho0, hb⟩; refine ⟨_, rfl, ?_⟩; have n0_ := Aside0.mk (Kd.R_lower ho0 (below_size (by repeat (first | (with_reducible first | exact HB.out | apply below_alloc | apply pw_below_drewN | apply below_drew1) | exact HB.out)))); have n1_ := Aside0.mk (below_step (by repeat (first | (with_reducible first | exact HB.out | apply below_alloc | apply pw_below_drewN | apply below_drew1) | exact HB.out)) hb); clear HB; have HO249 := n0_; have HB := n1_; clear n0_ n1_; (try clear hb); (try clear hb2); (try clear hk); (try clear hi); (try clear ho0)) | ((with_reducible refine gate_callee (f := 17) rfl ?_); refine goesL_ (some 150) rfl rfl Tryd.func17 (by kernel_rfl) rfl #[.int .i64 t247] rfl (by (try simp only [List.map_toArray, List.map_cons, List.map_nil]); first | done | rfl | (simp only [List.length_drop, List.length_take]; rfl)) ?_; (with_reducible refine (shelfmarklaw1_Err.calls t247 t250 _ A114.out).mono ?_); rintro e w' ⟨rfl, ⟨nd, rfl⟩⟩; refine ⟨_, rfl, ?_⟩) | (go_at_call 13; (with_reducible refine (shelfmarklaw11_awake.calls kj19  t251 _ A117.out).mono ?_); rintro e w119 ⟨rfl, hb⟩; have n0_ := Aside0.mk (Kd.R_below (by (with_reducible repeat (first | apply Kd.R_alloc | apply Kd.R_drewN | apply Kd.R_drew)); exact HO249.out) hb); have n1_ := Aside0.mk (below_step (by repeat (first | (with_reducible first | exact HB.out | apply below_alloc | apply pw_below_drewN | apply below_drew1) | exact HB.out)) hb); clear HO249; clear HB; have HO249 := n0_; have HB := n1_; clear n0_ n1_; (try clear hb); (try clear hb2); (try clear hk); (try clear hi)))
            go_ret
            exact ⟨by first | rfl | (simp [errW_none, errW_some] <;> rfl) | (simp [*, errW_none, errW_some] <;> rfl), by repeat (first | (with_reducible first | exact HB.out | apply below_alloc | apply pw_below_drewN | apply below_drew1) | exact HB.out)⟩
           ·replace c116 := Bool.eq_false_iff.mpr c116
            subst c116
            have H1 : ((shelfmarklaw1_Err.f t247).bind fun t252 => (if t252 = 4 then (if (t246.length : Int) = 0 then ((shelfmarklaw11_awake.f kj19).bind fun t253 => (some t253)) else (some false)) else (some false))) = some r := by rw [if_neg (show ¬ (false = true) by decide)] at H; exact H
            clear H
            have H := H1
            clear H1
            replace H := Option.bind_eq_some_iff.mp H
            obtain ⟨t252, A1200, H⟩ := H
            replace H : (if t252 = 4 then (if (t246.length : Int) = 0 then ((shelfmarklaw11_awake.f kj19).bind fun t253 => (some t253)) else (some false)) else (some false)) = some r := H
            have A120 := Aside0.mk A1200
            clear A1200
            by_cases c121 : t252 = 4
            ·rw [if_pos c121] at H
             have c121b0 : (t252 == 4) = true := beq_iff_eq.mpr c121
             have c121b1 : (t252 != 4) = false := bne_eq_false_iff_eq.mpr c121
             clear c121
             by_cases c122 : (t246.length : Int) = 0
             ·rw [if_pos c122] at H
              have c122b0 : ((t246.length : Int) == 0) = true := beq_iff_eq.mpr c122
              have c122b1 : ((t246.length : Int) != 0) = false := bne_eq_false_iff_eq.mpr c122
              clear c122
              replace H := Option.bind_eq_some_iff.mp H
              obtain ⟨t253, A1230, H⟩ := H
              replace H : (some t253) = some r := H
              have A123 := Aside0.mk A1230
              clear A1230
              obtain rfl := Option.some.inj H
              go_wp2_with (first | ((with_reducible refine gate_callee (f := 14) rfl ?_); refine goesL_ (some 146) rfl rfl Tryd.func14 (by kernel_rfl) rfl #[.string x8_19] rfl (by (try simp only [List.map_toArray, List.map_cons, List.map_nil]); first | done | rfl | (simp only [List.length_drop, List.length_take]; rfl)) ?_; (with_reducible refine (parse_Get.calls x8_19 t246 t247 _ A113.out).mono ?_); rintro e w124 ⟨v248, rfl, ho0, hb⟩; refine ⟨_, rfl, ?_⟩; have n0_ := Aside0.mk (Kd.R_lower ho0 (below_size (by repeat (first | (with_reducible first | exact HB.out | apply below_alloc | apply pw_below_drewN | apply below_drew1) | exact HB.out)))); have n1_ := Aside0.mk (below_step (by repeat (first | (with_reducible first | exact HB.out | apply below_alloc | apply pw_below_drewN | apply below_drew1) | exact HB.out)) hb); clear HB; have HO249 := n0_; have HB := n1_; clear n0_ n1_; (try clear hb); (try clear hb2); (try clear hk); (try clear hi); (try clear ho0)) | ((with_reducible refine gate_callee (f := 17) rfl ?_); refine goesL_ (some 150) rfl rfl Tryd.func17 (by kernel_rfl) rfl #[.int .i64 t247] rfl (by (try simp only [List.map_toArray, List.map_cons, List.map_nil]); first | done | rfl | (simp only [List.length_drop, List.length_take]; rfl)) ?_; (with_reducible refine (shelfmarklaw1_Err.calls t247 t250 _ A114.out).mono ?_); rintro e w' ⟨rfl, ⟨nd, rfl⟩⟩; refine ⟨_, rfl, ?_⟩) | (go_at_call 17; (with_reducible refine (shelfmarklaw1_Err.calls t247 t252 _ A120.out).mono ?_); rintro e w' ⟨rfl, ⟨nd, rfl⟩⟩; obtain ⟨Ao125, co125, eo125⟩ := Kd.R_slice HO249.out; subst eo125) | (go_at_call 13; (with_reducible refine (shelfmarklaw11_awake.calls kj19  t253 _ A123.out).mono ?_); rintro e w126 ⟨rfl, hb⟩; have n0_ := Aside0.mk (Kd.R_below (by (with_reducible repeat (first | apply Kd.R_alloc | apply Kd.R_drewN | apply Kd.R_drew)); exact HO249.out) hb); have n1_ := Aside0.mk (below_step (by repeat (first | (with_reducible first | exact HB.out | apply below_alloc | apply pw_below_drewN | apply below_drew1) | exact HB.out)) hb); clear HO249; clear HB; have HO249 := n0_; have HB := n1_; clear n0_ n1_; (try clear hb); (try clear hb2); (try clear hk); (try clear hi)))
              go_ret
              exact ⟨by first | rfl | (simp [errW_none, errW_some] <;> rfl) | (simp [*, errW_none, errW_some] <;> rfl), by repeat (first | (with_reducible first | exact HB.out | apply below_alloc | apply pw_below_drewN | apply below_drew1) | exact HB.out)⟩
             ·rw [if_neg c122] at H
              have c122b0 : ((t246.length : Int) == 0) = false := beq_eq_false_iff_ne.mpr c122
              have c122b1 : ((t246.length : Int) != 0) = true := bne_iff_ne.mpr c122
              have c122b2 : ¬ (t246 = []) := fun h_ => c122 (by rw [h_]; rfl)
              obtain rfl := Option.some.inj H
              cases hr
            ·rw [if_neg c121] at H
             have c121b0 : (t252 == 4) = false := beq_eq_false_iff_ne.mpr c121
             have c121b1 : (t252 != 4) = true := bne_iff_ne.mpr c121
             obtain rfl := Option.some.inj H
             cases hr
          ·rw [if_neg c115] at H
           have c115b0 : ((t250 == 0) == x9_19) = false := by simpa using c115
           (try (have c115b1 : decide ((t250 == 0) = x9_19) = false := by simpa using c115))
           (try (have c115b2 : ((t250 == 0) == x9_19) = false := by simpa using c115))
           (try (have c115b3 : ¬ ((t250 == 0) = x9_19) := by simpa using c115))
           clear c115
           obtain rfl := Option.some.inj H
           cases hr
       ·rw [if_neg c19] at H
        exact absurd H (by simp)
      ·rw [if_neg c17] at H
       exact absurd H (by simp)
     ·rw [if_neg c14] at H
      exact absurd H (by simp)
    ·rw [if_neg c12] at H
     exact absurd H (by simp)
   ·rw [if_neg c10] at H
    exact absurd H (by simp)
  ·rw [if_neg c8] at H
   exact absurd H (by simp)
 ·rw [if_neg c6] at H
  exact absurd H (by simp)
def shelfmarklaw11_ParseLimits.Pure : Prop := ∀ (a0 : Int) (a1 : Int), (Lit.int .u8 a0).wf = true → (Lit.int .u8 a1).wf = true → ∃ k, shelfmarklaw11_ParseLimits.f k a0 a1 = some true
theorem shelfmarklaw11_ParseLimits.walk (P : shelfmarklaw11_ParseLimits.Pure) (a0 : Int) (a1 : Int) (w : World) (w0 : (Lit.int .u8 a0).wf = true) (w1 : (Lit.int .u8 a1).wf = true) :
    Calls Tryd.prog 7 #[.int .u8 a0, .int .u8 a1] w fun e w' => e = .returned (.bool true) ∧ Below w.heap.size w w' := by
  obtain ⟨k, h⟩ := P a0 a1 w0 w1
  refine (shelfmarklaw11_ParseLimits.calls k a0 a1 true w h).mono ?_
  rintro e w' ⟨rfl, hd⟩
  exact ⟨rfl, hd⟩
end Go.Proofs.YtncokgdfkbgflaaDoor.P
