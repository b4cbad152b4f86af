import Derived.Test.YtgbhimkbfaebeaaGreatDoorP7
import Derived.Test.YtgbhimkbfaebeaaGreatDoorP6
namespace Go.Abs.Lx
open Go.Lib
set_option linter.unusedVariables false
set_option linter.unusedSimpArgs false
set_option linter.unnecessarySimpa false
set_option maxRecDepth 100000
def dogL : List S44 := [⟨⟨#[114, 111, 111, 116]⟩, [⟨⟨#[100, 111, 103]⟩, ⟨#[100, 111, 103]⟩, [⟨#[110]⟩], 1, 0⟩]⟩, ⟨⟨#[110, 117, 109, 98, 101, 114]⟩, [⟨ByteArray.empty, ByteArray.empty, [⟨#[115, 103]⟩], -1, 0⟩, ⟨ByteArray.empty, ⟨#[115]⟩, [⟨#[112, 108]⟩], -1, 2⟩]⟩]
theorem f17_dogs (m : Nat) : f17 m = some ⟨dogL⟩ := rfl
theorem lexF_dogs : (lexF dogL).fCode = 0 := by decide +kernel
theorem itoa_small {k : Nat} (h : k < 10) : itoa (k : Int) = [UInt8.ofNat (48 + k)] := by
 rw [itoa_nonneg, decDigits_one h]
theorem text_dogs : textT dogL = [99, 108, 97, 115, 115, 32, 114, 111, 111, 116, 10, 105, 116, 101, 109, 32, 40, 100, 111, 103, 41, 40, 100, 111, 103, 41, 91, 110, 93, 32, 49, 32, 48, 10, 99, 108, 97, 115, 115, 32, 110, 117, 109, 98, 101, 114, 10, 105, 116, 101, 109, 32, 40, 41, 40, 41, 91, 115, 103, 93, 32, 45, 49, 32, 48, 10, 105, 116, 101, 109, 32, 40, 41, 40, 115, 41, 91, 112, 108, 93, 32, 45, 49, 32, 50, 10] := by
 have i0 : itoa 0 = [48] := itoa_small (k := 0) (by omega)
 have i1 : itoa 1 = [49] := itoa_small (k := 1) (by omega)
 have i2 : itoa 2 = [50] := itoa_small (k := 2) (by omega)
 have im : itoa (-1) = [45, 49] := by
  have := itoa_neg 1 (by omega)
  rw [decDigits_one (by omega)] at this
  exact this
 simp only [textT, classT, dogL, itemT, itemR, List.flatMap_cons, List.flatMap_nil, i0, i1, i2, im, clsT, itmT]
 rfl
abbrev nB : ByteArray := ⟨#[110]⟩
abbrev plB : ByteArray := ⟨#[112, 108]⟩
abbrev sgB : ByteArray := ⟨#[115, 103]⟩
theorem tags_dogs : compactS (sortS [nB, sgB, plB]) = [nB, plB, sgB] := by
 obtain ⟨h1, h2⟩ := setS_spec [nB, sgB, plB]
 refine ss_ext h1 ?_ fun x => ?_
 ·unfold SS
  refine List.Pairwise.cons ?_ (List.Pairwise.cons ?_ (List.Pairwise.cons ?_ .nil))
  ·intro x hx
   simp only [List.mem_cons, List.not_mem_nil, or_false] at hx
   rcases hx with rfl | rfl <;> decide
  ·intro x hx
   simp only [List.mem_cons, List.not_mem_nil, or_false] at hx
   rcases hx with rfl
   decide
  ·intro x hx; cases hx
 ·rw [h2]
  simp only [List.mem_cons, List.not_mem_nil, or_false]
  constructor
  ·rintro (h | h | h)
   ·exact .inl h
   ·exact .inr (.inr h)
   ·exact .inr (.inl h)
  ·rintro (h | h | h)
   ·exact .inl h
   ·exact .inr (.inr h)
   ·exact .inr (.inl h)
theorem f22_dogs (k : Nat) : f22 (k + 4) ⟨dogL⟩ = some [nB, plB, sgB] := by
 have h : iter (fun (y : (List ByteArray) × Int) => f22_B2 (k + 4) ⟨dogL⟩ y.1 y.2) (k + 4) ([], 0) = some (.inr ([nB, sgB, plB], 2)) := rfl
 unfold f22
 rw [h]
 rw [brk_inr]
 have hs : srt [nB, sgB, plB] = some (sortS [nB, sgB, plB]) := if_pos (by decide)
 show bnd (srt [nB, sgB, plB]) (fun v86 => some (compactS v86)) = _
 rw [hs, bnd_some', tags_dogs]
theorem f8_dogs (m : Nat) (hm : 4001 < m) : f8 m ⟨dogL⟩ = some ([nB, plB, sgB], ⟨0, 0⟩) := by
 obtain ⟨k, rfl⟩ : ∃ k, m = k + 4 := ⟨m - 4, by omega⟩
 have hz := (lexF_ok lexF_dogs).2
 unfold f8
 rw [f11_eq _ _ hm]
 show bnd (some (lexF dogL)) _ = _
 rw [hz, bnd_some', f22_dogs k]
 rfl
theorem told_eq (m : Nat) (hm : 4001 < m) : f6 m = some true := by
 have hz := (lexF_ok lexF_dogs).2
 have hv := lexV_of lexF_dogs
 have ht : (textT dogL).length ≤ 4000 := by rw [text_dogs]; decide
 have hp : f14 m (⟨(textT dogL).toArray⟩ : ByteArray) = some (⟨dogL⟩, ⟨0, 0⟩) := parse_text MM (by unfold MM; omega) dogL lexF_dogs ht
 have he : f16 m (⟨dogL⟩ : S23) (⟨dogL⟩ : S23) = some true := lex_self MM dogL hv (by unfold MM; omega)
 have h12 := f12_self m [nB, plB, sgB] (by show 3 < m; omega) (by decide)
 unfold f6
 rw [f17_dogs, bnd_some', print_eq m _ hm]
 show bnd (if (lexF dogL).fCode = 0 then (if (textT dogL).length ≤ 4000 then some ((⟨(textT dogL).toArray⟩ : ByteArray), (⟨0, 0⟩ : S26)) else some (⟨#[]⟩, ⟨1, -1⟩)) else some (⟨#[]⟩, lexF dogL)) _ = _
 rw [if_pos lexF_dogs, if_pos ht, bnd_some']
 show bnd (f14 m (⟨(textT dogL).toArray⟩ : ByteArray)) _ = _
 rw [hp, bnd_some', bnd_some', f8_dogs m hm, bnd_some']
 unfold f6_r5 f6_r4
 rw [text_dogs]
 have hb : ∀ (a : ByteArray), (a.toList == a.toList) = true := fun a => by simp
 show f6_r3 m ((⟨dogL⟩ : S23), (⟨0, 0⟩ : S26)) ([nB, plB, sgB], (⟨0, 0⟩ : S26)) (true && ((B _).toList == (B _).toList)) = _
 rw [hb]
 unfold f6_r3
 rw [show (true && true) = true from rfl, cnd_true, f17_dogs, bnd_some']
 show bnd (bnd (f16 m (⟨dogL⟩ : S23) (⟨dogL⟩ : S23)) fun v47 => some v47) _ = _
 rw [he]
 show f6_r2 m ([nB, plB, sgB], (⟨0, 0⟩ : S26)) true = _
 unfold f6_r2
 rw [cnd_true]
 show bnd (bnd (f12 m [nB, plB, sgB] [nB, plB, sgB]) fun v45 => some v45) _ = _
 rw [h12]
 rfl
end Go.Abs.Lx
