import Derived.Test.YtgbhimkbfaebeaaGreatDoorAbsW
namespace Go.Abs
set_option linter.unusedVariables false
set_option linter.unusedSimpArgs false
set_option linter.unnecessarySimpa false
def bytesI (b : ByteArray) : List Int := b.data.toList.map fun c => (c.toNat : Int)
def strI (xs : List Int) : ByteArray := ⟨(xs.map fun n => UInt8.ofNat n.toNat).toArray⟩
theorem bytesV_I (b : ByteArray) : bytesV b = (bytesI b).map (eK .u8) := by
 unfold bytesV bytesI
 rw [List.map_map]
 rfl
theorem strV_I (xs : List Int) : strV (xs.map (eK .u8)) = some (strI xs) := by
 have : bytesOfV (xs.map (eK .u8)) = some (xs.map fun n => UInt8.ofNat n.toNat) := by
  induction xs with
  | nil => rfl
  | cons x r ih => simp only [List.map_cons, bytesOfV, ih, byteV, eK]
 unfold strV
 rw [this]
 rfl
theorem app_str {T : Nat → Option TI} {h : List AObj} {t t' : Nat} {s : D} {b : ByteArray} {r : Option (D × List AObj)} (ht : (T t').map (·.kind) = some .str)
  (ha : appendD T false t h s (.v (.sl .plain ((bytesI b).map (eK .u8)))) = r) : appendStrD T false t t' h s (.v (.str b)) = r := by
 obtain ⟨i, h1, h2⟩ := Option.map_eq_some_iff.1 ht
 simp only [appendStrD, h1, h2]
 rw [bytesV_I]
 exact ha
theorem conv_d {T : Nat → Option TI} (h : List AObj) (src dst e : Nat) (d : D) (xs : List Int) (hd : d.unt = .v (.sl (dfl d) (xs.map (eK .u8)))) (hs : (T src).map (·.kind) = some (.slice e))
  (he : (T e).map (·.kind) = some (.int .u8)) (ht : (T dst).map (·.kind) = some .str) : (convD T src dst (D.unt d)).map (·, h) = some (.v (.str (strI xs)), h) := by
 obtain ⟨i, h1, h2⟩ := Option.map_eq_some_iff.1 hs
 obtain ⟨j, h3, h4⟩ := Option.map_eq_some_iff.1 he
 obtain ⟨k, h5, h6⟩ := Option.map_eq_some_iff.1 ht
 rw [hd]
 simp only [convD, h1, h5, h2, h6, h3, h4, strV_I, Option.map_some]
theorem conv_r {T : Nat → Option TI} (h : List AObj) (src dst e : Nat) (fl : SFlag) (xs : List Int) (hs : (T src).map (·.kind) = some (.slice e))
  (he : (T e).map (·.kind) = some (.int .u8)) (ht : (T dst).map (·.kind) = some .str) : (convD T src dst (D.unt (.v (.sl fl (xs.map (eK .u8)))))).map (·, h) = some (.v (.str (strI xs)), h) :=
 conv_d h src dst e (.v (.sl fl (xs.map (eK .u8)))) xs rfl hs he ht
end Go.Abs
