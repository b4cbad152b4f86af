import Derived.Test.YtgbhimkbfaebeaaGreatDoorP2
import Derived.Test.YtgbhimkbfaebeaaGreatDoorWF3
namespace Go.Abs.Lx
open Go.Lib
set_option linter.unusedVariables false
set_option linter.unusedSimpArgs false
set_option linter.unnecessarySimpa false
set_option maxRecDepth 100000
abbrev L (s : ByteArray) : List UInt8 := s.data.toList
theorem ptsB_low : ∀ (n : Nat) (l P : List Nat), l.length ≤ n → ptsB l = some P → ∀ b ∈ l, b < 128 → b ∈ P
 | 0, l, P, hn, h, b, hb, _ => by
  rw [List.length_eq_zero_iff.1 (Nat.le_zero.1 hn)] at hb
  cases hb
 | n + 1, l, P, hn, h, b, hb, hlt => by
  cases l with
  | nil => cases hb
  | cons x r =>
   cases hq : oneN (x :: r) with
   | none => rw [ptsB_bad (by simp) hq] at h; cases h
   | some y =>
    obtain ⟨p, w⟩ := y
    rw [ptsB_one hq] at h
    obtain ⟨P', hP, rfl⟩ := Option.map_eq_some_iff.1 h
    have ih := ptsB_low n ((x :: r).drop w) P' (by
     have := (oneN_One hq).width
     rw [List.length_drop]; simp only [List.length_cons] at hn ⊢; omega) hP b
    have h1 := oneN_One hq
    cases h1 with
    | w1 b0 r h =>
     rcases List.mem_cons.1 hb with rfl | hb
     ·exact List.mem_cons_self
     ·exact List.mem_cons_of_mem _ (ih hb hlt)
    | w2 b0 b1 r h h1 =>
     simp only [List.mem_cons] at hb
     rcases hb with rfl | rfl | hb
     ·omega
     ·omega
     ·exact List.mem_cons_of_mem _ (ih hb hlt)
    | w3 b0 b1 b2 r h h1 h2 =>
     simp only [List.mem_cons] at hb
     rcases hb with rfl | rfl | rfl | hb
     ·omega
     ·omega
     ·omega
     ·exact List.mem_cons_of_mem _ (ih hb hlt)
    | w4 b0 b1 b2 b3 r h h1 h2 h3 =>
     simp only [List.mem_cons] at hb
     rcases hb with rfl | rfl | rfl | rfl | hb
     ·omega
     ·omega
     ·omega
     ·omega
     ·exact List.mem_cons_of_mem _ (ih hb hlt)
theorem word_bytes {s : ByteArray} (h : wordS s = true) : s.size ≤ 120 ∧ ∀ c ∈ L s, c.toNat ∉ [0, 9, 10, 32, 40, 41, 91, 93, 44, 59] := by
 unfold wordS at h
 rw [Bool.and_eq_true] at h
 obtain ⟨h1, h2⟩ := h
 split at h2
 case h_2 => cases h2
 rename_i P hP
 unfold okP at h2
 rw [Bool.and_eq_true, decide_eq_true_eq] at h2
 have hlen := ptsS_len hP
 refine ⟨by omega, fun c hc hm => ?_⟩
 have hb : c.toNat ∈ bytN s := List.mem_map.2 ⟨c, hc, rfl⟩
 have hlt : c.toNat < 128 := by
  simp only [List.mem_cons, List.not_mem_nil, or_false] at hm
  omega
 have hin := ptsB_low _ _ _ (Nat.le_refl _) hP c.toNat hb hlt
 have hbad := List.all_eq_true.1 h2.2 _ hin
 unfold badP at hbad
 rw [List.contains_iff_mem.2 hm] at hbad
 simp at hbad
theorem part_bytes {s : ByteArray} (h : partS s = true) : s.size ≤ 120 ∧ ∀ c ∈ L s, c.toNat ∉ [0, 9, 10, 32, 40, 41, 91, 93, 44, 59] := by
 unfold partS at h
 rw [Bool.or_eq_true, decide_eq_true_eq] at h
 rcases h with rfl | h
 ·exact ⟨by decide, fun c hc => by cases hc⟩
 ·exact word_bytes h
theorem allP_mem {α : Type} {P : Int → α → Bool} : ∀ {xs : List α} {i : Int}, allP P i xs = true → ∀ x ∈ xs, ∃ j, P j x = true
 | [], _, _, x, hx => by cases hx
 | y :: r, i, h, x, hx => by
  unfold allP at h
  rw [Bool.and_eq_true] at h
  rcases List.mem_cons.1 hx with rfl | hx
  ·exact ⟨i, h.1⟩
  ·exact allP_mem h.2 x hx
def nmC (c : UInt8) : Bool := decide (97 ≤ c.toNat ∧ c.toNat ≤ 122) || decide (48 ≤ c.toNat ∧ c.toNat ≤ 57) || c.toNat == 95 || c.toNat == 45
theorem name_bytes {s : ByteArray} (h : nameS s = true) : (1 ≤ s.size ∧ s.size ≤ 30) ∧ ∀ c ∈ L s, nmC c = true := by
 unfold nameS at h
 rw [Bool.and_eq_true, decide_eq_true_eq] at h
 refine ⟨h.1, fun c hc => ?_⟩
 obtain ⟨j, hj⟩ := allP_mem h.2 (c.toNat : Int) (List.mem_map.2 ⟨c, hc, rfl⟩)
 unfold letB nameB letB at hj
 unfold nmC
 simp only [Bool.or_eq_true, Bool.and_eq_true, decide_eq_true_eq, beq_iff_eq, bne_iff_ne, ne_eq] at hj ⊢
 omega
structure ItV (n : Nat) (x : S46) : Prop where
 base : partS x.fBase = true
 form : partS x.fForm = true
 few : x.fTags.length ≤ 4
 tags : ∀ t ∈ x.fTags, nameS t = true
 next : -1 ≤ x.fNext ∧ x.fNext < n
 wt : 0 ≤ x.fWeight ∧ x.fWeight ≤ 1000000
theorem itV_of {n : Nat} {x : S46} (h : itemBad n x = 0) : ItV n x := by
 unfold itemBad at h
 split at h
 ·cases h
 rename_i h1
 split at h
 ·cases h
 rename_i h2
 split at h
 ·cases h
 rename_i h3
 split at h
 ·cases h
 rename_i h4
 simp only [Bool.not_eq_true', Bool.not_eq_false, Bool.and_eq_true] at h1
 have h3 : x.fTags.all nameS = true := by simpa using h3
 exact ⟨h1.1, h1.2, by omega, fun t ht => List.all_eq_true.1 h3 t ht, by omega, by omega⟩
structure LexV (l : List S44) : Prop where
 len : 1 ≤ l.length ∧ l.length ≤ 40
 name : ∀ c ∈ l, nameS c.fName = true
 items : ∀ c ∈ l, c.fItems.length ≤ 100
 item : ∀ c ∈ l, ∀ x ∈ c.fItems, ItV l.length x
theorem lexV_of {l : List S44} (h : (lexF l).fCode = 0) : LexV l := by
 obtain ⟨h1, _⟩ := lexF_ok h
 refine ⟨h1.len, fun c hc => ?_, h1.items, fun c hc x hx => itV_of (h1.item c hc x hx)⟩
 unfold lexF at h
 rw [if_neg (by have := h1.len; omega)] at h
 obtain ⟨j, hj⟩ := List.getElem?_of_mem hc
 have := (lexFrom_zero l l 0 h).2 j c hj
 unfold classBad at this
 split at this
 ·cases this
 ·rename_i hn
  simpa using hn
def clsT : List UInt8 := [99, 108, 97, 115, 115, 32]
def itmT : List UInt8 := [105, 116, 101, 109, 32]
def itemR (x : S46) : List UInt8 := L x.fBase ++ ([41, 40] ++ (L x.fForm ++ ([41, 91] ++ (Lib.join (x.fTags.map L) [44] ++ ([93, 32] ++ (itoa x.fNext ++ ([32] ++ itoa x.fWeight)))))))
def itemT (x : S46) : List UInt8 := itmT ++ ([40] ++ itemR x)
def classT (c : S44) : List UInt8 := clsT ++ L c.fName ++ [10] ++ c.fItems.flatMap fun x => itemT x ++ [10]
def textT (l : List S44) : List UInt8 := l.flatMap classT
def ints (l : List UInt8) : List Int := l.map fun c => (c.toNat : Int)
theorem L_app (a b : ByteArray) : L (a ++ b) = L a ++ L b := by
 show (a ++ b).data.toList = a.data.toList ++ b.data.toList
 rw [ByteArray.data_append]
 simp
theorem L_size (a : ByteArray) : (L a).length = a.size := by show a.data.toList.length = _; rw [Array.length_toList]; rfl
theorem L_inj {a b : ByteArray} (h : L a = L b) : a = b := by
 cases a; cases b
 have h : _ = _ := h
 congr 1
 exact Array.toList_inj.1 h
theorem scat_some {a b : ByteArray} (h : a.size + b.size ≤ 1000000000) : scat a b = some (a ++ b) := by
 unfold scat
 rw [if_pos (by unfold maxLen; omega)]
theorem ints_app (a b : List UInt8) : ints (a ++ b) = ints a ++ ints b := by unfold ints; rw [List.map_append]
theorem ints_len (a : List UInt8) : (ints a).length = a.length := by unfold ints; rw [List.length_map]
theorem bytesI_L (b : ByteArray) : bytesI b = ints (L b) := rfl
theorem strI_ints (l : List UInt8) : strI (ints l) = ⟨l.toArray⟩ := by
 unfold strI ints
 rw [List.map_map]
 congr 2
 refine (List.map_congr_left fun c _ => ?_).trans (List.map_id l)
 simp
theorem apint_some {v : List Int} {n : Int} (hv : v ≠ []) (hl : v.length ≤ 100000000) (hn : -9223372036854775808 ≤ n ∧ n < 9223372036854775808) : apint v n = some (v ++ ints (itoa n)) := by
 cases v with
 | nil => exact absurd rfl hv
 | cons x r =>
  unfold apint
  simp only
  rw [if_pos ⟨hn, by simp only [List.length_cons] at hl; omega⟩, intI_itoa]
  rfl
theorem join_len (c : UInt8) : ∀ ps : List (List UInt8), (∀ p ∈ ps, p.length ≤ 30) → ([c].intercalate ps).length ≤ ps.length * 31
 | [], _ => by simp [List.intercalate]
 | [p], h => by
  have := h p List.mem_cons_self
  have e : [c].intercalate [p] = p := by simp [List.intercalate]
  rw [e]; simp only [List.length_cons, List.length_nil]; omega
 | p :: q :: ps, h => by
  have h1 := h p List.mem_cons_self
  have e : [c].intercalate (p :: q :: ps) = p ++ ([c] ++ [c].intercalate (q :: ps)) := by simp [List.intercalate, List.intersperse]
  have ih := join_len c (q :: ps) (fun z hz => h z (List.mem_cons_of_mem _ hz))
  rw [e]
  simp only [List.length_append, List.length_cons, List.length_nil] at ih ⊢
  omega
theorem tags_len {x : S46} {n : Nat} (h : ItV n x) : (Lib.join (x.fTags.map L) [44]).length ≤ 124 := by
 have := join_len 44 (x.fTags.map L) (fun p hp => by
  obtain ⟨t, ht, rfl⟩ := List.mem_map.1 hp
  have := (name_bytes (h.tags t ht)).1
  rw [L_size]; omega)
 rw [List.length_map] at this
 have h4 := h.few
 show ([44].intercalate (x.fTags.map L)).length ≤ _
 omega
theorem itoa_len {n : Int} (h : -1 ≤ n ∧ n ≤ 1000000) : (itoa n).length ≤ 21 := itoa_length_le n (by omega) (by omega)
theorem item_len {x : S46} {n : Nat} (h : ItV n x) (hn : n ≤ 1000000) : (itemT x).length ≤ 900 := by
 have h1 := (part_bytes h.base).1
 have h2 := (part_bytes h.form).1
 have h3 := tags_len h
 have h4 := itoa_len (n := x.fNext) ⟨h.next.1, by have := h.next.2; omega⟩
 have h5 := itoa_len (n := x.fWeight) ⟨by have := h.wt.1; omega, h.wt.2⟩
 unfold itemT itemR itmT
 simp only [List.length_append, List.length_cons, List.length_nil, L_size]
 omega
theorem print_item (m : Nat) (c : S44) (x : S46) (n i : Nat) (acc : List Int) (hx : c.fItems[i]? = some x) (h : ItV n x) (hn : n ≤ 1000000) (ha : acc.length ≤ 50000000) (hi : i ≤ 1000000) :
  f9_B1 m c acc (i : Int) = some (.nxt (acc ++ ints (itemT x ++ [10]), ((i + 1 : Nat) : Int))) := by
 have hlt := lt_of_getElem? hx
 have h1 := (part_bytes h.base).1
 have h2 := (part_bytes h.form).1
 have h3 := tags_len h
 have hix : idx c.fItems (i : Int) = some x := by simp [idx, hx]
 have hw : w64 ((i : Int) + 1) = ((i + 1 : Nat) : Int) := by rw [w64_id ⟨by omega, by omega⟩]; omega
 have hjs : (joinS x.fTags (⟨#[44]⟩ : ByteArray)).size ≤ 124 := by
  rw [← L_size]
  exact h3
 have hj : f23 m x.fTags (⟨#[44]⟩ : ByteArray) = some (joinS x.fTags (⟨#[44]⟩ : ByteArray)) := by
  show joinQ _ _ = _
  unfold joinQ
  rw [if_pos ⟨by have := h.few; omega, by
   have : (Lib.join (x.fTags.map L) [44]).length ≤ 140737488355328 := by omega
   exact this⟩]
 have s1 : (⟨#[105, 116, 101, 109, 32, 40]⟩ : ByteArray).size = 6 := rfl
 have s2 : (⟨#[41, 40]⟩ : ByteArray).size = 2 := rfl
 have s3 : (⟨#[41, 91]⟩ : ByteArray).size = 2 := rfl
 have s4 : (⟨#[93, 32]⟩ : ByteArray).size = 2 := rfl
 unfold f9_B1
 rw [decide_eq_true (by omega), cnd_true, hix, bnd_some', scat_some (by omega), bnd_some', scat_some (by rw [ByteArray.size_append]; omega), bnd_some', scat_some (by rw [ByteArray.size_append, ByteArray.size_append]; omega), bnd_some',
  scat_some (by rw [ByteArray.size_append, ByteArray.size_append, ByteArray.size_append]; omega), bnd_some', hj, bnd_some', scat_some (by rw [ByteArray.size_append, ByteArray.size_append, ByteArray.size_append, ByteArray.size_append]; omega), bnd_some',
  scat_some (by rw [ByteArray.size_append, ByteArray.size_append, ByteArray.size_append, ByteArray.size_append, ByteArray.size_append]; omega), bnd_some']
 generalize hB : ((⟨#[105, 116, 101, 109, 32, 40]⟩ : ByteArray) ++ x.fBase ++ (⟨#[41, 40]⟩ : ByteArray) ++ x.fForm ++ (⟨#[41, 91]⟩ : ByteArray) ++ joinS x.fTags (⟨#[44]⟩ : ByteArray) ++ (⟨#[93, 32]⟩ : ByteArray)) = B
 have hLB : L B = itmT ++ ([40] ++ (L x.fBase ++ ([41, 40] ++ (L x.fForm ++ ([41, 91] ++ (Lib.join (x.fTags.map L) [44] ++ [93, 32])))))) := by
  rw [← hB]
  simp only [L_app]
  have e1 : L (joinS x.fTags (⟨#[44]⟩ : ByteArray)) = Lib.join (x.fTags.map L) [44] := rfl
  rw [e1]
  simp [itmT, L]
 have hBs : (bytesI B).length ≤ 400 := by
  rw [bytesI_L, ints_len, hLB]
  simp only [List.length_append, List.length_cons, List.length_nil, L_size, itmT]
  omega
 have hBn : 0 < (bytesI B).length := by
  rw [bytesI_L, ints_len, hLB]
  simp only [List.length_append, List.length_cons, List.length_nil, itmT]
  omega
 have h4 := itoa_len (n := x.fNext) ⟨h.next.1, by have := h.next.2; omega⟩
 rw [app_some 1 acc (bytesI B) (by omega) (by omega), bnd_some', apint_some (fun e => by have := congrArg List.length e; rw [List.length_append] at this; simp only [List.length_nil] at this; omega) (by rw [List.length_append]; omega) ⟨by have := h.next.1; omega, by have := h.next.2; omega⟩, bnd_some',
  app_some 1 _ [32] (by simp only [List.length_append, ints_len, List.length_cons, List.length_nil]; omega) (by simp only [List.length_append, ints_len, List.length_cons, List.length_nil]; omega), bnd_some',
  apint_some (by simp) (by simp only [List.length_append, ints_len, List.length_cons, List.length_nil]; omega) ⟨by have := h.wt.1; omega, by have := h.wt.2; omega⟩, bnd_some']
 have h5 := itoa_len (n := x.fWeight) ⟨by have := h.wt.1; omega, h.wt.2⟩
 rw [app_some 1 _ [10] (by simp only [List.length_append, ints_len, List.length_cons, List.length_nil]; omega) (by simp only [List.length_append, ints_len, List.length_cons, List.length_nil]; omega), bnd_some', hw]
 congr 2
 congr 1
 rw [bytesI_L, hLB]
 unfold itemT itemR
 simp only [ints_app, List.append_assoc]
 rfl
theorem print_items (m : Nat) (c : S44) (n : Nat) (hv : ∀ x ∈ c.fItems, ItV n x) (hn : n ≤ 1000000) (hl : c.fItems.length ≤ 100) : ∀ (K i : Nat) (acc : List Int), i ≤ c.fItems.length → c.fItems.length - i < K → acc.length ≤ 10000000 + i * 1000 →
  iter (fun (y : (List Int) × Int) => f9_B1 m c y.1 y.2) K (acc, (i : Int)) = some (.inr (acc ++ ints ((c.fItems.drop i).flatMap fun x => itemT x ++ [10]), (c.fItems.length : Int)))
 | 0, i, acc, h1, h2, h3 => by omega
 | K + 1, i, acc, h1, h2, h3 => by
  by_cases hlt : i < c.fItems.length
  ·obtain ⟨x, hx⟩ : ∃ x, c.fItems[i]? = some x := ⟨_, List.getElem?_eq_getElem hlt⟩
   have hxv := hv x (List.mem_of_getElem? hx)
   have hil := item_len hxv hn
   unfold iter
   simp only [print_item m c x n i acc hx hxv hn (by omega) (by omega)]
   rw [print_items m c n hv hn hl K (i + 1) _ hlt (by omega) (by rw [List.length_append, ints_len, List.length_append]; simp only [List.length_cons, List.length_nil]; omega), Xl.drop_cons hx, List.flatMap_cons]
   simp only [ints_app, List.append_assoc]
  ·have hi : i = c.fItems.length := by omega
   unfold iter
   have e : f9_B1 m c acc (i : Int) = some (.brk (acc, (i : Int))) := by
    unfold f9_B1
    rw [decide_eq_false (by omega), cnd_false]
   simp only [e]
   rw [List.drop_eq_nil_of_le (by omega), hi]
   simp [ints]
theorem items_len {c : S44} {n : Nat} (hv : ∀ x ∈ c.fItems, ItV n x) (hn : n ≤ 1000000) : ∀ (l : List S46), (∀ x ∈ l, x ∈ c.fItems) → (l.flatMap fun x => itemT x ++ [10]).length ≤ l.length * 901
 | [], _ => by simp
 | x :: r, h => by
  have h1 := item_len (hv x (h x List.mem_cons_self)) hn
  have h2 := items_len hv hn r (fun y hy => h y (List.mem_cons_of_mem _ hy))
  rw [List.flatMap_cons]
  simp only [List.length_append, List.length_cons, List.length_nil] at h2 ⊢
  omega
theorem class_len {l : List S44} (hv : LexV l) {c : S44} (hc : c ∈ l) : (classT c).length ≤ 100000 := by
 have h1 := (name_bytes (hv.name c hc)).1
 have h2 := items_len (hv.item c hc) (by have := hv.len; omega) c.fItems (fun x hx => hx)
 have h3 := hv.items c hc
 unfold classT clsT
 simp only [List.length_append, List.length_cons, List.length_nil, L_size]
 omega
theorem print_class (m : Nat) (a : S23) (hv : LexV a.fClasses) (hm : 101 < m) {c : S44} {j : Nat} (hc : a.fClasses[j]? = some c) (acc : List Int) (ha : acc.length ≤ 9000000) :
  f9_B2 m a acc (j : Int) = some (.nxt (acc ++ ints (classT c), ((j + 1 : Nat) : Int))) := by
 have hlt := lt_of_getElem? hc
 have hmem := List.mem_of_getElem? hc
 have h1 := (name_bytes (hv.name c hmem)).1
 have hl := hv.len
 have hix : idx a.fClasses (j : Int) = some c := by simp [idx, hc]
 have hw : w64 ((j : Int) + 1) = ((j + 1 : Nat) : Int) := by rw [w64_id ⟨by omega, by omega⟩]; omega
 have s1 : (⟨#[99, 108, 97, 115, 115, 32]⟩ : ByteArray).size = 6 := rfl
 have s2 : (⟨#[10]⟩ : ByteArray).size = 1 := rfl
 unfold f9_B2
 rw [decide_eq_true (by omega), cnd_true, hix, bnd_some', scat_some (by omega), bnd_some', scat_some (by rw [ByteArray.size_append]; omega), bnd_some']
 have hs : (bytesI ((⟨#[99, 108, 97, 115, 115, 32]⟩ : ByteArray) ++ c.fName ++ (⟨#[10]⟩ : ByteArray))).length ≤ 40 := by
  rw [bytesI_L, ints_len, L_size, ByteArray.size_append, ByteArray.size_append]; omega
 rw [app_some 1 acc _ (by omega) (by omega), bnd_some']
 have hit := print_items m c a.fClasses.length (hv.item c hmem) (by omega) (hv.items c hmem) m 0 (acc ++ bytesI ((⟨#[99, 108, 97, 115, 115, 32]⟩ : ByteArray) ++ c.fName ++ (⟨#[10]⟩ : ByteArray))) (Nat.zero_le _) (by have := hv.items c hmem; omega) (by rw [List.length_append]; omega)
 have hit : iter (fun (y : (List Int) × Int) => f9_B1 m c y.1 y.2) m (acc ++ bytesI ((⟨#[99, 108, 97, 115, 115, 32]⟩ : ByteArray) ++ c.fName ++ (⟨#[10]⟩ : ByteArray)), 0) = _ := hit
 rw [hit]
 show some (Stp.nxt (_, w64 ((j : Int) + 1))) = _
 rw [hw]
 congr 2
 congr 1
 rw [bytesI_L, L_app, L_app, List.drop_zero]
 unfold classT
 simp only [ints_app, List.append_assoc]
 rfl
theorem print_classes (m : Nat) (a : S23) (hv : LexV a.fClasses) (hm : 101 < m) : ∀ (K j : Nat) (acc : List Int), j ≤ a.fClasses.length → a.fClasses.length - j < K → acc.length ≤ j * 100000 →
  iter (fun (y : (List Int) × Int) => f9_B2 m a y.1 y.2) K (acc, (j : Int)) = some (.inr (acc ++ ints (textT (a.fClasses.drop j)), (a.fClasses.length : Int)))
 | 0, j, acc, h1, h2, h3 => by omega
 | K + 1, j, acc, h1, h2, h3 => by
  have hl := hv.len
  by_cases hlt : j < a.fClasses.length
  ·obtain ⟨c, hc⟩ : ∃ x, a.fClasses[j]? = some x := ⟨_, List.getElem?_eq_getElem hlt⟩
   have hcl := class_len hv (List.mem_of_getElem? hc)
   unfold iter
   simp only [print_class m a hv hm hc acc (by omega)]
   rw [print_classes m a hv hm K (j + 1) _ hlt (by omega) (by rw [List.length_append, ints_len]; omega), Xl.drop_cons hc]
   unfold textT
   rw [List.flatMap_cons]
   simp only [ints_app, List.append_assoc]
  ·have hj : j = a.fClasses.length := by omega
   unfold iter
   have e : f9_B2 m a acc (j : Int) = some (.brk (acc, (j : Int))) := by
    unfold f9_B2
    rw [decide_eq_false (by omega), cnd_false]
   simp only [e]
   rw [List.drop_eq_nil_of_le (by omega), hj]
   simp [ints, textT]
theorem print_eq (m : Nat) (a : S23) (hm : 4001 < m) : f9 m a = if (lexF a.fClasses).fCode = 0 then (if (textT a.fClasses).length ≤ 4000 then some (⟨(textT a.fClasses).toArray⟩, ⟨0, 0⟩) else some (⟨#[]⟩, ⟨1, -1⟩)) else some (⟨#[]⟩, lexF a.fClasses) := by
 unfold f9
 rw [f11_eq m a hm, bnd_some']
 by_cases h : (lexF a.fClasses).fCode = 0
 ·have hv := lexV_of h
  have hz := (lexF_ok h).2
  rw [if_pos h, hz]
  rw [show (!(((⟨0, 0⟩ : S26).fCode == 0) && (((⟨0, 0⟩ : S26).fIndex == 0) && true))) = false from rfl, cnd_false]
  have hp := print_classes m a hv (by omega) m 0 [] (Nat.zero_le _) (by have := hv.len; omega) (by simp)
  have hp : iter (fun (y : (List Int) × Int) => f9_B2 m a y.1 y.2) m ([], 0) = _ := hp
  rw [hp]
  show cnd (decide (((([] : List Int) ++ ints (textT (a.fClasses.drop 0))).length : Int) > 4000)) _ _ = _
  rw [List.nil_append, List.drop_zero, ints_len]
  by_cases h2 : (textT a.fClasses).length ≤ 4000
  ·rw [if_pos h2, decide_eq_false (by omega), cnd_false]
   show some (strI (([] : List Int) ++ ints (textT (a.fClasses.drop 0))), _) = _
   rw [List.nil_append, List.drop_zero, strI_ints]
  ·rw [if_neg h2, decide_eq_true (by omega), cnd_true]
   rfl
 ·rw [if_neg h, show (!(((lexF a.fClasses).fCode == 0) && (((lexF a.fClasses).fIndex == 0) && true))) = true by simp [h], cnd_true]
def B (l : List UInt8) : ByteArray := ⟨l.toArray⟩
theorem L_B (l : List UInt8) : L (B l) = l := rfl
theorem B_L (s : ByteArray) : B (L s) = s := L_inj rfl
theorem B_size (l : List UInt8) : (B l).size = l.length := by rw [← L_size, L_B]
theorem B_tl (l : List UInt8) : (B l).toList = l := by rw [Lib.toList_data]; rfl
theorem cutQ_pre (c : UInt8) (t pre rest : List UInt8) (h : c ∉ pre) (hs : (pre ++ ((c :: t) ++ rest)).length ≤ 4000000) : cutQ (B (pre ++ ((c :: t) ++ rest))) (B (c :: t)) = some (B pre, B rest, true) := by
 unfold cutQ
 rw [if_pos (by rw [B_size]; omega)]
 unfold cutS3
 have e : Lib.cut (B (pre ++ ((c :: t) ++ rest))).data.toList (B (c :: t)).data.toList = (pre, rest, true) := cut_pre c t rest pre h
 rw [e]
 rfl
theorem splitQ_join (c : UInt8) (ps : List (List UInt8)) (p : List UInt8) (h : ∀ q ∈ p :: ps, c ∉ q) (hs : ([c].intercalate (p :: ps)).length ≤ 4000000) : splitQ (B ([c].intercalate (p :: ps))) (B [c]) = some ((p :: ps).map B) := by
 have hk : countB (B ([c].intercalate (p :: ps))) (B [c]) = ps.length := by
  show count ([c].intercalate (p :: ps)) [c] = _
  unfold count
  exact count_join c ps p _ h (by have := len_join c ps p; omega)
 have hm : (splitS (B ([c].intercalate (p :: ps))) (B [c])).map L = p :: ps := by
  unfold splitS
  rw [hk]
  refine (splitB_data (B [c]) 0 ps.length (B ([c].intercalate (p :: ps)))).trans ?_
  exact splitK_join c ps p h
 have he : splitS (B ([c].intercalate (p :: ps))) (B [c]) = (p :: ps).map B := by
  have h2 := congrArg (List.map B) hm
  rw [List.map_map] at h2
  rw [← h2]
  exact ((List.map_congr_left fun x _ => B_L x).trans (List.map_id _)).symm
 have hl := len_join c ps p
 unfold splitQ
 rw [hk, he, if_pos ⟨by rw [B_size]; omega, by rw [B_size]; simp, by simp, by unfold maxLen; omega⟩]
theorem numQ_itoa {n : Int} (h : -1 ≤ n ∧ n ≤ 1000000) : numQ (B (itoa n)) = some (n, true) := by
 have hn : numS (B (itoa n)) = (n, true) := by
  unfold numS
  have e : atoiAll (B (itoa n)).data.toList = .ok n := atoi_itoa ⟨by omega, by omega⟩
  rw [e, B_tl]
  simp
 have hl := itoa_len h
 unfold numQ
 rw [hn, if_pos ⟨by rw [B_size]; omega, by show (-9223372036854775808 : Int) ≤ n; omega, by show n ≤ 9223372036854775807; omega⟩]
theorem not_mem_of {c : UInt8} {l : List UInt8} (h : ∀ x ∈ l, x.toNat ∉ [0, 9, 10, 32, 40, 41, 91, 93, 44, 59]) (hc : c.toNat ∈ [0, 9, 10, 32, 40, 41, 91, 93, 44, 59]) : c ∉ l := fun hm => h c hm hc
theorem name_not {c : UInt8} {l : List UInt8} (h : ∀ x ∈ l, nmC x = true) (hc : nmC c = false) : c ∉ l := fun hm => by have := h c hm; rw [hc] at this; cases this
theorem itoa_not {c : UInt8} {n : Int} (hc : c ≠ 45 ∧ ¬ (48 ≤ c.toNat ∧ c.toNat ≤ 57)) : c ∉ itoa n := fun hm => by
 rcases itoa_chars n c hm with h | h
 ·exact hc.1 h
 ·exact hc.2 h
theorem join_not (c d : UInt8) (hcd : c ≠ d) : ∀ (ps : List (List UInt8)), (∀ p ∈ ps, c ∉ p) → c ∉ [d].intercalate ps
 | [], _ => by simp [List.intercalate]
 | [p], h => by
  have e : [d].intercalate [p] = p := by simp [List.intercalate]
  rw [e]; exact h p List.mem_cons_self
 | p :: q :: ps, h => by
  have e : [d].intercalate (p :: q :: ps) = p ++ ([d] ++ [d].intercalate (q :: ps)) := by simp [List.intercalate, List.intersperse]
  have ih := join_not c d hcd (q :: ps) (fun z hz => h z (List.mem_cons_of_mem _ hz))
  rw [e]
  intro hm
  rcases List.mem_append.1 hm with hm | hm
  ·exact h p List.mem_cons_self hm
  ·rcases List.mem_append.1 hm with hm | hm
   ·exact hcd (List.mem_singleton.1 hm)
   ·exact ih hm
theorem item_eq (m : Nat) (x : S46) (n : Nat) (h : ItV n x) (hn : n ≤ 1000000) : f30 m (B ([40] ++ itemR x)) = some (x, true) := by
 have hb := part_bytes h.base
 have hf := part_bytes h.form
 have ht := tags_len h
 have hnx : -1 ≤ x.fNext ∧ x.fNext ≤ 1000000 := ⟨h.next.1, by have := h.next.2; omega⟩
 have hwx : -1 ≤ x.fWeight ∧ x.fWeight ≤ 1000000 := ⟨by have := h.wt.1; omega, h.wt.2⟩
 have h4 := itoa_len hnx
 have h5 := itoa_len hwx
 have htg : ∀ p ∈ x.fTags.map L, ∀ c ∈ p, nmC c = true := fun p hp => by
  obtain ⟨t, htm, rfl⟩ := List.mem_map.1 hp
  exact (name_bytes (h.tags t htm)).2
 have e1 : f29 m (B ([40] ++ itemR x)) (⟨#[40]⟩ : ByteArray) = some (B (itemR x), true) := by
  show some (cutPre _ _) = _
  unfold cutPre
  have p1 : hasPrefix ([40] ++ itemR x) [40] = true := pfx_self [40] (itemR x)
  have p2 : trimPrefix ([40] ++ itemR x) [40] = itemR x := by unfold trimPrefix; rw [if_pos p1]; rfl
  show some ((⟨(trimPrefix ([40] ++ itemR x) [40]).toArray⟩ : ByteArray), hasPrefix ([40] ++ itemR x) [40]) = _
  rw [p1, p2]
  rfl
 have lb : (L x.fBase).length ≤ 120 := by rw [L_size]; exact hb.1
 have lf : (L x.fForm).length ≤ 120 := by rw [L_size]; exact hf.1
 unfold f30
 rw [e1, bnd_some', show (!(B (itemR x), true).2) = false from rfl, cnd_false]
 have e2 : f44 m (B (itemR x), true).1 (⟨#[41, 40]⟩ : ByteArray) = some (B (L x.fBase), B (L x.fForm ++ ([41, 91] ++ (Lib.join (x.fTags.map L) [44] ++ ([93, 32] ++ (itoa x.fNext ++ ([32] ++ itoa x.fWeight)))))), true) :=
  cutQ_pre 41 [40] (L x.fBase) _ (not_mem_of hb.2 (by decide)) (by simp only [List.length_append, List.length_cons, List.length_nil]; omega)
 rw [e2, bnd_some']
 simp only [Bool.not_true, cnd_false]
 have e3 : f44 m (B (L x.fForm ++ ([41, 91] ++ (Lib.join (x.fTags.map L) [44] ++ ([93, 32] ++ (itoa x.fNext ++ ([32] ++ itoa x.fWeight))))))) (⟨#[41, 91]⟩ : ByteArray) = some (B (L x.fForm), B (Lib.join (x.fTags.map L) [44] ++ ([93, 32] ++ (itoa x.fNext ++ ([32] ++ itoa x.fWeight)))), true) :=
  cutQ_pre 41 [91] (L x.fForm) _ (not_mem_of hf.2 (by decide)) (by simp only [List.length_append, List.length_cons, List.length_nil]; omega)
 rw [e3, bnd_some']
 simp only [Bool.not_true, cnd_false]
 have e4 : f44 m (B (Lib.join (x.fTags.map L) [44] ++ ([93, 32] ++ (itoa x.fNext ++ ([32] ++ itoa x.fWeight))))) (⟨#[93, 32]⟩ : ByteArray) = some (B (Lib.join (x.fTags.map L) [44]), B (itoa x.fNext ++ ([32] ++ itoa x.fWeight)), true) :=
  cutQ_pre 93 [32] _ _ (join_not 93 44 (by decide) _ (fun p hp => name_not (htg p hp) (by decide))) (by simp only [List.length_append, List.length_cons, List.length_nil]; omega)
 rw [e4, bnd_some']
 simp only [Bool.not_true, cnd_false, tl_eq]
 have fin : f30_j2 m (B (L x.fBase), B (L x.fForm ++ ([41, 91] ++ (Lib.join (x.fTags.map L) [44] ++ ([93, 32] ++ (itoa x.fNext ++ ([32] ++ itoa x.fWeight)))))), true) (B (L x.fForm), B (Lib.join (x.fTags.map L) [44] ++ ([93, 32] ++ (itoa x.fNext ++ ([32] ++ itoa x.fWeight)))), true) (B (Lib.join (x.fTags.map L) [44]), B (itoa x.fNext ++ ([32] ++ itoa x.fWeight)), true) x.fTags = some (x, true) := by
  unfold f30_j2
  have e5 : f44 m (B (itoa x.fNext ++ ([32] ++ itoa x.fWeight))) (⟨#[32]⟩ : ByteArray) = some (B (itoa x.fNext), B (itoa x.fWeight), true) :=
   cutQ_pre 32 [] _ _ (itoa_not (by decide)) (by simp only [List.length_append, List.length_cons, List.length_nil]; omega)
  simp only [e5, bnd_some', Bool.not_true, cnd_false]
  have e6 : f45 m (B (itoa x.fNext)) = some (x.fNext, true) := numQ_itoa hnx
  have e7 : f45 m (B (itoa x.fWeight)) = some (x.fWeight, true) := numQ_itoa hwx
  rw [e6, bnd_some', e7, bnd_some']
  unfold f30_r1
  rw [B_L, B_L]
  rfl
 cases htt : x.fTags with
 | nil =>
  rw [htt] at fin
  rw [show decide (B (Lib.join (([] : List ByteArray).map L) [44]) = (⟨#[]⟩ : ByteArray)) = true from rfl]
  simp only [Bool.not_true, cnd_false]
  exact fin
 | cons t r =>
  have hne : Lib.join ((t :: r).map L) [44] ≠ [] := by
   intro he
   have hl := len_join 44 (r.map L) (L t)
   have h1 := (name_bytes (h.tags t (by rw [htt]; exact List.mem_cons_self))).1
   cases r with
   | nil =>
    have e : Lib.join ([t].map L) [44] = L t := by simp [Lib.join, List.intercalate]
    rw [e] at he
    have := L_size t
    rw [he] at this
    simp at this
    omega
   | cons u r =>
    have e : Lib.join ((t :: u :: r).map L) [44] = [44].intercalate (L t :: (u :: r).map L) := rfl
    rw [e] at he
    rw [he] at hl
    simp at hl
  have hd : decide (B (Lib.join ((t :: r).map L) [44]) = (⟨#[]⟩ : ByteArray)) = false := decide_eq_false fun e => hne (by have := congrArg L e; exact this)
  rw [hd]
  simp only [Bool.not_false, cnd_true]
  have e8 : f28 m (B (Lib.join ((t :: r).map L) [44])) (⟨#[44]⟩ : ByteArray) = some ((L t :: r.map L).map B) :=
   splitQ_join 44 (r.map L) (L t) (fun q hq => name_not (htg q (by rw [htt]; exact hq)) (by decide)) (by
    rw [htt] at ht
    have : (Lib.join ((t :: r).map L) [44]).length ≤ 4000000 := by omega
    exact this)
  rw [e8, bnd_some']
  have e9 : (L t :: r.map L).map B = t :: r := by
   rw [List.map_cons, B_L, List.map_map]
   congr 1
   exact (List.map_congr_left fun x _ => B_L x).trans (List.map_id _)
  rw [e9]
  rw [htt] at fin
  exact fin
def classL (c : S44) : List (List UInt8) := (clsT ++ L c.fName) :: c.fItems.map itemT
def linesL (l : List S44) : List (List UInt8) := l.flatMap classL
theorem inter_snoc (c : UInt8) : ∀ (ls : List (List UInt8)), [c].intercalate (ls ++ [[]]) = ls.flatMap fun l => l ++ [c]
 | [] => by simp [List.intercalate]
 | l :: r => by
  have ih := inter_snoc c r
  rw [List.flatMap_cons, ← ih]
  cases r with
  | nil => simp [List.intercalate]
  | cons a b =>
   show [c].intercalate (l :: a :: (b ++ [[]])) = _
   have e : [c].intercalate (l :: a :: (b ++ [[]])) = l ++ ([c] ++ [c].intercalate (a :: (b ++ [[]]))) := by simp [List.intercalate, List.intersperse]
   rw [e]
   simp
theorem class_lines (c : S44) : classT c = (classL c).flatMap fun l => l ++ [10] := by
 unfold classT classL
 rw [List.flatMap_cons, List.flatMap_map]
theorem text_lines (l : List S44) : textT l = (linesL l).flatMap fun l => l ++ [10] := by
 unfold textT linesL
 induction l with
 | nil => rfl
 | cons c r ih => rw [List.flatMap_cons, List.flatMap_cons, List.flatMap_append, ih, class_lines]
theorem item_no10 {x : S46} {n : Nat} (h : ItV n x) : (10 : UInt8) ∉ itemT x := by
 have hb := part_bytes h.base
 have hf := part_bytes h.form
 have h1 : (10 : UInt8) ∉ L x.fBase := not_mem_of hb.2 (by decide)
 have h2 : (10 : UInt8) ∉ L x.fForm := not_mem_of hf.2 (by decide)
 have h3 : (10 : UInt8) ∉ Lib.join (x.fTags.map L) [44] := join_not 10 44 (by decide) _ (fun p hp => by
  obtain ⟨t, htm, rfl⟩ := List.mem_map.1 hp
  exact name_not (name_bytes (h.tags t htm)).2 (by decide))
 have h4 : (10 : UInt8) ∉ itoa x.fNext := itoa_not (by decide)
 have h5 : (10 : UInt8) ∉ itoa x.fWeight := itoa_not (by decide)
 unfold itemT itemR itmT
 simp only [List.mem_append, not_or]
 exact ⟨by decide, by decide, h1, by decide, h2, by decide, h3, by decide, h4, by decide, h5⟩
theorem lines_no10 {l : List S44} (hv : LexV l) : ∀ q ∈ linesL l, (10 : UInt8) ∉ q := by
 intro q hq
 obtain ⟨c, hc, hq⟩ := List.mem_flatMap.1 hq
 unfold classL at hq
 rcases List.mem_cons.1 hq with rfl | hq
 ·simp only [List.mem_append, not_or]
  exact ⟨by decide, name_not (name_bytes (hv.name c hc)).2 (by decide)⟩
 ·obtain ⟨x, hx, rfl⟩ := List.mem_map.1 hq
  exact item_no10 (hv.item c hc x hx)
theorem pre_cls (r : List UInt8) : cutPre (B (clsT ++ r)) Xp.clsB = (B r, true) := by
 have p1 : hasPrefix (clsT ++ r) clsT = true := pfx_self clsT r
 have p2 : trimPrefix (clsT ++ r) clsT = r := by unfold trimPrefix; rw [if_pos p1]; exact List.drop_left
 show ((⟨(trimPrefix (clsT ++ r) clsT).toArray⟩ : ByteArray), hasPrefix (clsT ++ r) clsT) = _
 rw [p1, p2]
 rfl
theorem pre_itm (r : List UInt8) : cutPre (B (itmT ++ r)) Xp.itmB = (B r, true) := by
 have p1 : hasPrefix (itmT ++ r) itmT = true := pfx_self itmT r
 have p2 : trimPrefix (itmT ++ r) itmT = r := by unfold trimPrefix; rw [if_pos p1]; exact List.drop_left
 show ((⟨(trimPrefix (itmT ++ r) itmT).toArray⟩ : ByteArray), hasPrefix (itmT ++ r) itmT) = _
 rw [p1, p2]
 rfl
theorem pre_not (r : List UInt8) : ∃ z, cutPre (B (itmT ++ r)) Xp.clsB = (z, false) := ⟨_, rfl⟩
theorem step_class (m : Nat) (i : Int) (cl : List S44) (c : S44) : Xp.stepL m i cl (B (clsT ++ L c.fName)) = some (.inr (cl ++ [⟨c.fName, []⟩])) := by
 unfold Xp.stepL
 rw [pre_cls, B_L]
theorem step_item (m : Nat) (i : Int) (init : List S44) (c : S44) (x : S46) (n : Nat) (h : ItV n x) (hn : n ≤ 1000000) : Xp.stepL m i (init ++ [c]) (B (itemT x)) = some (.inr (init ++ [⟨c.fName, c.fItems ++ [x]⟩])) := by
 unfold Xp.stepL itemT
 obtain ⟨z, hz⟩ := pre_not ([40] ++ itemR x)
 rw [hz]
 simp only [pre_itm]
 obtain ⟨a, r, har⟩ : ∃ a r, init ++ [c] = a :: r := by cases init with | nil => exact ⟨_, _, rfl⟩ | cons a r => exact ⟨_, _, rfl⟩
 rw [har]
 simp only [item_eq m x n h hn]
 rw [← har, Xp.addI_app]
theorem parse_cons (m : Nat) (i : Int) (cl cl' : List S44) (x : ByteArray) (r : List ByteArray) (hr : r ≠ []) (h : Xp.stepL m i cl x = some (.inr cl')) : Xp.parseL m i cl (x :: r) = Xp.parseL m (i + 1) cl' r := by
 obtain ⟨y, r, rfl⟩ := List.exists_cons_of_ne_nil hr
 show (match Xp.stepL m i cl x with
  | none => (none : Option (S26 ⊕ List S44))
  | some (.inl f) => some (.inl f)
  | some (.inr cl') => Xp.parseL m (i + 1) cl' (y :: r)) = _
 rw [h]
theorem parse_items (m n : Nat) (hn : n ≤ 1000000) (rest : List ByteArray) (hr : rest ≠ []) (init : List S44) (nm : ByteArray) : ∀ (its done : List S46) (i : Int), (∀ x ∈ its, ItV n x) → ∃ i', Xp.parseL m i (init ++ [⟨nm, done⟩]) ((its.map fun x => B (itemT x)) ++ rest) = Xp.parseL m i' (init ++ [⟨nm, done ++ its⟩]) rest
 | [], done, i, _ => ⟨i, by rw [List.append_nil]; rfl⟩
 | x :: its, done, i, h => by
  obtain ⟨i', h2⟩ := parse_items m n hn rest hr init nm its (done ++ [x]) (i + 1) (fun y hy => h y (List.mem_cons_of_mem _ hy))
  refine ⟨i', ?_⟩
  rw [List.map_cons, List.cons_append, parse_cons m i _ _ _ _ (by simp [hr]) (step_item m i init ⟨nm, done⟩ x n (h x List.mem_cons_self) hn), h2, List.append_assoc]
  rfl
theorem parse_classes (m n : Nat) (hn : n ≤ 1000000) (rest : List ByteArray) (hr : rest ≠ []) : ∀ (l done : List S44) (i : Int), (∀ c ∈ l, ∀ x ∈ c.fItems, ItV n x) → ∃ i', Xp.parseL m i done ((linesL l).map B ++ rest) = Xp.parseL m i' (done ++ l) rest
 | [], done, i, _ => ⟨i, by rw [List.append_nil]; rfl⟩
 | c :: l, done, i, h => by
  have hne : (linesL l).map B ++ rest ≠ [] := by simp [hr]
  obtain ⟨i1, h1⟩ := parse_items m n hn ((linesL l).map B ++ rest) hne done c.fName c.fItems [] (i + 1) (h c List.mem_cons_self)
  obtain ⟨i2, h2⟩ := parse_classes m n hn rest hr l (done ++ [c]) i1 (fun d hd => h d (List.mem_cons_of_mem _ hd))
  refine ⟨i2, ?_⟩
  have e : (linesL (c :: l)).map B ++ rest = B (clsT ++ L c.fName) :: ((c.fItems.map fun x => B (itemT x)) ++ ((linesL l).map B ++ rest)) := by
   unfold linesL classL
   rw [List.flatMap_cons, List.map_append, List.map_cons, List.map_map, List.cons_append, List.cons_append, List.append_assoc]
   rfl
  rw [e, parse_cons m i _ _ _ _ (by simp [hr]) (step_class m i done c)]
  refine h1.trans ?_
  rw [List.nil_append]
  refine h2.trans ?_
  rw [List.append_assoc]
  rfl
theorem parse_text (m : Nat) (hm : 4001 < m) (l : List S44) (h : (lexF l).fCode = 0) (ht : (textT l).length ≤ 4000) : Xp.f14 m (B (textT l)) = some (⟨l⟩, ⟨0, 0⟩) := by
 have hv := lexV_of h
 have hl := hv.len
 obtain ⟨p, ps, hp⟩ : ∃ p ps, linesL l ++ [[]] = p :: ps := by
  cases hh : linesL l ++ [[]] with
  | nil => simp at hh
  | cons p ps => exact ⟨p, ps, rfl⟩
 have htx : textT l = [10].intercalate (p :: ps) := by rw [← hp, inter_snoc, text_lines]
 have hn : ∀ q ∈ p :: ps, (10 : UInt8) ∉ q := by
  rw [← hp]
  intro q hq
  rcases List.mem_append.1 hq with hq | hq
  ·exact lines_no10 hv q hq
  ·rw [List.mem_singleton.1 hq]; simp
 have hs : f28 m (B (textT l)) (⟨#[10]⟩ : ByteArray) = some ((linesL l ++ [[]]).map B) := by
  rw [htx, hp]
  exact splitQ_join 10 ps p hn (by rw [← htx]; omega)
 have hlen : ((linesL l ++ [[]]).map B).length ≤ 1000000 := by
  have := len_join 10 ps p
  rw [← htx] at this
  rw [hp, List.length_map, List.length_cons]
  omega
 unfold Xp.f14
 rw [if_neg (by rw [B_size]; omega), hs]
 simp only
 rw [if_pos hlen]
 obtain ⟨i', hpar⟩ := parse_classes m l.length (by omega) [B []] (by simp) l [] 0 (hv.item)
 have hpl : Xp.parseL m 0 [] ((linesL l ++ [[]]).map B) = some (.inr l) := by
  rw [List.map_append]
  refine hpar.trans ?_
  rw [List.nil_append]
  show (if ((B []).toList == (⟨#[]⟩ : ByteArray).toList) = true then (some (Sum.inr l) : Option (S26 ⊕ List S44)) else _) = _
  rw [if_pos (by rw [tl_eq]; rfl)]
 rw [hpl]
 simp only
 rw [f11_eq m ⟨l⟩ hm]
 have hz := (lexF_ok h).2
 show (match some (lexF l) with
  | none => none
  | some f => if f.fCode = 0 ∧ f.fIndex = 0 then some ((⟨l⟩ : S23), (⟨0, 0⟩ : S26)) else some ((⟨[]⟩ : S23), f)) = _
 rw [hz]
 rfl
theorem f12_self (m : Nat) (l : List ByteArray) (hm : l.length < m) (hl : l.length ≤ 1000000) : f12 m l l = some true := by
 have loop : ∀ (K i : Nat), i ≤ l.length → l.length - i < K → iter (fun (y : Int) => f12_B1 m l l y) K (i : Int) = some (.inr (l.length : Int)) := by
  intro K
  induction K with
  | zero => intro i h1 h2; omega
  | succ K ih =>
   intro i h1 h2
   unfold iter
   by_cases hlt : i < l.length
   ·obtain ⟨x, hx⟩ : ∃ x, l[i]? = some x := ⟨_, List.getElem?_eq_getElem hlt⟩
    have hix : idx l (i : Int) = some x := by simp [idx, hx]
    have hw : w64 ((i : Int) + 1) = ((i + 1 : Nat) : Int) := by rw [w64_id ⟨by omega, by omega⟩]; omega
    have e : f12_B1 m l l (i : Int) = some (.nxt ((i + 1 : Nat) : Int)) := by
     unfold f12_B1
     rw [decide_eq_true (by omega), cnd_true, hix, bnd_some', bnd_some', show (!(x.toList == x.toList)) = false by simp, cnd_false, hw]
    simp only [e]
    exact ih (i + 1) hlt (by omega)
   ·have hi : i = l.length := by omega
    have e : f12_B1 m l l (i : Int) = some (.brk (i : Int)) := by
     unfold f12_B1
     rw [decide_eq_false (by omega), cnd_false]
    simp only [e]
    rw [hi]
 unfold f12
 rw [show ((l.length : Int) != (l.length : Int)) = false by simp, cnd_false]
 have h0 : iter (fun (y : Int) => f12_B1 m l l y) m 0 = _ := loop m 0 (Nat.zero_le _) (by omega)
 rw [h0]
 rfl
theorem itsEq_self (m : Nat) : ∀ (l : List S46), (∀ x ∈ l, x.fTags.length < m ∧ x.fTags.length ≤ 1000000) → Xl.itsEq m l l = some true
 | [], _ => rfl
 | x :: r, h => by
  have h1 := h x List.mem_cons_self
  have e : Xl.itEq m x x = some true := by
   unfold Xl.itEq
   rw [if_pos ⟨by simp, by simp, rfl, rfl⟩]
   exact f12_self m _ h1.1 h1.2
  show (match Xl.itEq m x x with
   | some true => Xl.itsEq m r r
   | o => o) = _
  rw [e]
  exact itsEq_self m r (fun y hy => h y (List.mem_cons_of_mem _ hy))
theorem clsEq_self (m : Nat) : ∀ (l : List S44), (∀ c ∈ l, c.fItems.length ≤ 1000000 ∧ ∀ x ∈ c.fItems, x.fTags.length < m ∧ x.fTags.length ≤ 1000000) → Xl.clsEq m l l = some true
 | [], _ => rfl
 | c :: r, h => by
  have h1 := h c List.mem_cons_self
  have e : Xl.clEq m c c = some true := by
   unfold Xl.clEq
   rw [if_pos ⟨by simp, rfl⟩, if_pos h1.1]
   exact itsEq_self m _ h1.2
  show (match Xl.clEq m c c with
   | some true => Xl.clsEq m r r
   | o => o) = _
  rw [e]
  exact clsEq_self m r (fun y hy => h y (List.mem_cons_of_mem _ hy))
theorem lex_self (m : Nat) (l : List S44) (hv : LexV l) (hm : 5 < m) : Xl.f16 m ⟨l⟩ ⟨l⟩ = some true := by
 have hl := hv.len
 unfold Xl.f16
 rw [if_pos rfl, if_pos (by show l.length ≤ 1000000; omega)]
 exact clsEq_self m l (fun c hc => ⟨by have := hv.items c hc; omega, fun x hx => by have := (hv.item c hc x hx).few; omega⟩)
end Go.Abs.Lx
