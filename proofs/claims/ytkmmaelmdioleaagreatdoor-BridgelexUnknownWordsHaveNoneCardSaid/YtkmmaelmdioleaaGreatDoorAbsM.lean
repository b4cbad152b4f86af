import Derived.Test.YtkmmaelmdioleaaGreatDoorAbsRw
import Derived.Test.YtkmmaelmdioleaaGreatDoorAbsN
import Derived.Test.YtkmmaelmdioleaaGreatDoorAbsH
import Derived.Shelf.Sort.Plain
import Derived.Shelf.Slices.CompactS
namespace Go.Abs
open Go.Sort Go.Proofs
set_option linter.unusedVariables false
set_option linter.unusedSimpArgs false
set_option linter.unnecessarySimpa false
variable {DR : Prop}
theorem HInv.rowTurn {S : Nat → Nat → Prop} {β : Blocks} {w w' : World} {h : List AObj} (hi : HInv S β w h) {r b c k : Nat} {es es' : List V} (hr : h[r]? = some (.row k es)) (hb : β[r]? = some (b, c, k))
  (hsize : w.heap.size ≤ w'.heap.size) (hrest : ∀ b', b' < w.heap.size → b' ≠ b → w'.heap[b']? = w.heap[b']?) (hos : w'.os = w.os) (htape : w'.tape = w.tape) (hout : w'.output = w.output) (hdr : w.drawn ≤ w'.drawn)
  (hnew : Keeps S w S w' → ObjRel S β w' b c k (.row k es')) : Ext DR S β w S β w' ∧ HInv S β w' (h.set r (.row k es')) := by
 have hno : ∀ i, ¬ S b i := fun i hs => absurd (hi.own r _ b c k i hr rfl hb hs) (Nat.not_lt_zero _)
 have hne : ∀ b' i, S b' i → b' ≠ b := fun b' i hs e => hno i (e ▸ hs)
 have hk : Keeps S w S w' := fun b' i hs => ⟨hs, look_of_block (hrest b' (hi.sb b' i hs) (hne b' i hs))⟩
 have hlt := lt_of_getElem? hr
 obtain ⟨k1, hk1⟩ := hi.kpos hr rfl hb
 refine ⟨⟨hk, fun _ _ h => h, hsize, fun b' hb' hn => hrest b' hb' (fun e => hn r c k1 (by rw [← hk1]; exact e ▸ hb)), fun r b c k h => .inr ⟨r, c, k, h⟩, hos, htape, hout, fun _ => hdr, fun _ _ h => .inl h⟩, ?_⟩
 have live : ∀ (r' : Nat) (o : AObj), (h.set r (.row k es'))[r']? = some o → o.live = true → ∃ o', h[r']? = some o' ∧ o'.live = true := by
  intro r' o ho hl
  rw [List.getElem?_set] at ho
  split at ho
  ·rename_i e; subst e; exact ⟨_, hr, rfl⟩
  ·exact ⟨o, ho, hl⟩
 refine ⟨by rw [List.length_set]; exact hi.len, fun r' o b' c' k' ho hb' => ?_, fun r' o b' c' k' ho hl hb' => ?_, fun r1 r2 o1 o2 b' c1 k1 c2 k2 h1 l1 h2 l2 h3 h4 => ?_, fun r' o b' c' k' i ho hl hb' hs => ?_, fun b' i hs => Nat.lt_of_lt_of_le (hi.sb b' i hs) hsize, hi.gl.mono hk, fun r b' c k g => Nat.lt_of_lt_of_le (hi.dl r b' c k g) hsize⟩
 ·rw [List.getElem?_set] at ho
  split at ho
  ·rename_i e
   subst e
   cases ho
   rw [hb] at hb'
   cases hb'
   exact hnew hk
  ·rename_i e
   refine (hi.obj r' o b' c' k' ho hb').mono hk (fun _ _ h => h) fun hl => hrest b' (hi.lt r' o b' c' k' ho hl hb') fun eb => ?_
   subst eb
   exact e (hi.inj r' r o _ b' c' k' c k ho hl hr rfl hb' hb).symm
 ·obtain ⟨o', h1, h2⟩ := live r' o ho hl
  exact Nat.lt_of_lt_of_le (hi.lt r' o' b' c' k' h1 h2 hb') hsize
 ·obtain ⟨o1', g1, m1⟩ := live r1 o1 h1 l1
  obtain ⟨o2', g2, m2⟩ := live r2 o2 h2 l2
  exact hi.inj r1 r2 o1' o2' b' c1 k1 c2 k2 g1 m1 g2 m2 h3 h4
 ·rw [List.getElem?_set] at ho
  split at ho
  ·rename_i e
   subst e
   rw [hb] at hb'
   cases hb'
   exact absurd hs (hno i)
  ·exact hi.own r' o b' c' k' i ho hl hb' hs
def bl (s : ByteArray) : List UInt8 := s.data.toList
def ba (l : List UInt8) : ByteArray := ⟨l.toArray⟩
def sortS (l : List ByteArray) : List ByteArray := ((l.map bl).mergeSort fun x y => decide (x ≤ y)).map ba
def DOk (DR : Prop) (P : Program) (f : FuncId) (F : List D → List AObj → Option (D × List AObj)) : Prop := Is P f ∧ ∀ ds h d h', F ds h = some (d, h') → ∀ S β w vs, RelL S β w vs ds → HInv S β w h →
 Calls P f vs w fun e w' => ∃ v S' β', e = .returned v ∧ Ext DR S β w S' β' w' ∧ HInv S' β' w' h' ∧ RelD S' β' w' v d
theorem one_arg {S : Nat → Nat → Prop} {β : Blocks} {w : World} {vs : Array Value} {d : D} (h : RelL S β w vs [d]) : ∃ v, vs = #[v] ∧ RelD S β w v d := by
 obtain ⟨h1, h2⟩ := h
 have hsz : vs.size = 1 := h1
 refine ⟨vs[0], ?_, h2 0 vs[0] d (Array.getElem?_eq_getElem (by omega)) rfl⟩
 obtain ⟨l⟩ := vs
 match l, hsz with
 | [a], _ => rfl
theorem unit_rel (S : Nat → Nat → Prop) (β : Blocks) (w : World) : RelD S β w (.tuple #[]) U := .v _ _ (.tuple _ _ rfl fun i v x hv => by simp at hv)
def srt (xs : List ByteArray) : Option (List ByteArray) := if xs.length < 4611686018427387904 then some (sortS xs) else none
end Go.Abs
