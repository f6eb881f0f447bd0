/- What a logical value says of a real one, in a world of which some blocks are owned. -/
import Derived.Test.YtifanigkolnedaaLb
import Derived.Below
import Derived.Laws.AppendOwn
namespace Go.Lo

inductive OwnK where
  | out | frz | frzb
  | box (s : Nat)
  | arr (t : Nat) (p : Bool)
  deriving DecidableEq

/-- Who owns a block; the record of the range whose body it may yield to, and when that stops; how many of its cells are settled; where an array lies now: its block, its capacity, its length; the size of its elements. -/
structure Own where
  o : Nat → OwnK
  lim : Nat → Nat
  cur : Nat → Option (Nat × Nat × Nat)
  tsz : Nat → Nat
  yl : Option (Nat × Nat) := none

def Own.froz (Ω : Own) (b : Nat) : Prop := Ω.o b = .frz ∨ ∃ t, Ω.o b = .arr t true
def Own.frozp (Ω : Own) (b : Nat) : Prop := Ω.froz b ∨ Ω.o b = .frzb

mutual
/-- Without arrays or boxes of this frame. -/
def V.pure : V → Bool
  | .bool _ => true
  | .int _ _ => true
  | .nil => true
  | .sl none _ _ => true
  | .cref _ => true
  | .fn (.f _) cs => pureL cs
  | .fn (.m _) cs => pureL cs
  | .agg cs => pureL cs
  | _ => false
def pureL : List V → Bool
  | [] => true
  | v :: vs => if v.pure = true then pureL vs else false
end

theorem V.pm_pure : ∀ {v : V}, v.pm = true → v.pure = true ∧ v.cellOk = true
  | .bool _, _ => ⟨rfl, rfl⟩
  | .int _ _, _ => ⟨rfl, rfl⟩
  | .nil, _ => ⟨rfl, rfl⟩
  | .sl none _ _, _ => ⟨rfl, rfl⟩
  | .fn (.f _) [], _ => ⟨rfl, rfl⟩
  | .fn (.m _) [], h => by simp [V.pm] at h
  | .fn (.y _) [], h => by simp [V.pm] at h
  | .sl (some _) _ _, h => by simp [V.pm] at h
  | .fn _ (_ :: _), h => by simp [V.pm] at h
  | .und, h => by simp [V.pm] at h
  | .dead, h => by simp [V.pm] at h
  | .agg _, h => by simp [V.pm] at h
  | .tup _, h => by simp [V.pm] at h
  | .ref _ _, h => by simp [V.pm] at h
  | .cref _, h => by simp [V.pm] at h
  | .eref _ _ _ _ _, h => by simp [V.pm] at h
  | .box _, h => by simp [V.pm] at h
/-- The model's own word for it. -/
def Fk.Is (yl : Option (Nat × Nat)) : Fk → List Value → Value → Prop
  | .f n, xs, x => x = .func (.func n) #[] xs.toArray
  | .m n, xs, x => x = .func (.func n) xs.toArray #[]
  | .y a, xs, x => ∃ l, yl = some (l, a) ∧ x = .func (.yield l) #[] xs.toArray
mutual
def Den (Ω : Own) (w : World) : V → Value → Prop
  | .und, x => x = undef
  | .dead, _ => True
  | .bool b, x => x = .bool b
  | .int k n, x => x = .int k n
  | .agg cs, x => ∃ xs : List Value, x = .agg xs.toArray ∧ DenL Ω w cs xs
  | .tup cs, x => ∃ xs : List Value, x = .tuple xs.toArray ∧ DenL Ω w cs xs
  | .nil, x => x = .slice none 0 0
  | .sl none sz es, x => (es = [] ∧ ∃ p, x = .slice p 0 0) ∨
      ∃ b off cap, x = .slice (some ⟨b, off, none⟩) es.length (es.length + cap) ∧ Ω.froz b ∧ DenE Ω w es sz b off
  | .sl (some t) sz es, x => ∃ b cap p, x = .slice (some ⟨b, 0, none⟩) es.length (es.length + cap) ∧ Ω.o b = .arr t p ∧ sz = Ω.tsz t ∧
      (∀ c k n, Ω.cur t = some (c, k, n) → es.length ≤ n ∧ (es.length = n → b = c ∧ es.length + cap = k)) ∧ DenE Ω w es sz b 0
  | .fn f cs, x => ∃ xs : List Value, f.Is Ω.yl xs x ∧ DenL Ω w cs xs
  | .ref s off, x => ∃ b, x = .pointer (some ⟨b, off, none⟩) ∧ Ω.o b = .box s
  | .cref cs, x => ∃ b off, x = .pointer (some ⟨b, off, none⟩) ∧ Ω.frozp b ∧ DenC Ω w cs b off
  | .eref t n i off cs, x => ∃ b p, x = .pointer (some ⟨b, i * Ω.tsz t + off, none⟩) ∧ Ω.o b = .arr t p ∧ i < n ∧
      (∀ c k m, Ω.cur t = some (c, k, m) → n ≤ m ∧ (n = m → b = c)) ∧ cs.length = Ω.tsz t ∧ cs.all V.pm = true ∧ DenC Ω w cs b (i * Ω.tsz t)
  | .box _, _ => False
def DenL (Ω : Own) (w : World) : List V → List Value → Prop
  | [], xs => xs = []
  | v :: vs, xs => ∃ x ys, xs = x :: ys ∧ Den Ω w v x ∧ DenL Ω w vs ys
/-- Cells in memory. -/
def DenC (Ω : Own) (w : World) : List V → Nat → Nat → Prop
  | [], _, _ => True
  | v :: vs, b, off => (∃ x, off < Ω.lim b ∧ w.cell? ⟨b, off, none⟩ = some x ∧ v.pure = true ∧ v.cellOk = true ∧ Den Ω w v x) ∧ DenC Ω w vs b (off + 1)
/-- Elements in memory. -/
def DenE (Ω : Own) (w : World) : List (List V) → Nat → Nat → Nat → Prop
  | [], _, _, _ => True
  | cs :: es, sz, b, off => cs.length = sz ∧ cs.all V.pm = true ∧ DenC Ω w cs b off ∧ DenE Ω w es sz b (off + sz)
end
end Go.Lo
