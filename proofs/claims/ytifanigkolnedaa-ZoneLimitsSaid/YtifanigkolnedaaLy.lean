/- Instructions that stand apart may change places: the proof. -/
import Derived.Test.YtifanigkolnedaaLx
namespace Go.Lo

def effI (call : Nat → List V → Option V) (i : LIns) (σ : St) : Option (Option Eff) :=
  match wanted σ.fr i.guard with
  | some true => match opds σ.fr i.xs with
    | some vs => (match sem call (bxOf σ.fr i.ex) (tkOf σ.tk i.ex) (i.dst.getD 0) i.k vs with
      | some e => some (some e)
      | none => none)
    | none => none
  | some false => some none
  | none => none
def applyO (σ : St) (dst : Option Nat) : Option Eff → St
  | some e => apply σ dst e
  | none => { σ with fr := putO σ.fr dst .und }
theorem stepI_eff (call : Nat → List V → Option V) (i : LIns) (σ : St) : stepI call i σ = (effI call i σ).map (applyO σ i.dst) := by
  unfold stepI effI
  cases wanted σ.fr i.guard with
  | none => rfl
  | some b =>
    cases b with
    | false => rfl
    | true =>
      simp only
      cases opds σ.fr i.xs with
      | none => rfl
      | some vs =>
        simp only
        cases sem call (bxOf σ.fr i.ex) (tkOf σ.tk i.ex) (i.dst.getD 0) i.k vs <;> rfl
def DrawEffO (i : LIns) : Option Eff → Prop
  | some e => DrawEff i e
  | none => True

/-! ### The writes of an effect -/
def rootE : Option Eff → Option Nat
  | some (.sto s _) => some s
  | _ => none
def boxE : Option Eff → V
  | some (.sto _ cs) => .box cs
  | _ => .und
def vE : Option Eff → V
  | some (.val v) => v
  | some (.mk v _ _ _) => v
  | some (.app v _ _) => v
  | some (.prot v _) => v
  | some (.res v _) => v
  | _ => .und
def tkE : Option Eff → List (Nat × Nat × Bool) → List (Nat × Nat × Bool)
  | some (.mk _ t n ps), tk => put (protT ps tk) t (n, true)
  | some (.app _ t n), tk => lenT t n tk
  | some (.prot _ ps), tk => protT ps tk
  | some (.res v _), tk => addT v.tks tk
  | _, tk => tk
theorem applyO_eq {i : LIns} {e : Option Eff} (h : DrawEffO i e) (σ : St) : applyO σ i.dst e = { σ with fr := putO (putO σ.fr (rootE e) (boxE e)) i.dst (vE e), tk := tkE e σ.tk } := by
  cases e with
  | none => rfl
  | some e =>
    cases e <;> simp only [DrawEffO, DrawEff] at h
    case res v al => obtain ⟨rfl, _⟩ := h; rfl
    all_goals rfl
theorem putO_comm {l : List (Nat × V)} {x y : Option Nat} {u v : V} (h : ∀ d, x = some d → y ≠ some d) : putO (putO l x u) y v = putO (putO l y v) x u := by
  cases x with
  | none => rfl
  | some s =>
    cases y with
    | none => rfl
    | some t => exact put_comm l (fun e => h s rfl (by rw [e]))
theorem addT_put : ∀ (ts : List (Nat × Nat)) (l : List (Nat × Nat × Bool)) {t : Nat} {v : Nat × Bool}, (∀ p ∈ ts, p.1 ≠ t) → addT ts (put l t v) = put (addT ts l) t v
  | [], l, t, v, _ => rfl
  | (k, n) :: ts, l, t, v, h => by
    simp only [addT]
    rw [put_comm l (fun e => h (k, n) (by simp) e.symm), addT_put ts _ (fun p hp => h p (by simp [hp]))]
theorem addT_protT (ps : List Nat) : ∀ (ts : List (Nat × Nat)) (l : List (Nat × Nat × Bool)), (∀ p ∈ ts, memN p.1 ps = false) → addT ts (protT ps l) = protT ps (addT ts l)
  | [], l, _ => rfl
  | (k, n) :: ts, l, h => by
    simp only [addT]
    rw [← put_protT ps l (h (k, n) (by simp)), addT_protT ps ts _ (fun p hp => h p (by simp [hp]))]
theorem addT_lenT {u m : Nat} : ∀ (ts : List (Nat × Nat)) (l : List (Nat × Nat × Bool)), (∀ p ∈ ts, p.1 ≠ u) → addT ts (lenT u m l) = lenT u m (addT ts l)
  | [], l, _ => rfl
  | (k, n) :: ts, l, h => by
    simp only [addT]
    rw [← put_lenT l (h (k, n) (by simp)), addT_lenT ts _ (fun p hp => h p (by simp [hp]))]
theorem addT_addT : ∀ (ts us : List (Nat × Nat)) (l : List (Nat × Nat × Bool)), (∀ p ∈ ts, ∀ q ∈ us, p.1 ≠ q.1) → addT ts (addT us l) = addT us (addT ts l)
  | [], us, l, _ => rfl
  | (k, n) :: ts, us, l, h => by
    simp only [addT]
    rw [← addT_put us l (fun q hq e => h (k, n) (by simp) q hq e.symm), addT_addT ts us _ (fun p hp q hq => h p (by simp [hp]) q hq)]
theorem mem_of_memN : ∀ {xs : List Nat} {s : Nat}, memN s xs = true → s ∈ xs
  | x :: xs, s, h => by
    simp only [memN] at h
    split at h
    · rename_i e; subst e; simp
    · exact List.mem_cons_of_mem _ (mem_of_memN h)
theorem not_memN {ex : List Nat} {ps : List Nat} {d t : Nat} (hd : memN d ex = true) (ht : t / 100 = d) (hp : ∀ p ∈ ps, memN (p / 100) ex = false) : memN t ps = false := by
  cases h : memN t ps
  · rfl
  · have := hp t (mem_of_memN h)
    rw [ht, hd] at this
    cases this
theorem ne_tok {ex : List Nat} {d t u : Nat} (hd : memN d ex = true) (ht : t / 100 = d) (hu : memN (u / 100) ex = false) : t ≠ u := by
  intro e
  rw [← e, ht, hd] at hu
  cases hu
theorem tkE_comm {x y : LIns} {e f : Option Eff} (he : DrawEffO x e) (hf : DrawEffO y f) (hxy : Quiet x y) (hyx : Quiet y x) (hap : isAppK x.k = true → isAppK y.k = true → False) (l : List (Nat × Nat × Bool)) :
    tkE f (tkE e l) = tkE e (tkE f l) := by
  cases e with
  | none => rfl
  | some e =>
    cases f with
    | none => rfl
    | some f =>
      simp only [DrawEffO] at he hf
      cases e <;> (try (cases f <;> rfl)) <;> cases f <;> (try rfl) <;> simp only [tkE]
      case mk.mk v t n ps v' t' n' ps' =>
        obtain ⟨⟨d, h1, h2⟩, h3⟩ := he
        obtain ⟨⟨d', h1', h2'⟩, h3'⟩ := hf
        have hd := hxy.dst d h1
        have hd' := hyx.dst d' h1'
        rw [put_protT _ _ (not_memN hd.2.2.2 h2 h3'), put_protT _ _ (not_memN hd'.2.2.2 h2' h3), protT_comm, put_comm]
        intro e
        exact hd.2.1 (by rw [h1', ← h2', ← e, h2])
      case mk.app v t n ps v' t' n' =>
        obtain ⟨⟨d, h1, h2⟩, h3⟩ := he
        have hd := hxy.dst d h1
        rw [put_lenT _ (ne_tok hd.2.2.2 h2 hf.1), protT_lenT]
      case mk.prot v t n ps v' ps' =>
        obtain ⟨⟨d, h1, h2⟩, h3⟩ := he
        have hd := hxy.dst d h1
        rw [put_protT _ _ (not_memN hd.2.2.2 h2 hf), protT_comm]
      case mk.res v t n ps v' al' =>
        obtain ⟨⟨d, h1, h2⟩, h3⟩ := he
        obtain ⟨_, d', h1', h2'⟩ := hf
        have hd := hxy.dst d h1
        have hd' := hyx.dst d' h1'
        rw [addT_put, addT_protT]
        · exact fun p hp => not_memN hd'.2.2.2 (h2' p hp) h3
        · intro p hp e
          have := h2' p hp
          exact hd.2.1 (by rw [h1', ← this, e, h2])
      case app.mk v t n v' t' n' ps' =>
        obtain ⟨⟨d, h1, h2⟩, h3⟩ := hf
        have hd := hyx.dst d h1
        rw [put_lenT _ (ne_tok hd.2.2.2 h2 he.1), protT_lenT]
      case app.app v t n v' t' n' => exact (hap he.2 hf.2).elim
      case app.prot => rw [protT_lenT]
      case app.res v t n v' al' =>
        obtain ⟨_, d', h1', h2'⟩ := hf
        have hd' := hyx.dst d' h1'
        rw [addT_lenT]
        exact fun p hp => ne_tok hd'.2.2.2 (h2' p hp) he.1
      case prot.mk v ps v' t' n' ps' =>
        obtain ⟨⟨d, h1, h2⟩, h3⟩ := hf
        have hd := hyx.dst d h1
        rw [put_protT _ _ (not_memN hd.2.2.2 h2 he), protT_comm]
      case prot.app => rw [protT_lenT]
      case prot.prot => rw [protT_comm]
      case prot.res v ps v' al' =>
        obtain ⟨_, d', h1', h2'⟩ := hf
        have hd' := hyx.dst d' h1'
        rw [addT_protT]
        exact fun p hp => not_memN hd'.2.2.2 (h2' p hp) he
      case res.mk v al v' t' n' ps' =>
        obtain ⟨⟨d, h1, h2⟩, h3⟩ := hf
        obtain ⟨_, d', h1', h2'⟩ := he
        have hd := hyx.dst d h1
        have hd' := hxy.dst d' h1'
        rw [addT_put, addT_protT]
        · exact fun p hp => not_memN hd'.2.2.2 (h2' p hp) h3
        · intro p hp e
          have := h2' p hp
          exact hd.2.1 (by rw [h1', ← this, e, h2])
      case res.app v al v' t' n' =>
        obtain ⟨_, d', h1', h2'⟩ := he
        have hd' := hxy.dst d' h1'
        rw [addT_lenT]
        exact fun p hp => ne_tok hd'.2.2.2 (h2' p hp) hf.1
      case res.prot v al v' ps' =>
        obtain ⟨_, d', h1', h2'⟩ := he
        have hd' := hxy.dst d' h1'
        rw [addT_protT]
        exact fun p hp => not_memN hd'.2.2.2 (h2' p hp) hf
      case res.res v al v' al' =>
        obtain ⟨_, d, h1, h2⟩ := he
        obtain ⟨_, d', h1', h2'⟩ := hf
        have hd := hxy.dst d h1
        rw [addT_addT]
        intro p hp q hq e
        exact hd.2.1 (by rw [h1', ← h2' p hp, e, h2 q hq])
theorem rootE_root {i : LIns} {e : Option Eff} (h : DrawEffO i e) : ∀ r, rootE e = some r → rootK i.k = some r := by
  intro r hr
  cases e with
  | none => simp [rootE] at hr
  | some e =>
    cases e <;> simp only [rootE, reduceCtorEq, Option.some.injEq] at hr
    subst hr
    exact h
/-- Their writes do not meet. -/
theorem applyO_comm {x y : LIns} {e f : Option Eff} (he : DrawEffO x e) (hf : DrawEffO y f) (hxy : Quiet x y) (hyx : Quiet y x) (hap : isAppK x.k = true → isAppK y.k = true → False) (σ : St) :
    applyO (applyO σ x.dst e) y.dst f = applyO (applyO σ y.dst f) x.dst e := by
  rw [applyO_eq hf, applyO_eq he, applyO_eq he, applyO_eq hf, tkE_comm he hf hxy hyx hap]
  congr 1
  have hr1 := rootE_root he
  have hr2 := rootE_root hf
  -- the four writes
  rw [putO_comm (x := x.dst) (y := rootE f) (fun d hd hr => (hxy.dst d hd).2.2.1 (hr2 d hr)),
    putO_comm (x := x.dst) (y := y.dst) (fun d hd => (hxy.dst d hd).2.1),
    putO_comm (x := rootE e) (y := rootE f) (fun d hd hr => (hxy.root d (hr1 d hd)).2.1 (hr2 d hr)),
    putO_comm (x := rootE e) (y := y.dst) (fun d hd => (hxy.root d (hr1 d hd)).2.2)]
end Go.Lo
