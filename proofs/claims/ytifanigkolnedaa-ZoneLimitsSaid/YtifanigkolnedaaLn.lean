/- Comparisons. -/
import Derived.Test.YtifanigkolnedaaLm
import Derived.ChangeKeysEq
namespace Go.Lo
section
variable {P : Program} {w : World} {Ω : Own}

def eqVals : List (Option IntKind) → List Value → List Value → Option Bool
  | [], [], [] => some true
  | some k :: sh, .int k1 a :: xs, .int k2 b :: ys => if k1 = k ∧ k2 = k then (match eqVals sh xs ys with | some r => some (a == b && r) | none => none) else none
  | none :: sh, .bool a :: xs, .bool b :: ys => match eqVals sh xs ys with | some r => some (a == b && r) | none => none
  | _, _, _ => none
theorem eqVals_inv {k : Option IntKind} {sh : List (Option IntKind)} {xs ys : List Value} {r : Bool} (h : eqVals (k :: sh) xs ys = some r) :
    ∃ x y xs' ys' r0 r1, xs = x :: xs' ∧ ys = y :: ys' ∧ eqVals sh xs' ys' = some r1 ∧ r = (r0 && r1) ∧
      ((k = none ∧ ∃ a b, x = .bool a ∧ y = .bool b ∧ r0 = (a == b)) ∨ ∃ q a b, k = some q ∧ x = .int q a ∧ y = .int q b ∧ r0 = (a == b)) := by
  cases xs with
  | nil => cases k <;> simp [eqVals] at h
  | cons x xs =>
    cases ys with
    | nil => cases k <;> cases x <;> simp [eqVals] at h
    | cons y ys =>
      cases k with
      | none =>
        cases x <;> cases y <;> simp only [eqVals, reduceCtorEq] at h
        rename_i a b
        split at h
        · rename_i q hq
          simp only [Option.some.injEq] at h
          exact ⟨_, _, xs, ys, a == b, q, rfl, rfl, hq, h.symm, .inl ⟨rfl, a, b, rfl, rfl, rfl⟩⟩
        · cases h
      | some k =>
        cases x <;> cases y <;> simp only [eqVals, reduceCtorEq] at h
        rename_i k1 a k2 b
        split at h
        · rename_i hk
          obtain ⟨rfl, rfl⟩ := hk
          split at h
          · rename_i q hq
            simp only [Option.some.injEq] at h
            exact ⟨_, _, xs, ys, a == b, q, rfl, rfl, hq, h.symm, .inr ⟨_, a, b, rfl, rfl, rfl, rfl⟩⟩
          · cases h
        · cases h
theorem eqVals_cons {k : Option IntKind} {sh : List (Option IntKind)} {x y : Value} {xs ys : List Value} {r0 r1 : Bool} (h : eqVals sh xs ys = some r1)
    (hk : (k = none ∧ ∃ a b, x = .bool a ∧ y = .bool b ∧ r0 = (a == b)) ∨ ∃ q a b, k = some q ∧ x = .int q a ∧ y = .int q b ∧ r0 = (a == b)) : eqVals (k :: sh) (x :: xs) (y :: ys) = some (r0 && r1) := by
  rcases hk with ⟨rfl, a, b, rfl, rfl, rfl⟩ | ⟨q, a, b, rfl, rfl, rfl, rfl⟩
  · simp only [eqVals, h]
  · simp only [eqVals, h]; simp
theorem eqVals_len : ∀ {sh : List (Option IntKind)} {xs ys : List Value} {r : Bool}, eqVals sh xs ys = some r → xs.length = sh.length ∧ ys.length = sh.length := by
  intro sh
  induction sh with
  | nil =>
    intro xs ys r h
    cases xs <;> cases ys <;> simp [eqVals] at h <;> exact ⟨rfl, rfl⟩
  | cons k sh ih =>
    intro xs ys r h
    obtain ⟨x, y, xs', ys', r0, r1, rfl, rfl, h1, _, _⟩ := eqVals_inv h
    obtain ⟨h2, h3⟩ := ih h1
    simp [h2, h3]
theorem eqVals_den : ∀ {sh : List (Option IntKind)} {cs ds : List V} {xs ys : List Value} {r : Bool}, eqSh sh cs ds = some r → DenL Ω w cs xs → DenL Ω w ds ys → eqVals sh xs ys = some r := by
  intro sh
  induction sh with
  | nil =>
    intro cs ds xs ys r h h1 h2
    cases cs <;> cases ds <;> simp [eqSh] at h
    simp only [DenL] at h1 h2; subst h1; subst h2; subst h
    rfl
  | cons k sh ih =>
    intro cs ds xs ys r h h1 h2
    cases cs with
    | nil => cases k <;> simp [eqSh] at h
    | cons c cs =>
      cases ds with
      | nil => cases k <;> cases c <;> simp [eqSh] at h
      | cons d ds =>
        cases k with
        | none =>
          cases c <;> cases d <;> simp only [eqSh, reduceCtorEq] at h
          simp only [DenL, Den] at h1 h2
          obtain ⟨_, xs', rfl, rfl, h1⟩ := h1
          obtain ⟨_, ys', rfl, rfl, h2⟩ := h2
          split at h
          · rename_i q hq
            simp only [eqVals, ih hq h1 h2]
            exact h
          · cases h
        | some k =>
          cases c <;> cases d <;> simp only [eqSh, reduceCtorEq] at h
          simp only [DenL, Den] at h1 h2
          obtain ⟨_, xs', rfl, rfl, h1⟩ := h1
          obtain ⟨_, ys', rfl, rfl, h2⟩ := h2
          split at h
          · rename_i hk
            split at h
            · rename_i q hq
              simp only [eqVals, if_pos hk, ih hq h1 h2]
              exact h
            · cases h
          · cases h
theorem eqVals_split : ∀ {sh sh' : List (Option IntKind)} {xs ys : List Value} {r : Bool}, eqVals (sh ++ sh') xs ys = some r →
    ∃ r1 r2, eqVals sh (xs.take sh.length) (ys.take sh.length) = some r1 ∧ eqVals sh' (xs.drop sh.length) (ys.drop sh.length) = some r2 ∧ r = (r1 && r2) := by
  intro sh
  induction sh with
  | nil =>
    intro sh' xs ys r h
    exact ⟨true, r, rfl, by simpa using h, by simp⟩
  | cons k sh ih =>
    intro sh' xs ys r h
    rw [List.cons_append] at h
    obtain ⟨x, y, xs', ys', r0, r1, rfl, rfl, h1, rfl, h2⟩ := eqVals_inv h
    obtain ⟨s1, s2, g1, g2, rfl⟩ := ih h1
    exact ⟨r0 && s1, s2, by simpa using eqVals_cons g1 h2, by simpa using g2, by rw [Bool.and_assoc]⟩

/-- A value of the type with these cells. -/
def IsVal (P : Program) (t : TypeId) (xs : List Value) (v : Value) : Prop :=
  match P.underlying t with
  | some (.struct _) => v = .agg xs.toArray
  | some (.array _ _) => v = .agg xs.toArray
  | _ => xs = [v]
theorem run_part {t : TypeId} {n : Nat} (hs : sizeC P t = some n) {d : TypeDesc} (hd : P.underlying t = some d) (h1 : d.isRow = false → n = 1) {xs : List Value} {off : Nat} (hle : off + n ≤ xs.length) (w : World) :
    ∃ v, (part t xs.toArray off).run P w = .ok v w ∧ IsVal P t ((xs.drop off).take n) v := by
  by_cases hr : d.isRow = true
  · have hagg : (isAgg t).run P w = .ok true w := by
      unfold isAgg
      rw [Sem.run_bind, run_underlying hd w]
      cases d <;> simp_all
    refine ⟨.agg (xs.toArray.extract off (off + n)), by simp [part, hagg, run_sizeOf hs], ?_⟩
    have e : xs.toArray.extract off (off + n) = ((xs.drop off).take n).toArray := by
      apply Array.ext'
      rw [Array.toList_extract]
      simp [List.extract]
    unfold IsVal
    cases d <;> simp at hr <;> simp only [hd] <;> rw [e]
  · have hr : d.isRow = false := by simpa using hr
    have hn := h1 hr
    subst hn
    have hlt : off < xs.length := by omega
    refine ⟨xs[off], by simp [part, run_isAgg_no hd hr, hlt], ?_⟩
    have e : (xs.drop off).take 1 = [xs[off]] := by rw [List.drop_eq_getElem_cons hlt]; rfl
    unfold IsVal
    cases d <;> simp at hr <;> simp only [hd] <;> rw [e]
theorem shape_row : ∀ {d : Nat} {t : TypeId} {sh : List (Option IntKind)}, shapeC P d t = some sh → ∃ k, P.underlying t = some k ∧ sizeC P t = some sh.length ∧ (k.isRow = false → sh.length = 1) := by
  intro d t sh h
  cases d with
  | zero => simp [shapeC] at h
  | succ d =>
    have key : ∀ sh', sized P t sh' = some sh → sh' = sh ∧ sizeC P t = some sh.length := fun sh' e => by
      unfold sized at e
      split at e
      · injection e with e; subst e; exact ⟨rfl, by assumption⟩
      · cases e
    unfold shapeC at h
    cases hu : P.underlying t with
    | none => simp [hu] at h
    | some k =>
      cases k <;> simp only [hu, reduceCtorEq] at h
      case bool => obtain ⟨rfl, h2⟩ := key _ h; exact ⟨_, rfl, h2, fun _ => rfl⟩
      case int q => obtain ⟨rfl, h2⟩ := key _ h; exact ⟨_, rfl, h2, fun _ => rfl⟩
      case struct fs =>
        split at h
        · cases h
        · split at h
          · obtain ⟨rfl, h2⟩ := key _ h; exact ⟨_, rfl, h2, fun hr => by simp at hr⟩
          · cases h
      case array n e =>
        split at h
        · obtain ⟨rfl, h2⟩ := key _ h; exact ⟨_, rfl, h2, fun hr => by simp at hr⟩
        · cases h
theorem take_drop_flat (n c : Nat) (xs : List Value) : (xs.drop n).drop c = xs.drop (n + c) := by rw [List.drop_drop]
theorem run_equalIn_shape : ∀ (d : Nat) (t : TypeId) (sh : List (Option IntKind)), shapeC P d t = some sh → ∀ (D : Nat) (xs ys : List Value) (r : Bool) (vx vy : Value) (w : World), eqVals sh xs ys = some r →
    IsVal P t xs vx → IsVal P t ys vy → (Op.equalIn (D + d) t vx vy).run P w = .ok r w := by
  intro d
  induction d with
  | zero => intro t sh h; simp [shapeC] at h
  | succ d ih =>
    intro t sh h D xs ys r vx vy w hr hx hy
    -- one part
    have step : ∀ (e : TypeId) (s1 s2 : List (Option IntKind)) (off : Nat) (r : Bool), off ≤ xs.length → off ≤ ys.length → shapeC P d e = some s1 → eqVals (s1 ++ s2) (xs.drop off) (ys.drop off) = some r →
        ∃ a b r1 r2, off + s1.length ≤ xs.length ∧ off + s1.length ≤ ys.length ∧ (part e xs.toArray off).run P w = .ok a w ∧ (part e ys.toArray off).run P w = .ok b w ∧ (Op.equalIn (D + d) e a b).run P w = .ok r1 w ∧
          eqVals s2 (xs.drop (off + s1.length)) (ys.drop (off + s1.length)) = some r2 ∧ r = (r1 && r2) := by
      intro e s1 s2 off r hl1 hl2 h1 h2
      obtain ⟨k, k1, k2, k3⟩ := shape_row h1
      obtain ⟨l1, l2⟩ := eqVals_len h2
      rw [List.length_drop, List.length_append] at l1 l2
      obtain ⟨r1, r2, g1, g2, g3⟩ := eqVals_split h2
      have ho1 : off + s1.length ≤ xs.length := by omega
      have ho2 : off + s1.length ≤ ys.length := by omega
      obtain ⟨a, ha1, ha2⟩ := run_part k2 k1 k3 ho1 w
      obtain ⟨b, hb1, hb2⟩ := run_part k2 k1 k3 ho2 w
      exact ⟨a, b, r1, r2, ho1, ho2, ha1, hb1, ih e s1 h1 D _ _ r1 a b w g1 ha2 hb2, by rw [List.drop_drop, List.drop_drop] at g2; exact g2, g3⟩
    have key : ∀ sh', sized P t sh' = some sh → sh' = sh := fun sh' e => by
      unfold sized at e
      split at e
      · injection e
      · cases e
    unfold shapeC at h
    rw [show D + (d + 1) = (D + d) + 1 from rfl]
    cases hu : P.underlying t with
    | none => simp [hu] at h
    | some k =>
      cases k <;> simp only [hu, reduceCtorEq] at h
      case bool =>
        have := key _ h; subst this
        simp only [IsVal, hu] at hx hy
        subst hx; subst hy
        obtain ⟨x, y, xs', ys', r0, r1, e1, e2, h1, rfl, h2⟩ := eqVals_inv hr
        injection e1 with e1 e3; injection e2 with e2 e4
        subst e1; subst e2; subst e3; subst e4
        simp only [eqVals, Option.some.injEq] at h1; subst h1
        rcases h2 with ⟨_, a, b, rfl, rfl, rfl⟩ | ⟨q, a, b, h2, _⟩
        · rw [Bool.and_true]; exact run_equalIn_bool' w (D + d) t _ _ hu
        · cases h2
      case int q =>
        have := key _ h; subst this
        simp only [IsVal, hu] at hx hy
        subst hx; subst hy
        obtain ⟨x, y, xs', ys', r0, r1, e1, e2, h1, rfl, h2⟩ := eqVals_inv hr
        injection e1 with e1 e3; injection e2 with e2 e4
        subst e1; subst e2; subst e3; subst e4
        simp only [eqVals, Option.some.injEq] at h1; subst h1
        rcases h2 with ⟨h2, _⟩ | ⟨q', a, b, h2, rfl, rfl, rfl⟩
        · cases h2
        · rw [Bool.and_true]; exact run_equalIn_int w (D + d) t _ q _ _ hu
      case struct fs =>
        split at h
        · cases h
        · rename_i hst
          split at h
          · rename_i sh' hfs
            have := key _ h; subst this
            simp only [IsVal, hu] at hx hy
            subst hx; subst hy
            have hfo : P.fieldsOf t = fs := by simp [Program.fieldsOf, hu]
            rw [run_equalIn_struct w (D + d) t _ _ (by rw [hfo]; exact hu) (by simpa using hst), hfo]
            generalize fs.toList = l at hfs
            have go : ∀ (l : List Field) (o : Nat) (s : List (Option IntKind)) (r : Bool), o ≤ xs.length → o ≤ ys.length → shapeFs (shapeC P d) l o = some s → eqVals s (xs.drop o) (ys.drop o) = some r →
                (Op.eqFields (D + d) xs.toArray ys.toArray l).run P w = .ok r w := by
              intro l
              induction l with
              | nil =>
                intro o s r hl1 hl2 h1 h2
                simp only [shapeFs, Option.some.injEq] at h1; subst h1
                cases hq : xs.drop o <;> cases hq2 : ys.drop o <;> simp [eqVals, hq, hq2] at h2
                subst h2
                simp [Op.eqFields]
              | cons f l ihl =>
                intro o s r hl1 hl2 h1 h2
                simp only [shapeFs] at h1
                split at h1
                · rename_i s1 hs1
                  split at h1
                  · rename_i hc
                    split at h1
                    · rename_i s2 hs2
                      injection h1 with h1; subst h1
                      obtain ⟨a, b, r1, r2, l1, l2, q1, q2, q3, q4, rfl⟩ := step f.type s1 s2 o r hl1 hl2 hs1 h2
                      have hrec := ihl _ s2 r2 l1 l2 hs2 q4
                      simp only [Op.eqFields, hc.2, ne_eq, not_false_eq_true, if_true, Sem.run_bind, hc.1, q1, q2, q3, Result.andThen_ok]
                      cases r1
                      · simp
                      · simpa using hrec
                    · cases h1
                  · cases h1
                · cases h1
            exact go l 0 _ r (Nat.zero_le _) (Nat.zero_le _) hfs (by simpa using hr)
          · cases h
      case array n e =>
        split at h
        · rename_i s1 hs1
          have := key _ h; subst this
          simp only [IsVal, hu] at hx hy
          subst hx; subst hy
          obtain ⟨k, k1, k2, k3⟩ := shape_row hs1
          have hi : ∃ i, P.info? e = some i ∧ P.cellsOf e = s1.length := by
            unfold sizeC at k2
            cases hi : P.info? e with
            | none => simp [hi] at k2
            | some i => simp only [hi, Option.map_some, Option.some.injEq] at k2; exact ⟨i, rfl, by simp [Program.cellsOf, hi, k2]⟩
          obtain ⟨i, hi, hce⟩ := hi
          rw [run_equalIn_array w (D + d) _ _ hu hi, hce, List.range_eq_range']
          have go : ∀ (m i : Nat) (r : Bool), i * s1.length ≤ xs.length → i * s1.length ≤ ys.length → eqVals (List.replicate m s1).flatten (xs.drop (i * s1.length)) (ys.drop (i * s1.length)) = some r →
              (Op.eqItems (D + d) e s1.length xs.toArray ys.toArray (List.range' i m)).run P w = .ok r w := by
            intro m
            induction m with
            | zero =>
              intro i r hl1 hl2 h2
              cases hq : xs.drop (i * s1.length) <;> cases hq2 : ys.drop (i * s1.length) <;> simp [eqVals, hq, hq2] at h2
              subst h2
              simp [Op.eqItems]
            | succ m ihm =>
              intro i r hl1 hl2 h2
              rw [List.replicate_succ, List.flatten_cons] at h2
              obtain ⟨a, b, r1, r2, l1, l2, q1, q2, q3, q4, rfl⟩ := step e s1 _ _ r hl1 hl2 hs1 h2
              rw [← Nat.succ_mul] at q4 l1 l2
              have hrec := ihm (i + 1) r2 l1 l2 q4
              rw [List.range'_succ]
              simp only [Op.eqItems, Sem.run_bind, q1, q2, q3, Result.andThen_ok]
              cases r1
              · simp
              · simpa using hrec
          exact go n 0 r (by simp) (by simp) (by simpa using hr)
        · cases h
end
end Go.Lo
