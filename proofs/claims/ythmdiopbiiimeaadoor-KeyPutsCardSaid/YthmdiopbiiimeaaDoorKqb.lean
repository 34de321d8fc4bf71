/- keys: how parts, rows and texts stand, in plain lists. -/
import Derived.Test.YthmdiopbiiimeaaDoorKqa
namespace Go.Proofs.YthmdiopbiiimeaaDoor.ky
open Go.RowKit Go.Proofs.YthmdiopbiiimeaaDoor.pk
theorem ltB_irr : ∀ l : List B8, ltB l l = false
  | [] => rfl
  | a :: l => by rw [ltB, if_pos rfl, ltB_irr l]
theorem ltB_tri : ∀ l m : List B8, ltB l m = true ∨ l = m ∨ ltB m l = true
  | [], [] => .inr (.inl rfl)
  | [], _ :: _ => .inl rfl
  | _ :: _, [] => .inr (.inr rfl)
  | a :: l, b :: m => by
    by_cases h : a = b
    · subst h
      rcases ltB_tri l m with h | h | h
      · exact .inl (by rw [ltB, if_pos rfl, h])
      · exact .inr (.inl (by rw [h]))
      · exact .inr (.inr (by rw [ltB, if_pos rfl, h]))
    · have hn : a.toNat ≠ b.toNat := fun e => h (BitVec.eq_of_toNat_eq e)
      rcases Nat.lt_or_gt_of_ne hn with hl | hl
      · exact .inl (by rw [ltB, if_neg h, decide_eq_true hl])
      · exact .inr (.inr (by rw [ltB, if_neg (fun e => h e.symm), decide_eq_true hl]))
theorem ltB_asym : ∀ l m : List B8, ltB l m = true → ltB m l = false
  | [], [], h => by cases h
  | [], _ :: _, _ => rfl
  | _ :: _, [], h => by cases h
  | a :: l, b :: m, h => by
    by_cases e : a = b
    · subst e
      rw [ltB, if_pos rfl] at h ⊢
      exact ltB_asym l m h
    · rw [ltB, if_neg e] at h
      rw [ltB, if_neg (fun x => e x.symm)]
      simp only [decide_eq_true_eq] at h
      simp only [decide_eq_false_iff_not]
      omega
/-- they part at a byte that both have -/
def Div (a b : List B8) : Prop := ∃ p x y r t, a = p ++ x :: r ∧ b = p ++ y :: t ∧ x.toNat < y.toNat
theorem Div.cons {a b : List B8} (x : B8) (h : Div a b) : Div (x :: a) (x :: b) := by
  obtain ⟨p, u, v, r, t, rfl, rfl, h⟩ := h
  exact ⟨x :: p, u, v, r, t, rfl, rfl, h⟩
theorem Div.app {a b : List B8} (p : List B8) (h : Div a b) : Div (p ++ a) (p ++ b) := by
  obtain ⟨q, u, v, r, t, rfl, rfl, h⟩ := h
  exact ⟨p ++ q, u, v, r, t, by rw [List.append_assoc], by rw [List.append_assoc], h⟩
theorem Div.more {a b : List B8} (r t : List B8) (h : Div a b) : Div (a ++ r) (b ++ t) := by
  obtain ⟨p, u, v, r', t', rfl, rfl, h⟩ := h
  exact ⟨p, u, v, r' ++ r, t' ++ t, by rw [List.append_assoc]; rfl, by rw [List.append_assoc]; rfl, h⟩
theorem ltB_app (p a b : List B8) : ltB (p ++ a) (p ++ b) = ltB a b := by
  induction p with
  | nil => rfl
  | cons x p ih => rw [List.cons_append, List.cons_append, ltB, if_pos rfl, ih]
theorem Div.lt {a b : List B8} (h : Div a b) : ltB a b = true := by
  obtain ⟨p, u, v, r, t, rfl, rfl, h⟩ := h
  rw [ltB_app, ltB, if_neg (fun e => by rw [e] at h; omega), decide_eq_true h]
theorem Div.ne {a b : List B8} (h : Div a b) : a ≠ b := fun e => by
  have := h.lt
  rw [e, ltB_irr] at this
  cases this
theorem pre_app {p a b : List B8} : (p ++ a) <+: (p ++ b) ↔ a <+: b := List.prefix_append_right_inj p
theorem Div.pre {a b : List B8} (h : Div a b) : ¬ a <+: b ∧ ¬ b <+: a := by
  obtain ⟨p, u, v, r, t, rfl, rfl, h⟩ := h
  rw [pre_app, pre_app, List.cons_prefix_cons, List.cons_prefix_cons]
  exact ⟨fun e => by have := congrArg BitVec.toNat e.1; omega, fun e => by have := congrArg BitVec.toNat e.1; omega⟩
theorem div_len : ∀ (a b : List B8), a.length = b.length → ltB a b = true → Div a b
  | [], [], _, h => by cases h
  | [], _ :: _, h, _ => by cases h
  | _ :: _, [], h, _ => by cases h
  | x :: a, y :: b, hl, h => by
    by_cases e : x = y
    · subst e
      rw [ltB, if_pos rfl] at h
      exact (div_len a b (by simpa using hl) h).cons x
    · rw [ltB, if_neg e] at h
      exact ⟨[], x, y, a, b, rfl, rfl, by simpa using h⟩
theorem div_esc : ∀ (a b : List B8), ltB a b = true → Div (esc a ++ [0#8, 0#8]) (esc b ++ [0#8, 0#8])
  | _, [], h => by cases ‹List B8› <;> cases h
  | [], y :: b, _ => by
    rw [esc, esc]
    by_cases hy : y = 0#8
    · rw [if_pos hy]
      exact ⟨[0#8], 0#8, 255#8, [], _, rfl, rfl, by decide⟩
    · rw [if_neg hy]
      exact ⟨[], 0#8, y, [0#8], _, rfl, rfl, by
        have : y.toNat ≠ 0 := fun e => hy (BitVec.eq_of_toNat_eq e)
        show 0 < _
        omega⟩
  | x :: a, y :: b, h => by
    rw [ltB] at h
    rw [esc, esc]
    by_cases e : x = y
    · subst e
      rw [if_pos rfl] at h
      have ih := div_esc a b h
      by_cases hx : x = 0#8
      · rw [if_pos hx, if_pos hx]
        exact (ih.cons 255#8).cons 0#8
      · rw [if_neg hx, if_neg hx]
        exact ih.cons x
    · rw [if_neg e] at h
      have hl : x.toNat < y.toNat := by simpa using h
      have hy : y ≠ 0#8 := fun e => by rw [e] at hl; exact absurd hl (Nat.not_lt_zero _)
      rw [if_neg hy]
      by_cases hx : x = 0#8
      · rw [if_pos hx]
        exact ⟨[], 0#8, y, _, _, rfl, rfl, by rw [hx] at hl; exact hl⟩
      · rw [if_neg hx]
        exact ⟨[], x, y, _, _, rfl, rfl, hl⟩
def cmpI (a b : Int) : Int := if a < b then -1 else if b < a then 1 else 0
def cmpS (a b : List B8) : Int := if ltB a b then -1 else if ltB b a then 1 else 0
def cmpP (a b : KP) : Int := if a.k ≠ b.k then (if a.k.toNat < b.k.toNat then -1 else 1) else if a.k = 1#8 then cmpI a.n b.n else cmpS a.s b.s
def cmpR : List KP → List KP → Int
  | [], [] => 0
  | [], _ :: _ => -1
  | _ :: _, [] => 1
  | a :: l, b :: m => if cmpP a b ≠ 0 then cmpP a b else cmpR l m
theorem cmpP_self (a : KP) : cmpP a a = 0 := by
  unfold cmpP cmpI cmpS
  rw [if_neg (fun h => h rfl)]
  split
  · rw [if_neg (Int.lt_irrefl _), if_neg (Int.lt_irrefl _)]
  · rw [ltB_irr]; rfl
theorem cmpR_self : ∀ l : List KP, cmpR l l = 0
  | [] => rfl
  | a :: l => by rw [cmpR, if_neg (fun h => h (cmpP_self a)), cmpR_self l]
theorem part_tri {a b : KP} (ha : a.Ok) (hb : b.Ok) (hk : a.k = b.k) : a = b ∨ (cmpP a b = -1 ∧ Div a.enc b.enc) ∨ (cmpP a b = 1 ∧ Div b.enc a.enc) := by
  rcases ha with ⟨n, hn, rfl⟩ | ⟨s, rfl⟩ <;> rcases hb with ⟨m, hm, rfl⟩ | ⟨u, rfl⟩
  · have key : ∀ {x y : Int}, Fit x → Fit y → x < y → Div (be 8 (turn x)) (be 8 (turn y)) := fun {x y} hx hy h => by
      refine div_len _ _ (by rw [be_len, be_len]) ?_
      have := order_be (turn x) (turn y)
      rw [beq_iff_eq] at this
      rw [← this, decide_eq_true_eq, turn_nat hx, turn_nat hy]
      omega
    have e1 : (KP.num n).enc = be 8 (turn n) := rfl
    have e2 : (KP.num m).enc = be 8 (turn m) := rfl
    have ec : cmpP (KP.num n) (KP.num m) = cmpI n m := rfl
    rw [e1, e2, ec, cmpI]
    rcases Int.lt_trichotomy n m with h | h | h
    · exact .inr (.inl ⟨if_pos h, key hn hm h⟩)
    · exact .inl (by rw [h])
    · exact .inr (.inr ⟨by rw [if_neg (by omega), if_pos h], key hm hn h⟩)
  · cases hk
  · cases hk
  · have e1 : (KP.txt s).enc = esc s ++ [0#8, 0#8] := rfl
    have e2 : (KP.txt u).enc = esc u ++ [0#8, 0#8] := rfl
    have ec : cmpP (KP.txt s) (KP.txt u) = cmpS s u := rfl
    rw [e1, e2, ec, cmpS]
    rcases ltB_tri s u with h | h | h
    · exact .inr (.inl ⟨by rw [h]; rfl, div_esc _ _ h⟩)
    · exact .inl (by rw [h])
    · exact .inr (.inr ⟨by rw [ltB_asym _ _ h, h]; rfl, div_esc _ _ h⟩)
theorem row_tri : ∀ {a b : List KP}, (∀ p ∈ a, p.Ok) → (∀ p ∈ b, p.Ok) → a.map KP.k = b.map KP.k → a = b ∨ (cmpR a b = -1 ∧ Div (encs a) (encs b)) ∨ (cmpR a b = 1 ∧ Div (encs b) (encs a))
  | [], [], _, _, _ => .inl rfl
  | [], _ :: _, _, _, h => by cases h
  | _ :: _, [], _, _, h => by cases h
  | p :: a, q :: b, ha, hb, hk => by
    rw [List.map_cons, List.map_cons] at hk
    injection hk with h1 h2
    have e1 : encs (p :: a) = p.enc ++ encs a := rfl
    have e2 : encs (q :: b) = q.enc ++ encs b := rfl
    rw [e1, e2, cmpR]
    rcases part_tri (ha p (List.mem_cons_self ..)) (hb q (List.mem_cons_self ..)) h1 with h | ⟨hc, hd⟩ | ⟨hc, hd⟩
    · subst h
      rw [if_neg (fun h => h (cmpP_self p))]
      rcases row_tri (fun x hx => ha x (List.mem_cons_of_mem _ hx)) (fun x hx => hb x (List.mem_cons_of_mem _ hx)) h2 with h | ⟨hc, hd⟩ | ⟨hc, hd⟩
      · exact .inl (by rw [h])
      · exact .inr (.inl ⟨hc, hd.app _⟩)
      · exact .inr (.inr ⟨hc, hd.app _⟩)
    · rw [if_pos (by rw [hc]; decide)]
      exact .inr (.inl ⟨hc, hd.more _ _⟩)
    · rw [if_pos (by rw [hc]; decide)]
      exact .inr (.inr ⟨hc, hd.more _ _⟩)
/-- how the texts stand -/
def signS (a b : List B8) : Int := if ltB a b then -1 else if ltB b a then 1 else 0
theorem row_order {a b : List KP} (ha : ∀ p ∈ a, p.Ok) (hb : ∀ p ∈ b, p.Ok) (hk : a.map KP.k = b.map KP.k) : signS (encs a) (encs b) = cmpR a b ∧ (encs a ≠ encs b → ¬ encs a <+: encs b ∧ ¬ encs b <+: encs a) := by
  rcases row_tri ha hb hk with h | ⟨hc, hd⟩ | ⟨hc, hd⟩
  · subst h
    exact ⟨by rw [signS, ltB_irr, cmpR_self]; rfl, fun h => (h rfl).elim⟩
  · exact ⟨by rw [signS, hd.lt, hc]; rfl, fun _ => hd.pre⟩
  · exact ⟨by rw [signS, ltB_asym _ _ hd.lt, hd.lt, hc]; rfl, fun _ => hd.pre.symm⟩
/-- the least text behind all that begin so -/
def aft : List B8 → Option (List B8)
  | [] => none
  | x :: l => match aft l with
    | some m => some (x :: m)
    | none => if x = 255#8 then none else some [x + 1#8]
theorem aft_255 : ∀ (l m : List B8), (∀ x ∈ m, x = 255#8) → aft (l ++ m) = aft l
  | [], [], _ => rfl
  | [], x :: m, h => by
    have := aft_255 [] m fun y hy => h y (List.mem_cons_of_mem _ hy)
    rw [List.nil_append] at this
    have e : aft (x :: m) = match aft m with | some k => some (x :: k) | none => if x = 255#8 then none else some [x + 1#8] := by rw [aft]
    rw [List.nil_append, e, this, h x (List.mem_cons_self ..)]
    rfl
  | x :: l, m, h => by rw [List.cons_append, aft, aft, aft_255 l m h]
theorem aft_end (l : List B8) (x : B8) (h : x ≠ 255#8) : aft (l ++ [x]) = some (l ++ [x + 1#8]) := by
  induction l with
  | nil => simp [aft, h]
  | cons y l ih => rw [List.cons_append, aft, ih]; rfl
theorem aft_law : ∀ (p t : List B8), decide (p <+: t) = (!ltB t p && (match aft p with | none => true | some m => ltB t m))
  | [], t => by cases t <;> simp [ltB, aft]
  | x :: p, [] => by simp [ltB]
  | x :: p, y :: t => by
    have ih := aft_law p t
    have e : decide (x :: p <+: y :: t) = (decide (x = y) && decide (p <+: t)) := by rw [Bool.eq_iff_iff]; simp [List.cons_prefix_cons]
    rw [e, ltB, aft, ih]
    by_cases h : x = y
    · subst h
      rw [decide_eq_true rfl, if_pos rfl, Bool.true_and]
      cases ha : aft p with
      | some m => simp [ltB]
      | none =>
        by_cases h2 : x = 255#8
        · simp [h2]
        · have : x.toNat < (x + 1#8).toNat := by
            have := x.isLt
            have h3 : x.toNat ≠ 255 := fun e => h2 (BitVec.eq_of_toNat_eq e)
            rw [BitVec.toNat_add]
            show _ < (x.toNat + 1) % 2 ^ 8
            omega
          have h4 : x ≠ x + 1#8 := fun e => by rw [← e] at this; omega
          simp only [if_neg h2, ltB, if_neg h4, decide_eq_true this, Bool.and_true]
    · rw [decide_eq_false h, if_neg (fun e => h e.symm), Bool.false_and]
      by_cases hl : y.toNat < x.toNat
      · rw [decide_eq_true hl]; rfl
      · have hn : x.toNat ≠ y.toNat := fun e => h (BitVec.eq_of_toNat_eq e)
        rw [decide_eq_false hl, Bool.not_false, Bool.true_and]
        cases ha : aft p with
        | some m => simp only [ltB]; rw [if_neg (fun e => h e.symm), decide_eq_false hl]
        | none =>
          by_cases h2 : x = 255#8
          · subst h2
            have := y.isLt
            have : (255#8).toNat = 255 := rfl
            omega
          · have h5 : (x + 1#8).toNat = x.toNat + 1 := by
              have := x.isLt
              have h3 : x.toNat ≠ 255 := fun e => h2 (BitVec.eq_of_toNat_eq e)
              rw [BitVec.toNat_add]
              show (x.toNat + 1) % 2 ^ 8 = _
              omega
            simp only [if_neg h2, ltB]
            by_cases h6 : y = x + 1#8
            · rw [if_pos h6]
            · rw [if_neg h6, h5, decide_eq_false (by omega)]
end Go.Proofs.YthmdiopbiiimeaaDoor.ky
