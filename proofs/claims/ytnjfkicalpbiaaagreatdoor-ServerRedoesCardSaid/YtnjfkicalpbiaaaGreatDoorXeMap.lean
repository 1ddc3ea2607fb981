/-
  THE EXECUTOR's MAPS AND FRAMES: what is read behind a write.
-/
import Derived.Test.YtnjfkicalpbiaaaGreatDoorXeDef
set_option linter.unusedVariables false
set_option linter.unusedSimpArgs false
set_option linter.unnecessarySimpa false
namespace Go.Xe
theorem land3 (j : Nat) : Nat.land j 3 = j % 4 := Nat.and_two_pow_sub_one_eq_mod j 2
def T.getS {α : Type} : T α → Nat → Option α
  | .e, _ => none
  | .n v _ _ _ _, 0 => v
  | .n _ a b c d, j + 1 => if j % 4 = 0 then a.getS (j / 4) else if j % 4 = 1 then b.getS (j / 4) else if j % 4 = 2 then c.getS (j / 4) else d.getS (j / 4)
theorem T.gp_step {α : Type} (f j : Nat) : T.gp α (f + 1) (j + 1) = T.G.rec (motive := fun _ => T.G α) (fun g => T.gs j g) (T.gp α f (j / 4)) := rfl
theorem T.pp_step {α : Type} (f j : Nat) : T.pp α (f + 1) (j + 1) = T.U.rec (motive := fun _ => T.U α) (fun g => T.us j g) (T.pp α f (j / 4)) := rfl
theorem T.gp_some {α : Type} : ∀ (f k : Nat), k < f → ∃ g, T.gp α f k = .mk g ∧ ∀ t : T α, g t = t.getS k
  | 0, k, h => by omega
  | f + 1, 0, _ => ⟨T.val, rfl, fun t => by cases t <;> rfl⟩
  | f + 1, j + 1, h => by
    obtain ⟨g, hg, hs⟩ := T.gp_some (α := α) f (j / 4) (by omega)
    rw [T.gp_step, hg]
    show ∃ g', T.gs j g = .mk g' ∧ _
    unfold T.gs
    rw [land3]
    have hj : j % 4 = 0 ∨ j % 4 = 1 ∨ j % 4 = 2 ∨ j % 4 = 3 := by omega
    rcases hj with h | h | h | h <;> rw [h] <;> refine ⟨_, rfl, fun t => ?_⟩ <;> rw [hs] <;> cases t <;> simp [T.getS, T.sA, T.sB, T.sC, T.sD, h]
theorem T.pp_some {α : Type} : ∀ (f k : Nat), k < f → ∃ g, T.pp α f k = .mk g ∧ ∀ (x : Option α) (t : T α) (i : Nat), (g x t).getS i = if i = k then x else t.getS i
  | 0, k, h => by omega
  | f + 1, 0, _ => ⟨T.u0, rfl, fun x t i => by cases t <;> cases i <;> simp [T.u0, T.getS]⟩
  | f + 1, j + 1, h => by
    obtain ⟨g, hg, hs⟩ := T.pp_some (α := α) f (j / 4) (by omega)
    rw [T.pp_step, hg]
    show ∃ g', T.us j g = .mk g' ∧ _
    unfold T.us
    rw [land3]
    have hj : j % 4 = 0 ∨ j % 4 = 1 ∨ j % 4 = 2 ∨ j % 4 = 3 := by omega
    rcases hj with h | h | h | h <;> rw [h] <;> refine ⟨_, rfl, fun x t i => ?_⟩ <;> cases i with
      | zero => cases t <;> simp [T.getS]
      | succ i =>
        have hi : i % 4 = 0 ∨ i % 4 = 1 ∨ i % 4 = 2 ∨ i % 4 = 3 := by omega
        by_cases hij : i = j
        · subst hij
          cases t <;> simp [T.getS, hs, h]
        · have h1 : ¬ (i + 1 = j + 1) := by omega
          rw [if_neg h1]
          rcases hi with h' | h' | h' | h' <;> cases t <;> simp [T.getS, hs, h'] <;> (intro h2; omega)
theorem T.get_eq {α : Type} (t : T α) (k : Nat) : t.get k = t.getS k := by
  obtain ⟨g, hg, hs⟩ := T.gp_some (α := α) (Nat.succ k) k (Nat.lt_succ_self k)
  unfold T.get
  rw [hg]; exact hs t
@[simp] theorem T.get_e {α : Type} (k : Nat) : (T.e : T α).get k = none := by rw [T.get_eq]; rfl
theorem T.get_put {α : Type} (x : Option α) (t : T α) (k i : Nat) : (t.put k x).get i = if i = k then x else t.get i := by
  obtain ⟨g, hg, hs⟩ := T.pp_some (α := α) (Nat.succ k) k (Nat.lt_succ_self k)
  rw [T.get_eq, T.get_eq]
  have : t.put k x = g x t := by
    unfold T.put
    rw [hg]
  rw [this]; exact hs x t i
@[simp] theorem T.get_put_same {α : Type} (t : T α) (k : Nat) (x : Option α) : (t.put k x).get k = x := by rw [T.get_put]; simp
theorem T.get_put_other {α : Type} (t : T α) (k i : Nat) (x : Option α) (h : i ≠ k) : (t.put k x).get i = t.get i := by rw [T.get_put]; simp [h]

-- cells of a row
theorem wr_get (l : List V) : ∀ (c : T V) (o i : Nat), (wr c o l).get i = if o ≤ i ∧ i < o + l.length then l[i - o]? else c.get i := by
  induction l with
  | nil => intro c o i; simp [wr]; intro h1 h2; omega
  | cons v l ih =>
    intro c o i
    show (wr (c.put o (some v)) (o + 1) l).get i = _
    rw [ih]
    by_cases h : o + 1 ≤ i ∧ i < o + 1 + l.length
    · rw [if_pos h, if_pos (by simp; omega)]
      have : i - o = (i - (o + 1)) + 1 := by omega
      rw [this]; simp
    · rw [if_neg h, T.get_put]
      by_cases he : i = o
      · subst he; simp
      · rw [if_neg he, if_neg (by simp; omega)]
theorem rd_some {c : T V} : ∀ {n o : Nat} {l : List V}, rd c n o = some l → l.length = n ∧ ∀ i, i < n → c.get (o + i) = l[i]? := by
  intro n
  induction n with
  | zero => intro o l h; simp [rd] at h; subst h; exact ⟨rfl, fun i hi => by omega⟩
  | succ n ih =>
    intro o l h
    simp only [rd] at h
    split at h
    · cases h
    · rename_i v hv
      split at h
      · cases h
      · rename_i r hr
        cases h
        obtain ⟨h1, h2⟩ := ih hr
        refine ⟨by simp [h1], fun i hi => ?_⟩
        cases i with
        | zero => simpa using hv
        | succ i => have := h2 i (by omega); rw [show o + (i + 1) = o + 1 + i by omega, this]; simp

-- frames
def N4.sel {α : Type} (x : N4 α) : Nat → α
  | 0 => x.a
  | 1 => x.b
  | 2 => x.c
  | _ => x.d
/-- a slot's value -/
def Fr.at (F : Fr) (t : Nat) : V := (((N4.sel F (t / 64)).sel (t / 16 % 4)).sel (t / 4 % 4)).sel (t % 4)
theorem selB_some {α : Type} {d : Nat} {f : N4 α → α} (h : selB d = .mk f) : d < 4 ∧ ∀ x : N4 α, f x = x.sel d := by
  match d with
  | 0 | 1 | 2 | 3 => simp only [selB, Box.mk.injEq] at h; subst h; exact ⟨by omega, fun _ => rfl⟩
  | _ + 4 => simp [selB] at h
theorem getB_some {t : Nat} {f : Fr → V} (h : getB t = .mk f) (F : Fr) : f F = F.at t := by
  unfold getB at h
  split at h; · cases h
  rename_i f1 h1
  split at h; · cases h
  rename_i f2 h2
  split at h; · cases h
  rename_i f3 h3
  split at h; · cases h
  rename_i f4 h4
  cases h
  show f4 (f3 (f2 (f1 F))) = _
  rw [(selB_some h1).2, (selB_some h2).2, (selB_some h3).2, (selB_some h4).2]
  rfl
theorem updB_some {α : Type} {d : Nat} {f : N4 α → (α → α) → N4 α} (h : updB d = .mk f) :
    d < 4 ∧ ∀ (x : N4 α) (g : α → α) (e : Nat), e < 4 → (f x g).sel e = if e = d then g (x.sel d) else x.sel e := by
  match d with
  | 0 | 1 | 2 | 3 =>
    simp only [updB, Box.mk.injEq] at h; subst h
    refine ⟨by omega, fun x g e he => ?_⟩
    obtain ⟨a, b, c, d⟩ := x
    match e with
    | 0 | 1 | 2 | 3 => rfl
  | _ + 4 => simp [updB] at h
theorem setB_some {t : Nat} {f : Fr → V → Fr} (h : setB t = .mk f) (F : Fr) (v : V) (i : Nat) (hi : i < 256) : (f F v).at i = if i = t then v else F.at i := by
  unfold setB at h
  split at h; · cases h
  rename_i f1 h1
  split at h; · cases h
  rename_i f2 h2
  split at h; · cases h
  rename_i f3 h3
  split at h; · cases h
  rename_i f4 h4
  cases h
  obtain ⟨b1, e1⟩ := updB_some h1
  obtain ⟨b2, e2⟩ := updB_some h2
  obtain ⟨b3, e3⟩ := updB_some h3
  obtain ⟨b4, e4⟩ := updB_some h4
  unfold Fr.at
  rw [e1 F _ (i / 64) (by omega)]
  by_cases q1 : i / 64 = t / 64
  · rw [if_pos q1, e2 _ _ (i / 16 % 4) (by omega)]
    by_cases q2 : i / 16 % 4 = t / 16 % 4
    · rw [if_pos q2, e3 _ _ (i / 4 % 4) (by omega)]
      by_cases q3 : i / 4 % 4 = t / 4 % 4
      · rw [if_pos q3, e4 _ _ (i % 4) (by omega)]
        by_cases q4 : i % 4 = t % 4
        · rw [if_pos q4, if_pos (by omega)]
        · rw [if_neg q4, if_neg (by omega), q1, q2, q3]
      · rw [if_neg q3, if_neg (by intro e; subst e; exact q3 rfl), q1, q2]
    · rw [if_neg q2, if_neg (by intro e; subst e; exact q2 rfl), q1]
  · rw [if_neg q1, if_neg (by intro e; subst e; exact q1 rfl)]
theorem setB_lt {t : Nat} {f : Fr → V → Fr} (h : setB t = .mk f) : t < 256 := by
  unfold setB at h
  split at h; · cases h
  rename_i f1 h1
  have := (updB_some h1).1
  omega
end Go.Xe
