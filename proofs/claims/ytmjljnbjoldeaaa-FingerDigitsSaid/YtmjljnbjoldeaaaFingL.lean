/- Trees with both ends at hand: the plain law. -/
import Derived.Test.YtmjljnbjoldeaaaMonoL
namespace Go.Fing
open Go Go.Tw Go.Mono

/-- a thing: a number, or two or three things of the level ahead -/
inductive T
  | num (x : Int)
  | n2 (a b : T)
  | n3 (a b c : T)
def T.l : T → List Int
  | .num x => [x]
  | .n2 a b => a.l ++ b.l
  | .n3 a b c => a.l ++ (b.l ++ c.l)
def T.kids : T → List T
  | .num _ => []
  | .n2 a b => [a, b]
  | .n3 a b c => [a, b, c]
def T.dep : T → Nat → Prop
  | .num _, 0 => True
  | .n2 a b, k + 1 => a.dep k ∧ b.dep k
  | .n3 a b c, k + 1 => a.dep k ∧ b.dep k ∧ c.dep k
  | _, _ => False
def ls (ts : List T) : List Int := ts.flatMap T.l
theorem ls_nil : ls [] = [] := rfl
theorem ls_cons (t : T) (ts : List T) : ls (t :: ts) = t.l ++ ls ts := rfl
theorem ls_append (a b : List T) : ls (a ++ b) = ls a ++ ls b := by simp [ls]
theorem ls_one (t : T) : ls [t] = t.l := by simp [ls]
def grp : List T → T
  | [a, b] => .n2 a b
  | [a, b, c] => .n3 a b c
  | _ => .num 0
/-- of two or three -/
def Few (ts : List T) : Prop := ts.length = 2 ∨ ts.length = 3
theorem few_cases {ts : List T} (h : Few ts) : (∃ a b, ts = [a, b]) ∨ ∃ a b c, ts = [a, b, c] := by
  rcases h with h | h
  · match ts, h with
    | [a, b], _ => exact .inl ⟨a, b, rfl⟩
  · match ts, h with
    | [a, b, c], _ => exact .inr ⟨a, b, c, rfl⟩
theorem grp_l {ts : List T} (h : Few ts) : (grp ts).l = ls ts := by
  rcases few_cases h with ⟨a, b, rfl⟩ | ⟨a, b, c, rfl⟩ <;> simp [grp, T.l, ls]
theorem grp_kids {ts : List T} (h : Few ts) : (grp ts).kids = ts := by
  rcases few_cases h with ⟨a, b, rfl⟩ | ⟨a, b, c, rfl⟩ <;> rfl
theorem grp_dep {ts : List T} {k : Nat} (h : Few ts) (hd : ∀ t ∈ ts, t.dep k) : (grp ts).dep (k + 1) := by
  rcases few_cases h with ⟨a, b, rfl⟩ | ⟨a, b, c, rfl⟩
  · exact ⟨hd a (by simp), hd b (by simp)⟩
  · exact ⟨hd a (by simp), hd b (by simp), hd c (by simp)⟩
theorem dep_kids {t : T} {k : Nat} (h : t.dep (k + 1)) : Few t.kids ∧ ls t.kids = t.l ∧ (∀ u ∈ t.kids, u.dep k) := by
  match t, h with
  | .n2 a b, h => exact ⟨.inl rfl, by simp [T.kids, T.l, ls], fun u hu => by simp [T.kids] at hu; rcases hu with rfl | rfl; exact h.1; exact h.2⟩
  | .n3 a b c, h => exact ⟨.inr rfl, by simp [T.kids, T.l, ls], fun u hu => by simp [T.kids] at hu; rcases hu with rfl | rfl | rfl; exact h.1; exact h.2.1; exact h.2.2⟩
theorem dep_num {t : T} (h : t.dep 0) : ∃ x, t = .num x := by
  match t, h with
  | .num x, _ => exact ⟨x, rfl⟩
theorem l_pos : ∀ (t : T), 0 < t.l.length
  | .num _ => by simp [T.l]
  | .n2 a b => by have := l_pos a; simp [T.l]; omega
  | .n3 a b c => by have := l_pos a; simp [T.l]; omega
theorem ls_pos {ts : List T} (h : ts ≠ []) : 0 < (ls ts).length := by
  cases ts with
  | nil => exact absurd rfl h
  | cons t ts => have := l_pos t; rw [ls_cons]; simp; omega

/-- a tree's level -/
inductive F
  | nil
  | one (t : T)
  | deep (l : List T) (m : F) (r : List T)
def F.l : F → List Int
  | .nil => []
  | .one t => t.l
  | .deep l m r => ls l ++ (m.l ++ ls r)
def D (ts : List T) (k : Nat) : Prop := 1 ≤ ts.length ∧ ts.length ≤ 4 ∧ ∀ t ∈ ts, t.dep k
def F.ok : F → Nat → Prop
  | .nil, _ => True
  | .one t, k => t.dep k
  | .deep l m r, k => D l k ∧ D r k ∧ m.ok (k + 1)
theorem D.ne {ts : List T} {k : Nat} (h : D ts k) : ts ≠ [] := by intro e; subst e; exact absurd h.1 (by decide)
theorem l_nil {v : F} {k : Nat} (h : v.ok k) (e : v.l = []) : v = .nil := by
  cases v with
  | nil => rfl
  | one t => have := l_pos t; have e : t.l = [] := e; rw [e] at this; simp at this
  | deep l m r =>
    have := ls_pos h.1.ne
    have e : ls l ++ (m.l ++ ls r) = [] := e
    rw [List.append_eq_nil_iff] at e
    rw [e.1] at this; simp at this

/-- put on the left, on the right -/
def pl (t : T) : F → F
  | .nil => .one t
  | .one u => .deep [t] .nil [u]
  | .deep l m r => if l.length < 4 then .deep (t :: l) m r else .deep [t, l.headD t] (pl (grp l.tail) m) r
def pr (t : T) : F → F
  | .nil => .one t
  | .one u => .deep [u] .nil [t]
  | .deep l m r => if r.length < 4 then .deep l m (r ++ [t]) else .deep l (pr (grp (r.take 3)) m) [r.getLastD t, t]
theorem four {ts : List T} (h : ts.length = 4) : ∃ a b c d, ts = [a, b, c, d] := by
  match ts, h with
  | [a, b, c, d], _ => exact ⟨a, b, c, d, rfl⟩
theorem pl_l : ∀ (v : F) (t : T) (k : Nat), v.ok k → (pl t v).l = t.l ++ v.l
  | .nil, t, k, _ => by simp [pl, F.l]
  | .one u, t, k, _ => by simp [pl, F.l, ls]
  | .deep l m r, t, k, h => by
    unfold pl
    split
    · simp [F.l, ls_cons]
    · have h4 : l.length = 4 := by have := h.1.2.1; omega
      obtain ⟨a, b, c, d, rfl⟩ := four h4
      simp only [F.l, List.headD_cons, List.tail_cons]
      rw [pl_l m _ (k + 1) h.2.2, grp_l (.inr rfl)]
      simp [ls]
theorem pl_ok : ∀ (v : F) (t : T) (k : Nat), v.ok k → t.dep k → (pl t v).ok k
  | .nil, t, k, _, ht => ht
  | .one u, t, k, hu, ht => ⟨⟨by simp, by simp, by simpa using ht⟩, ⟨by simp, by simp, by intro x hx; simp at hx; subst hx; exact hu⟩, trivial⟩
  | .deep l m r, t, k, h, ht => by
    unfold pl
    split
    case isTrue hl => exact ⟨⟨by simp, by simp; omega, by intro x hx; rcases List.mem_cons.1 hx with rfl | hx; exact ht; exact h.1.2.2 x hx⟩, h.2.1, h.2.2⟩
    case isFalse hl =>
      have h4 : l.length = 4 := by have := h.1.2.1; omega
      obtain ⟨a, b, c, d, rfl⟩ := four h4
      have hd := h.1.2.2
      refine ⟨⟨by simp, by simp, ?_⟩, h.2.1, pl_ok m _ (k + 1) h.2.2 (grp_dep (.inr rfl) fun x hx => hd x (List.mem_cons_of_mem _ hx))⟩
      intro x hx; simp at hx; rcases hx with rfl | rfl; exact ht; exact hd _ (by simp)
theorem pr_l : ∀ (v : F) (t : T) (k : Nat), v.ok k → (pr t v).l = v.l ++ t.l
  | .nil, t, k, _ => by simp [pr, F.l]
  | .one u, t, k, _ => by simp [pr, F.l, ls]
  | .deep l m r, t, k, h => by
    unfold pr
    split
    · simp [F.l, ls_append, ls_one]
    · have h4 : r.length = 4 := by have := h.2.1.2.1; omega
      obtain ⟨a, b, c, d, rfl⟩ := four h4
      simp only [F.l]
      rw [pr_l m _ (k + 1) h.2.2, grp_l (.inr rfl)]
      simp [ls]
theorem pr_ok : ∀ (v : F) (t : T) (k : Nat), v.ok k → t.dep k → (pr t v).ok k
  | .nil, t, k, _, ht => ht
  | .one u, t, k, hu, ht => ⟨⟨by simp, by simp, by intro x hx; simp at hx; subst hx; exact hu⟩, ⟨by simp, by simp, by simpa using ht⟩, trivial⟩
  | .deep l m r, t, k, h, ht => by
    unfold pr
    split
    case isTrue hl => exact ⟨h.1, ⟨by simp, by simp; omega, by intro x hx; rcases List.mem_append.1 hx with hx | hx; exact h.2.1.2.2 x hx; simp at hx; subst hx; exact ht⟩, h.2.2⟩
    case isFalse hl =>
      have h4 : r.length = 4 := by have := h.2.1.2.1; omega
      obtain ⟨a, b, c, d, rfl⟩ := four h4
      have hd := h.2.1.2.2
      refine ⟨h.1, ⟨by simp, by simp, ?_⟩, pr_ok m _ (k + 1) h.2.2 (grp_dep (.inr rfl) fun x hx => hd x (by simp at hx ⊢; rcases hx with h | h | h <;> simp [h]))⟩
      intro x hx; simp at hx; rcases hx with rfl | rfl; exact hd _ (by simp); exact ht

/-- some things as a level -/
def prs : F → List T → F
  | v, [] => v
  | v, t :: ts => prs (pr t v) ts
def pls : List T → F → F
  | [], v => v
  | t :: ts, v => pl t (pls ts v)
theorem prs_l : ∀ (ts : List T) (v : F) (k : Nat), v.ok k → (∀ t ∈ ts, t.dep k) → (prs v ts).l = v.l ++ ls ts ∧ (prs v ts).ok k
  | [], v, k, h, _ => ⟨by simp [prs, ls], h⟩
  | t :: ts, v, k, h, hd => by
    have ht := hd t (by simp)
    obtain ⟨e1, e2⟩ := prs_l ts (pr t v) k (pr_ok v t k h ht) fun x hx => hd x (by simp [hx])
    exact ⟨by rw [prs, e1, pr_l v t k h, ls_cons, List.append_assoc], e2⟩
theorem pls_l : ∀ (ts : List T) (v : F) (k : Nat), v.ok k → (∀ t ∈ ts, t.dep k) → (pls ts v).l = ls ts ++ v.l ∧ (pls ts v).ok k
  | [], v, k, h, _ => ⟨by simp [pls, ls], h⟩
  | t :: ts, v, k, h, hd => by
    have ht := hd t (by simp)
    obtain ⟨e1, e2⟩ := pls_l ts v k h fun x hx => hd x (by simp [hx])
    exact ⟨by rw [pls, pl_l _ t k e2, e1, ls_cons, List.append_assoc], pl_ok _ t k e2 ht⟩
theorem pls_snoc (ts : List T) (t : T) (v : F) : pls (ts ++ [t]) v = pls ts (pl t v) := by
  induction ts with
  | nil => rfl
  | cons u ts ih => show pl u (pls (ts ++ [t]) v) = pl u (pls ts (pl t v)); rw [ih]

/-- taken on the left, on the right -/
def popL : F → T × F
  | .nil => (.num 0, .nil)
  | .one t => (t, .nil)
  | .deep l m r => (l.headD (.num 0), if l.tail = [] then (match m with | .nil => prs .nil r | .one u => .deep u.kids .nil r | .deep a b c => .deep (popL (.deep a b c)).1.kids (popL (.deep a b c)).2 r) else .deep l.tail m r)
def popR : F → T × F
  | .nil => (.num 0, .nil)
  | .one t => (t, .nil)
  | .deep l m r => (r.getLastD (.num 0), if r.dropLast = [] then (match m with | .nil => prs .nil l | .one u => .deep l .nil u.kids | .deep a b c => .deep l (popR (.deep a b c)).2 (popR (.deep a b c)).1.kids) else .deep l m r.dropLast)
def dL (l : List T) (m : F) (r : List T) : F := if l = [] then (match m with | .nil => prs .nil r | m => .deep (popL m).1.kids (popL m).2 r) else .deep l m r
def dR (l : List T) (m : F) (r : List T) : F := if r = [] then (match m with | .nil => prs .nil l | m => .deep l (popR m).2 (popR m).1.kids) else .deep l m r
theorem popL_deep (l : List T) (m : F) (r : List T) : popL (.deep l m r) = (l.headD (.num 0), dL l.tail m r) := by
  unfold dL
  cases m with
  | nil => rw [popL.eq_def]
  | one u =>
    have e : popL (.one u) = (u, .nil) := rfl
    rw [popL.eq_def]; simp only [e]
  | deep a b c => rw [popL.eq_def]
theorem popR_deep (l : List T) (m : F) (r : List T) : popR (.deep l m r) = (r.getLastD (.num 0), dR l m r.dropLast) := by
  unfold dR
  cases m with
  | nil => rw [popR.eq_def]
  | one u =>
    have e : popR (.one u) = (u, .nil) := rfl
    rw [popR.eq_def]; simp only [e]
  | deep a b c => rw [popR.eq_def]
/-- digits that may be of nothing -/
def D0 (ts : List T) (k : Nat) : Prop := ts.length ≤ 4 ∧ ∀ t ∈ ts, t.dep k
theorem D.zero {ts : List T} {k : Nat} (h : D ts k) : D0 ts k := ⟨h.2.1, h.2.2⟩
theorem D0.one {ts : List T} {k : Nat} (h : D0 ts k) (hn : ts ≠ []) : D ts k := ⟨by cases ts with | nil => exact absurd rfl hn | cons _ _ => simp, h.1, h.2⟩
theorem kids_D {t : T} {k : Nat} (h : t.dep (k + 1)) : D t.kids k := by
  obtain ⟨h1, _, h3⟩ := dep_kids h
  exact ⟨by rcases h1 with h | h <;> omega, by rcases h1 with h | h <;> omega, h3⟩
def PopOk (v : F) (k : Nat) : Prop := (popL v).1.dep k ∧ (popL v).2.ok k ∧ (popL v).1.l ++ (popL v).2.l = v.l
def PopOkR (v : F) (k : Nat) : Prop := (popR v).1.dep k ∧ (popR v).2.ok k ∧ (popR v).2.l ++ (popR v).1.l = v.l
theorem dL_of {l : List T} {m : F} {r : List T} {k : Nat} (hl : D0 l k) (hm : m.ok (k + 1)) (hr : D r k) (hp : m ≠ .nil → PopOk m (k + 1)) : (dL l m r).ok k ∧ (dL l m r).l = ls l ++ (m.l ++ ls r) := by
  unfold dL
  split
  case isTrue h =>
    subst h
    cases m with
    | nil => obtain ⟨e1, e2⟩ := prs_l r .nil k trivial hr.2.2; exact ⟨e2, by simp only [e1]; simp [F.l, ls]⟩
    | one u =>
      have := hp (by intro e; cases e)
      exact ⟨⟨kids_D this.1, hr, this.2.1⟩, by show ls _ ++ _ = _; rw [(dep_kids this.1).2.1, ← List.append_assoc, this.2.2]; simp [F.l, ls]⟩
    | deep a b c =>
      have := hp (by intro e; cases e)
      exact ⟨⟨kids_D this.1, hr, this.2.1⟩, by show ls _ ++ _ = _; rw [(dep_kids this.1).2.1, ← List.append_assoc, this.2.2]; simp [ls]⟩
  case isFalse h => exact ⟨⟨hl.one h, hr, hm⟩, rfl⟩
theorem dR_of {l : List T} {m : F} {r : List T} {k : Nat} (hl : D l k) (hm : m.ok (k + 1)) (hr : D0 r k) (hp : m ≠ .nil → PopOkR m (k + 1)) : (dR l m r).ok k ∧ (dR l m r).l = ls l ++ (m.l ++ ls r) := by
  unfold dR
  split
  case isTrue h =>
    subst h
    cases m with
    | nil => obtain ⟨e1, e2⟩ := prs_l l .nil k trivial hl.2.2; exact ⟨e2, by simp only [e1]; simp [F.l, ls]⟩
    | one u =>
      have := hp (by intro e; cases e)
      exact ⟨⟨hl, kids_D this.1, this.2.1⟩, by show ls _ ++ (_ ++ ls _) = _; rw [(dep_kids this.1).2.1, this.2.2]; simp [F.l, ls]⟩
    | deep a b c =>
      have := hp (by intro e; cases e)
      exact ⟨⟨hl, kids_D this.1, this.2.1⟩, by show ls _ ++ (_ ++ ls _) = _; rw [(dep_kids this.1).2.1, this.2.2]; simp [ls]⟩
  case isFalse h => exact ⟨⟨hl, hr.one h, hm⟩, rfl⟩
theorem tail_D0 {t : T} {l : List T} {k : Nat} (h : D (t :: l) k) : D0 l k := ⟨by have := h.2.1; simp at this; omega, fun x hx => h.2.2 x (by simp [hx])⟩
theorem snoc_D0 {t : T} {l : List T} {k : Nat} (h : D (l ++ [t]) k) : D0 l k := ⟨by have := h.2.1; simp at this; omega, fun x hx => h.2.2 x (by simp [hx])⟩
theorem pop_ok : ∀ (v : F) (k : Nat), v.ok k → v ≠ .nil → PopOk v k
  | .nil, _, _, h => absurd rfl h
  | .one t, k, h, _ => ⟨h, trivial, by simp [popL, F.l]⟩
  | .deep l m r, k, h, _ => by
    have hp := pop_ok m (k + 1) h.2.2
    cases l with
    | nil => exact absurd rfl h.1.ne
    | cons t l =>
      obtain ⟨e1, e2⟩ := dL_of (tail_D0 h.1) h.2.2 h.2.1 hp
      unfold PopOk
      rw [popL_deep]
      exact ⟨h.1.2.2 t (by simp), e1, by simp only [List.headD_cons, List.tail_cons, e2, F.l, ls_cons, List.append_assoc]⟩
theorem popr_ok : ∀ (v : F) (k : Nat), v.ok k → v ≠ .nil → PopOkR v k
  | .nil, _, _, h => absurd rfl h
  | .one t, k, h, _ => ⟨h, trivial, by simp [popR, F.l]⟩
  | .deep l m r, k, h, _ => by
    have hp := popr_ok m (k + 1) h.2.2
    rcases List.eq_nil_or_concat r with rfl | ⟨r, t, rfl⟩
    · exact absurd rfl h.2.1.ne
    · rw [List.concat_eq_append] at h ⊢
      obtain ⟨e1, e2⟩ := dR_of h.1 h.2.2 (snoc_D0 h.2.1) hp
      unfold PopOkR
      rw [popR_deep]
      simp only [List.dropLast_concat, List.getLastD_concat]
      exact ⟨h.2.1.2.2 t (by simp), e1, by simp only [e2, F.l, ls_append, ls_one, List.append_assoc]⟩
theorem dL_ok {l : List T} {m : F} {r : List T} {k : Nat} (hl : D0 l k) (hm : m.ok (k + 1)) (hr : D r k) : (dL l m r).ok k ∧ (dL l m r).l = ls l ++ (m.l ++ ls r) := dL_of hl hm hr (pop_ok m (k + 1) hm)
theorem dR_ok {l : List T} {m : F} {r : List T} {k : Nat} (hl : D l k) (hm : m.ok (k + 1)) (hr : D0 r k) : (dR l m r).ok k ∧ (dR l m r).l = ls l ++ (m.l ++ ls r) := dR_of hl hm hr (popr_ok m (k + 1) hm)

/-- groups of two or three -/
def twos : List T → List T
  | a :: b :: l => .n2 a b :: twos l
  | _ => []
def groups (l : List T) : List T :=
  match l with
  | a :: b :: c :: r => if l.length > 4 ∨ l.length = 3 then .n3 a b c :: groups r else twos l
  | l => twos l
termination_by l.length
theorem groups_step {a b c : T} {r : List T} (h : r.length + 3 > 4 ∨ r.length + 3 = 3) : groups (a :: b :: c :: r) = .n3 a b c :: groups r := by
  rw [groups]; rw [if_pos (by simpa using h)]
theorem groups_end {l : List T} (h : ¬ (l.length > 4 ∨ l.length = 3)) : groups l = twos l := by
  match l with
  | [] => rw [groups]; intros; contradiction
  | [a] => rw [groups]; intro _ _ _ _ e; simp at e
  | [a, b] => rw [groups]; intro _ _ _ _ e; simp at e
  | a :: b :: c :: r => rw [groups, if_neg h]
theorem groups_ok : ∀ (n : Nat) (l : List T) (k : Nat), l.length = n → n ≠ 1 → (∀ t ∈ l, t.dep k) → ls (groups l) = ls l ∧ (∀ t ∈ groups l, t.dep (k + 1)) ∧ 3 * (groups l).length ≤ n + 2 := by
  intro n
  induction n using Nat.strongRecOn with
  | ind n ih =>
    intro l k hl hn hd
    by_cases h : l.length > 4 ∨ l.length = 3
    · match l, hl, hd, h with
      | a :: b :: c :: r, hl, hd, h =>
        simp only [List.length_cons] at h hl
        obtain ⟨e1, e2, e3⟩ := ih r.length (by omega) r k rfl (by omega) fun t ht => hd t (by simp [ht])
        rw [groups_step (by omega)]
        refine ⟨?_, ?_, by simp; omega⟩
        · rw [ls_cons, e1]; simp [T.l, ls]
        · intro t ht
          rcases List.mem_cons.1 ht with rfl | ht
          · exact ⟨hd a (by simp), hd b (by simp), hd c (by simp)⟩
          · exact e2 t ht
    · rw [groups_end h]
      match l, hl, hd, h with
      | [], hl, hd, h => exact ⟨rfl, by simp [twos], by simp [twos]⟩
      | [a], hl, hd, h => exact absurd hl.symm hn
      | [a, b], hl, hd, h => exact ⟨by simp [twos, T.l, ls], by intro t ht; simp [twos] at ht; subst ht; exact ⟨hd a (by simp), hd b (by simp)⟩, by simp [twos]; simp at hl; omega⟩
      | [a, b, c], hl, hd, h => exact absurd (.inr rfl) h
      | [a, b, c, d], hl, hd, h => exact ⟨by simp [twos, T.l, ls], by intro t ht; simp [twos] at ht; rcases ht with rfl | rfl; exact ⟨hd a (by simp), hd b (by simp)⟩; exact ⟨hd c (by simp), hd d (by simp)⟩, by simp [twos]; simp at hl; omega⟩
      | a :: b :: c :: d :: e :: r, hl, hd, h => exact absurd (.inl (by simp)) h

/-- joined, some things between -/
def jn : F → List T → F → F
  | .nil, ts, b => pls ts b
  | .one u, ts, b => pls (u :: ts) b
  | .deep l m r, ts, .nil => prs (.deep l m r) ts
  | .deep l m r, ts, .one u => prs (.deep l m r) (ts ++ [u])
  | .deep l m r, ts, .deep l' m' r' => .deep l (jn m (groups (r ++ (ts ++ l'))) m') r'
theorem jn_ok : ∀ (a : F) (ts : List T) (b : F) (k : Nat), a.ok k → b.ok k → (∀ t ∈ ts, t.dep k) → (jn a ts b).ok k ∧ (jn a ts b).l = a.l ++ (ls ts ++ b.l)
  | .nil, ts, b, k, _, hb, hd => by obtain ⟨e1, e2⟩ := pls_l ts b k hb hd; exact ⟨e2, e1⟩
  | .one u, ts, b, k, hu, hb, hd => by
    obtain ⟨e1, e2⟩ := pls_l (u :: ts) b k hb (by intro x hx; rcases List.mem_cons.1 hx with rfl | hx; exact hu; exact hd x hx)
    exact ⟨e2, by rw [jn, e1, ls_cons, List.append_assoc]; rfl⟩
  | .deep l m r, ts, .nil, k, ha, _, hd => by obtain ⟨e1, e2⟩ := prs_l ts _ k ha hd; exact ⟨e2, by rw [jn, e1]; simp [F.l]⟩
  | .deep l m r, ts, .one u, k, ha, hu, hd => by
    obtain ⟨e1, e2⟩ := prs_l (ts ++ [u]) _ k ha (by intro x hx; rcases List.mem_append.1 hx with hx | hx; exact hd x hx; simp at hx; subst hx; exact hu)
    exact ⟨e2, by rw [jn, e1, ls_append, ls_one]; rfl⟩
  | .deep l m r, ts, .deep l' m' r', k, ha, hb, hd => by
    have hdd : ∀ t ∈ r ++ (ts ++ l'), t.dep k := by
      intro t ht
      rcases List.mem_append.1 ht with ht | ht
      · exact ha.2.1.2.2 t ht
      · rcases List.mem_append.1 ht with ht | ht
        · exact hd t ht
        · exact hb.1.2.2 t ht
    obtain ⟨g1, g2, _⟩ := groups_ok _ (r ++ (ts ++ l')) k rfl (by have := ha.2.1.1; have := hb.1.1; simp; omega) hdd
    obtain ⟨e1, e2⟩ := jn_ok m (groups (r ++ (ts ++ l'))) m' (k + 1) ha.2.2 hb.2.2 g2
    refine ⟨⟨ha.1, hb.2.1, e1⟩, ?_⟩
    show ls l ++ ((jn m _ m').l ++ ls r') = _
    rw [e2, g1, ls_append, ls_append]
    simp [F.l, List.append_assoc]
end Go.Fing
