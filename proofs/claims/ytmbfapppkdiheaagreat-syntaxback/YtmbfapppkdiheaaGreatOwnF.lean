/- A value semantics of the model's programs, sound against it, and functions read off the given program with the proofs that it runs so; no condition. -/
import Derived.Test.YtmbfapppkdiheaaGreatOwnE
set_option linter.all false
set_option linter.unnecessarySimpa false
set_option linter.unusedVariables false
set_option linter.unusedSimpArgs false
/- part S1l -/
/- Plain lemmas: a set's text. -/
namespace Go.Val
noncomputable section
theorem roomS7 {n : Nat} (h : n ≤ 9223372036854775807) : roomS n = some () := by
  unfold roomS
  rw [if_neg]
  have : IntKind.i64.max = 9223372036854775807 := by decide
  omega
def dig7 (d : Nat) : UInt8 := if d < 10 then UInt8.ofNat (48 + d) else UInt8.ofNat (55 + d)
def dv7 (c : UInt8) : Nat := if c.toNat < 58 then c.toNat - 48 else c.toNat - 55
theorem dig7_all : ∀ d : Fin 16, dv7 (dig7 d.1) = d.1 ∧ dig7 d.1 ≠ 125 ∧ ([48, 49, 50, 51, 52, 53, 54, 55, 56, 57, 65, 66, 67, 68, 69, 70] : Str)[d.1]? = some (dig7 d.1) := by decide
theorem hexU_small {n : Nat} (h : n < 16) : hexU n = [dig7 n] := by rw [hexU, dif_pos h]; rfl
theorem hexU_step {n : Nat} (h : ¬ n < 16) : hexU n = hexU (n / 16) ++ [dig7 (n % 16)] := by rw [hexU, dif_neg h, hexU_small (n := n % 16) (by omega)]
def valH (l : Str) : Nat := l.foldl (fun a c => a * 16 + dv7 c) 0
theorem hexU_facts : ∀ (k n : Nat), n < 16 ^ (k + 1) → (hexU n).length ≤ k + 1 ∧ (∀ c ∈ hexU n, c ≠ 125) ∧ valH (hexU n) = n
  | k, n, h => by
    by_cases h16 : n < 16
    · obtain ⟨h1, h2, _⟩ := dig7_all ⟨n, h16⟩
      simp only at h1 h2
      rw [hexU_small h16]
      exact ⟨by simp, fun c hc => by rw [List.mem_singleton.1 hc]; exact h2, by simp [valH, h1]⟩
    · cases k with
      | zero => omega
      | succ k =>
        have hp : n / 16 < 16 ^ (k + 1) := by rw [Nat.pow_succ] at h; omega
        obtain ⟨g1, g2, g3⟩ := hexU_facts k (n / 16) hp
        obtain ⟨h1, h2, _⟩ := dig7_all ⟨n % 16, by omega⟩
        simp only at h1 h2
        rw [hexU_step h16]
        refine ⟨by simp; omega, fun c hc => ?_, ?_⟩
        · rcases List.mem_append.1 hc with hc | hc
          · exact g2 c hc
          · rw [List.mem_singleton.1 hc]; exact h2
        · have : valH (hexU (n / 16) ++ [dig7 (n % 16)]) = valH (hexU (n / 16)) * 16 + dv7 (dig7 (n % 16)) := by unfold valH; rw [List.foldl_append]; rfl
          rw [this, g3, h1]; omega
theorem hexU_inj {n m : Nat} (hn : n ≤ 1114111) (hm : m ≤ 1114111) (h : hexU n = hexU m) : n = m := by
  have h1 := (hexU_facts 5 n (by omega)).2.2
  rw [h, (hexU_facts 5 m (by omega)).2.2] at h1
  exact h1.symm
def encR (x : TRange) : Str := hexX x.Low ++ if x.High = x.Low then [] else 45 :: hexX x.High
theorem hexX_len {n : Int} (h1 : n ≤ 1114111) : (hexX n).length ≤ 10 := by
  have := (hexU_facts 5 n.toNat (by omega)).1
  unfold hexX; simp only [List.length_append, List.length_cons, List.length_nil]; omega
theorem encR_len {x : TRange} (h : Ok x) : (encR x).length ≤ 21 := by
  unfold Ok at h
  have h1 := hexX_len (n := x.Low) (by omega)
  have h2 := hexX_len (n := x.High) (by omega)
  unfold encR
  rw [List.length_append]
  split
  · simp; omega
  · simp only [List.length_cons]; omega
theorem flat_facts : ∀ {l : List TRange}, (∀ x ∈ l, Ok x) → (l.flatMap encR).length ≤ 21 * l.length
  | [], _ => by simp
  | x :: l, h => by
    have h1 := encR_len (h x (by simp))
    have h2 := flat_facts (l := l) fun y hy => h y (by simp [hy])
    rw [List.flatMap_cons, List.length_append, List.length_cons]; omega
theorem setText_eq (l : List TRange) : setText l = 91 :: (l.flatMap encR ++ [93]) := rfl
theorem setText_len {l : List TRange} (h : ∀ x ∈ l, Ok x) : (setText l).length ≤ 21 * l.length + 2 := by
  have := flat_facts h
  rw [setText_eq]; simp only [List.length_cons, List.length_append, List.length_nil]; omega
theorem lexSet_text {l : List TRange} (ho : ∀ x ∈ l, Ok x) (hl : l.length ≤ 1200000) : lex_Set l = some (setText l) := by
  unfold lex_Set
  rw [if_pos ⟨hl, fun x hx => by have := ho x hx; unfold Ok at this; omega⟩]
/-- Of two texts that end at a sign, in which it is not, each part is the same. -/
theorem split_at {c : UInt8} : ∀ {A B R S : Str}, (∀ x ∈ A, x ≠ c) → (∀ x ∈ B, x ≠ c) → A ++ c :: R = B ++ c :: S → A = B ∧ R = S
  | [], [], R, S, _, _, h => ⟨rfl, by simpa using h⟩
  | [], b :: B, R, S, _, hb, h => by
    simp only [List.nil_append, List.cons_append, List.cons.injEq] at h
    exact absurd h.1.symm (hb b (by simp))
  | a :: A, [], R, S, ha, _, h => by
    simp only [List.nil_append, List.cons_append, List.cons.injEq] at h
    exact absurd h.1 (ha a (by simp))
  | a :: A, b :: B, R, S, ha, hb, h => by
    simp only [List.cons_append, List.cons.injEq] at h
    obtain ⟨h1, h2⟩ := split_at (fun x hx => ha x (List.mem_cons_of_mem _ hx)) (fun x hx => hb x (List.mem_cons_of_mem _ hx)) h.2
    exact ⟨by rw [h.1, h1], h2⟩
theorem hexX_split {n m : Int} {A B : Str} (hn : 0 ≤ n ∧ n ≤ 1114111) (hm : 0 ≤ m ∧ m ≤ 1114111) (h : hexX n ++ A = hexX m ++ B) : n = m ∧ A = B := by
  unfold hexX at h
  simp only [List.cons_append, List.nil_append, List.append_assoc, List.cons.injEq, true_and] at h
  obtain ⟨h1, h2⟩ := split_at (hexU_facts 5 n.toNat (by omega)).2.1 (hexU_facts 5 m.toNat (by omega)).2.1 h
  have := hexU_inj (by omega) (by omega) h1
  exact ⟨by omega, h2⟩
theorem tail_head (l : List TRange) : ∃ c r, l.flatMap encR ++ [93] = c :: r ∧ c ≠ 45 := by
  cases l with
  | nil => exact ⟨93, [], rfl, by decide⟩
  | cons x l => exact ⟨92, _, rfl, by decide⟩
theorem flat_inj : ∀ {l m : List TRange}, (∀ x ∈ l, Ok x) → (∀ x ∈ m, Ok x) → l.flatMap encR ++ [93] = m.flatMap encR ++ [93] → l = m
  | [], [], _, _, _ => rfl
  | [], y :: m, _, _, h => by
    have h2 : (93 : UInt8) :: [] = 92 :: _ := h
    simp at h2
  | x :: l, [], _, _, h => by
    have h2 : (92 : UInt8) :: _ = 93 :: [] := h
    simp at h2
  | x :: l, y :: m, hl, hm, h => by
    have hx := hl x (by simp)
    have hy := hm y (by simp)
    unfold Ok at hx hy
    simp only [List.flatMap_cons] at h
    unfold encR at h
    simp only [List.append_assoc] at h
    obtain ⟨h1, h2⟩ := hexX_split (by omega) (by omega) h
    obtain ⟨c, r, hc, hc2⟩ := tail_head l
    obtain ⟨d, q, hd, hd2⟩ := tail_head m
    have ih := flat_inj (l := l) (m := m) (fun z hz => hl z (by simp [hz])) (fun z hz => hm z (by simp [hz]))
    unfold encR at ih hc hd
    by_cases ex : x.High = x.Low
    · rw [if_pos ex, List.nil_append] at h2
      by_cases ey : y.High = y.Low
      · rw [if_pos ey, List.nil_append] at h2
        rw [ih h2]
        have : x = y := by cases x; cases y; simp_all
        rw [this]
      · rw [if_neg ey, hc] at h2
        simp only [List.cons_append, List.cons.injEq] at h2
        exact absurd h2.1 hc2
    · rw [if_neg ex] at h2
      by_cases ey : y.High = y.Low
      · rw [if_pos ey, List.nil_append, hd] at h2
        simp only [List.cons_append, List.cons.injEq] at h2
        exact absurd h2.1.symm hd2
      · rw [if_neg ey] at h2
        simp only [List.cons_append, List.cons.injEq, true_and] at h2
        obtain ⟨h3, h4⟩ := hexX_split (by omega) (by omega) h2
        rw [ih h4]
        have : x = y := by cases x; cases y; simp_all
        rw [this]
theorem setText_inj {l m : List TRange} (hl : ∀ x ∈ l, Ok x) (hm : ∀ x ∈ m, Ok x) (h : setText l = setText m) : l = m := by
  rw [setText_eq, setText_eq] at h
  simp only [List.cons.injEq, true_and] at h
  exact flat_inj hl hm h
end
end Go.Val

/- part S2l -/
/- Plain lemmas: trees, and how many nodes they have. -/
namespace Go.Val
noncomputable section
theorem TNode.ind {P : TNode → Prop} (h : ∀ n : TNode, (∀ k ∈ n.Kids, P k) → P n) : ∀ n, P n := by
  intro n
  have key : ∀ m (n : TNode), SizeOf.sizeOf n < m → P n := by
    intro m
    induction m with
    | zero => intro n hn; omega
    | succ m ih =>
      intro n hn
      refine h n fun k hk => ih k ?_
      have h1 := List.sizeOf_lt_of_mem hk
      cases n with
      | mk a b ks =>
        simp only [TNode.mk.sizeOf_spec] at hn h1
        omega
  exact key _ n (Nat.lt_succ_self _)
mutual
def nsize : TNode → Nat
  | ⟨_, _, ks⟩ => 1 + nsizeL ks
def nsizeL : List TNode → Nat
  | [] => 0
  | x :: xs => nsize x + nsizeL xs
end
theorem nsize_eq (n : TNode) : nsize n = 1 + nsizeL n.Kids := by cases n; rw [nsize]
theorem nsize_mem : ∀ {l : List TNode} {x : TNode}, x ∈ l → nsize x ≤ nsizeL l
  | y :: l, x, h => by
    rw [nsizeL]
    rcases List.mem_cons.1 h with rfl | h
    · omega
    · have := nsize_mem h; omega
theorem nsize_pos (n : TNode) : 1 ≤ nsize n := by rw [nsize_eq]; omega
theorem nsize_kid {n x : TNode} (h : x ∈ n.Kids) : nsize x < nsize n := by
  have := nsize_mem h
  rw [nsize_eq n]; omega
theorem take_snocS {α : Type} {l : List α} {s : Nat} (h : s < l.length) : l.take (s + 1) = l.take s ++ [l[s]] := by rw [List.take_add_one, List.getElem?_eq_getElem h]; rfl
mutual
def nodesV : TNode → Nat → Int → Nat
  | ⟨_, _, ks⟩, most, deep => min (nodesL ks most deep 1) most
def nodesL : List TNode → Nat → Int → Nat → Nat
  | [], _, _, k => k
  | x :: xs, most, deep, k => if most ≤ k ∨ deep ≤ 0 then most else nodesL xs most deep (k + nodesV x (most - k) (deep - 1))
end
theorem nodesV_eq (n : TNode) (most : Nat) (deep : Int) : nodesV n most deep = min (nodesL n.Kids most deep 1) most := by cases n; rw [nodesV]
theorem nodesV_le (n : TNode) (most : Nat) (deep : Int) : nodesV n most deep ≤ most := by rw [nodesV_eq]; exact Nat.min_le_right _ _
theorem nodesL_pos : ∀ (l : List TNode) (most : Nat) (deep : Int) (k : Nat), 1 ≤ k → k ≤ most → 1 ≤ nodesL l most deep k
  | [], most, deep, k, h1, h2 => by rw [nodesL]; exact h1
  | x :: l, most, deep, k, h1, h2 => by
    rw [nodesL]
    split
    · omega
    · exact nodesL_pos l most deep _ (by omega) (by have := nodesV_le x (most - k) (deep - 1); omega)
theorem nodesV_pos (n : TNode) {most : Nat} (deep : Int) (h : 1 ≤ most) : 1 ≤ nodesV n most deep := by
  have := nodesL_pos n.Kids most deep 1 (Nat.le_refl _) h
  rw [nodesV_eq]; omega
theorem nodesV_size : ∀ (n : TNode) (most : Nat) (deep : Int), nodesV n most deep < most → nodesV n most deep = nsize n := by
  refine TNode.ind fun n ih most deep h => ?_
  have loop : ∀ (l : List TNode) (k : Nat), (∀ x ∈ l, x ∈ n.Kids) → nodesL l most deep k < most → nodesL l most deep k = k + nsizeL l := by
    intro l
    induction l with
    | nil => intro k _ h; simp [nodesL, nsizeL]
    | cons x l ihl =>
      intro k hs h
      rw [nodesL] at h ⊢
      by_cases hc : most ≤ k ∨ deep ≤ 0
      · rw [if_pos hc] at h; omega
      · rw [if_neg hc] at h ⊢
        have h1 := ihl _ (fun y hy => hs y (by simp [hy])) h
        rw [h1] at h ⊢
        have h2 := ih x (hs x (by simp)) (most - k) (deep - 1) (by omega)
        rw [h2, nsizeL]; omega
  rw [nodesV_eq] at h ⊢
  have := loop n.Kids 1 (fun _ hx => hx) (by omega)
  rw [nsize_eq]
  omega
theorem Nodes_r : ∀ (n : TNode) (fu most : Nat) (deep : Int), nsize n ≤ fu → 1 ≤ most → most ≤ 1000 → 0 ≤ deep → deep ≤ 1000 → scansionref08_Nodes.r fu n (most : Int) deep = some ((nodesV n most deep : Nat) : Int) := by
  refine TNode.ind fun n ih => ?_
  intro fu most deep hfu h1 h2 h3 h4
  have hp := nsize_pos n
  obtain ⟨fu, rfl⟩ : ∃ k, fu = k + 1 := ⟨fu - 1, by omega⟩
  have loop : ∀ (l : List TNode) (i k : Nat), n.Kids.drop i = l → i < k → k ≤ most → Loop (scansionref08_Nodes.b1 (scansionref08_Nodes.r fu) n (most : Int) deep) ((k : Int), (i : Int)) = some ((min (nodesL l most deep k) most : Nat) : Int) := by
    intro l
    induction l with
    | nil =>
      intro i k hl hk1 hk2
      have hi : n.Kids.length ≤ i := List.drop_eq_nil_iff.1 hl
      refine Loop_end ?_
      simp only [scansionref08_Nodes.b1]
      rw [if_neg (by simp; omega)]
      unfold scansionref08_Nodes.k1 mn
      rw [nodesL, if_neg (by omega), show min k most = k by omega]
    | cons x l ihl =>
      intro i k hl hk1 hk2
      have hil : i < n.Kids.length := by
        rcases Nat.lt_or_ge i n.Kids.length with h | h
        · exact h
        · rw [List.drop_eq_nil_of_le h] at hl; cases hl
      have hd := List.drop_eq_getElem_cons hil
      rw [hl] at hd
      simp only [List.cons.injEq] at hd
      obtain ⟨hx, hd⟩ := hd
      rw [nodesL]
      by_cases hstop : most ≤ k ∨ deep ≤ 0
      · rw [if_pos hstop, Nat.min_self]
        refine Loop_done ?_
        simp only [scansionref08_Nodes.b1]
        rw [if_pos (by simpa using hil), if_pos (by simp; omega)]
      · have hm := nodesV_le x (most - k) (deep - 1)
        have hm1 := nodesV_pos x (deep - 1) (most := most - k) (by omega)
        rw [if_neg hstop, ← ihl (i + 1) (k + nodesV x (most - k) (deep - 1)) hd.symm (by omega) (by omega)]
        refine Loop_next ?_
        simp only [scansionref08_Nodes.b1]
        have e1 : IntKind.i64.wrap ((most : Int) - (k : Int)) = ((most - k : Nat) : Int) := by rw [w64 (by omega) (by omega)]; omega
        have e2 : IntKind.i64.wrap (deep - 1) = deep - 1 := w64 (by omega) (by omega)
        have hkid := ih x (by rw [hx]; exact List.getElem_mem hil) fu (most - k) (deep - 1) (by have := nsize_kid (n := n) (List.getElem_mem hil); rw [hx]; omega) (by omega) (by omega) (by omega) (by omega)
        rw [if_pos (by simpa using hil), if_neg (by simp; omega), idx_nat, List.getElem?_eq_getElem hil, Option.bind_some, e1, e2, ← hx, hkid, Option.bind_some, w64 (n := (k : Int) + ((nodesV x (most - k) (deep - 1) : Nat) : Int)) (by omega) (by omega), w64s (by omega)]
        rfl
  simp only [scansionref08_Nodes.r]
  rw [nodesV_eq]
  exact loop n.Kids 0 1 rfl (by omega) h1
theorem Nodes_spec (n : TNode) : scansionref08_Nodes n 150 60 = some ((nodesV n 150 60 : Nat) : Int) := lim_eq (nsize n) fun fu h => Nodes_r n fu 150 60 h (by omega) (by omega) (by omega) (by omega)
/-- A loop that looks through all. -/
theorem Loop_scan {ρ : Type} {b : Int → Option (Step Int ρ)} {P : Nat → Prop} {n : Nat} {bad : ρ} {R : Option ρ} (h : ∀ j : Nat, j < n → (P j ∧ b (j : Int) = some (.next ((j + 1 : Nat) : Int))) ∨ (¬ P j ∧ b (j : Int) = some (.done bad))) (he : b (n : Int) = R.map Step.done) :
    ((∀ j, j < n → P j) ∧ Loop b 0 = R) ∨ ((¬ ∀ j, j < n → P j) ∧ Loop b 0 = some bad) := by
  have key : ∀ d k : Nat, k + d = n → ((∀ j, k ≤ j → j < n → P j) ∧ Loop b (k : Int) = R) ∨ ((¬ ∀ j, k ≤ j → j < n → P j) ∧ Loop b (k : Int) = some bad) := by
    intro d
    induction d with
    | zero =>
      intro k hk
      obtain rfl : k = n := by omega
      exact .inl ⟨fun j h1 h2 => by omega, Loop_end he⟩
    | succ d ih =>
      intro k hk
      rcases h k (by omega) with ⟨h1, h2⟩ | ⟨h1, h2⟩
      · rw [Loop_next h2]
        rcases ih (k + 1) (by omega) with ⟨g1, g2⟩ | ⟨g1, g2⟩
        · refine .inl ⟨fun j hj hjn => ?_, g2⟩
          rcases Nat.eq_or_lt_of_le hj with e | e
          · subst e; exact h1
          · exact g1 j e hjn
        · exact .inr ⟨fun hall => g1 fun j hj hjn => hall j (by omega) hjn, g2⟩
      · exact .inr ⟨fun hall => h1 (hall k (Nat.le_refl _) (by omega)), Loop_done h2⟩
  rcases key n 0 (by omega) with ⟨g1, g2⟩ | ⟨g1, g2⟩
  · exact .inl ⟨fun j hj => g1 j (Nat.zero_le _) hj, g2⟩
  · exact .inr ⟨fun hall => g1 fun j _ hj => hall j hj, g2⟩
/-- A program that is few. -/
structure FewP (p : TProgram) : Prop where
  sets : p.Sets.length ≤ 70
  rules : p.Rules.length ≤ 70
  each : ∀ s ∈ p.Sets, s.length ≤ 40
  nodes : ∀ r ∈ p.Rules, nsize r.Left < 150 ∧ nsize r.Right < 150
theorem few_eq (p : TProgram) : ∃ b, scansionlaw08_few p = some b ∧ (b = true → FewP p) := by
  unfold scansionlaw08_few
  by_cases h0 : p.Sets.length ≤ 70 ∧ p.Rules.length ≤ 70
  · rw [if_neg (by simp; omega)]
    have hsets := Loop_scan (b := scansionlaw08_few.b2 p) (P := fun j => ∀ hj : j < p.Sets.length, p.Sets[j].length ≤ 40) (n := p.Sets.length) (bad := false) (R := scansionlaw08_few.k1 p) (fun j hj => by
      by_cases hc : p.Sets[j].length ≤ 40
      · refine .inl ⟨fun _ => hc, ?_⟩
        simp only [scansionlaw08_few.b2]
        rw [if_pos (by simpa using hj), idx_nat, List.getElem?_eq_getElem hj, Option.bind_some, if_neg (by simp; omega), w64s (by omega)]
      · refine .inr ⟨fun h => hc (h hj), ?_⟩
        simp only [scansionlaw08_few.b2]
        rw [if_pos (by simpa using hj), idx_nat, List.getElem?_eq_getElem hj, Option.bind_some, if_pos (by simp; omega)]) (by
      simp only [scansionlaw08_few.b2]
      rw [if_neg (by simp)])
    rcases hsets with ⟨hs1, hs2⟩ | ⟨_, hs2⟩
    · rw [hs2]
      unfold scansionlaw08_few.k1
      have hrules := Loop_scan (b := scansionlaw08_few.b1 p) (P := fun j => ∀ hj : j < p.Rules.length, nodesV p.Rules[j].Left 150 60 < 150 ∧ nodesV p.Rules[j].Right 150 60 < 150) (n := p.Rules.length) (bad := false) (R := some true) (fun j hj => by
        by_cases hc1 : nodesV p.Rules[j].Left 150 60 < 150
        · by_cases hc2 : nodesV p.Rules[j].Right 150 60 < 150
          · refine .inl ⟨fun _ => ⟨hc1, hc2⟩, ?_⟩
            simp only [scansionlaw08_few.b1]
            rw [if_pos (by simpa using hj), idx_nat, List.getElem?_eq_getElem hj, Option.bind_some, Nodes_spec, Option.bind_some, if_neg (by simp; omega), Nodes_spec, Option.bind_some, Option.bind_some, if_neg (by simp; omega), w64s (by omega)]
          · refine .inr ⟨fun h => hc2 (h hj).2, ?_⟩
            simp only [scansionlaw08_few.b1]
            rw [if_pos (by simpa using hj), idx_nat, List.getElem?_eq_getElem hj, Option.bind_some, Nodes_spec, Option.bind_some, if_neg (by simp; omega), Nodes_spec, Option.bind_some, Option.bind_some, if_pos (by simp; omega)]
        · refine .inr ⟨fun h => hc1 (h hj).1, ?_⟩
          simp only [scansionlaw08_few.b1]
          rw [if_pos (by simpa using hj), idx_nat, List.getElem?_eq_getElem hj, Option.bind_some, Nodes_spec, Option.bind_some, if_pos (by simp; omega), Option.bind_some, if_pos rfl]) (by
        simp only [scansionlaw08_few.b1]
        rw [if_neg (by simp)]; rfl)
      rcases hrules with ⟨hr1, hr2⟩ | ⟨_, hr2⟩
      · refine ⟨true, hr2, fun _ => ⟨h0.1, h0.2, fun s hs => ?_, fun r hr => ?_⟩⟩
        · obtain ⟨j, hj, rfl⟩ := List.getElem_of_mem hs
          exact hs1 j hj hj
        · obtain ⟨j, hj, rfl⟩ := List.getElem_of_mem hr
          have := hr1 j hj hj
          rw [← nodesV_size _ 150 60 this.1, ← nodesV_size _ 150 60 this.2]; exact this
      · exact ⟨false, hr2, by simp⟩
    · exact ⟨false, hs2, by simp⟩
  · rw [if_pos (by simp; omega)]
    exact ⟨false, rfl, by simp⟩
end
end Go.Val

/- part S3l -/
/- Plain lemmas: whether an expression may be. -/
namespace Go.Val
noncomputable section
/-- Does a part stand in brackets, in one of this kind? -/
def openB (k : Int) (x : TNode) : Bool := decide (x.Kind = 2) || (decide (x.Kind = 0) && !decide (k = 2))
def signK (k : Int) : Bool := decide (3 ≤ k) && decide (k ≤ 5)
def fitsB (k : Int) (m : Nat) : Bool := if k = 0 then !decide (m = 1) else if k = 2 then decide (1 < m) else signK k && decide (m = 1)
def signsN (k : Int) (g : Nat) : Nat := if signK k then g + 1 else 0
def moreN (k : Int) (x : TNode) (d : Nat) : Nat := if openB k x then d + 1 else d
mutual
def formB (sets : Nat) : TNode → Nat → Nat → Bool
  | ⟨k, s, ks⟩, d, g => if k = 1 then ks.isEmpty && (decide (0 ≤ s) && decide (s < (sets : Int))) else decide (s = 0) && (fitsB k ks.length && (decide (signsN k g ≤ 3) && formL sets k ks d (signsN k g)))
def formL (sets : Nat) (k : Int) : List TNode → Nat → Nat → Bool
  | [], _, _ => true
  | x :: xs, d, g => decide (moreN k x d ≤ 20) && (formB sets x (moreN k x d) g && formL sets k xs d g)
end
theorem formB_eq (sets : Nat) (n : TNode) (d g : Nat) : formB sets n d g = if n.Kind = 1 then n.Kids.isEmpty && (decide (0 ≤ n.Set) && decide (n.Set < (sets : Int))) else decide (n.Set = 0) && (fitsB n.Kind n.Kids.length && (decide (signsN n.Kind g ≤ 3) && formL sets n.Kind n.Kids d (signsN n.Kind g))) := by
  cases n; rw [formB]
mutual
def metS : TNode → Nat → Option Nat
  | ⟨k, s, ks⟩, a => if k = 1 then (if s > (a : Int) then none else some (max a (s.toNat + 1))) else metL ks a
def metL : List TNode → Nat → Option Nat
  | [], a => some a
  | x :: xs, a => (metS x a).bind (metL xs)
end
theorem metS_eq (n : TNode) (a : Nat) : metS n a = if n.Kind = 1 then (if n.Set > (a : Int) then none else some (max a (n.Set.toNat + 1))) else metL n.Kids a := by
  cases n; rw [metS]
theorem pOpen (of n : TNode) : syntax_open of n = some (openB of.Kind n) := rfl
theorem pSigned (n : TNode) : syntax_signed n = some (signK n.Kind) := rfl
theorem pFits {n : TNode} (h : n.Kids.length ≤ 1000000) : syntax_fits n = some (fitsB n.Kind n.Kids.length) := by
  unfold syntax_fits fitsB
  by_cases h0 : n.Kind = 0
  · rw [if_pos (by simpa using h0), if_pos h0]
    congr 1
    rw [Bool.eq_iff_iff]; simp; omega
  · rw [if_neg (by simpa using h0), if_neg h0]
    by_cases h2 : n.Kind = 2
    · rw [if_pos (by simpa using h2), if_pos h2]
      congr 1
      rw [Bool.eq_iff_iff]; simp; omega
    · rw [if_neg (by simpa using h2), if_neg h2, pSigned, Option.bind_some]
      cases signK n.Kind with
      | true =>
        rw [if_pos rfl, Option.bind_some]
        congr 1
        rw [Bool.eq_iff_iff]; simp; omega
      | false => rw [if_neg (by simp), Option.bind_some]; rfl
theorem kids_le (n : TNode) : n.Kids.length ≤ nsize n := by
  have : ∀ l : List TNode, l.length ≤ nsizeL l := by
    intro l
    induction l with
    | nil => simp
    | cons x l ih => have := nsize_pos x; rw [nsizeL, List.length_cons]; omega
  have := this n.Kids
  rw [nsize_eq]; omega
theorem drop_cons {n : TNode} {i : Nat} {x : TNode} {l : List TNode} (h : n.Kids.drop i = x :: l) : ∃ hi : i < n.Kids.length, n.Kids[i] = x ∧ n.Kids.drop (i + 1) = l := by
  have hil : i < n.Kids.length := by
    rcases Nat.lt_or_ge i n.Kids.length with q | q
    · exact q
    · rw [List.drop_eq_nil_of_le q] at h; cases h
  have hd := List.drop_eq_getElem_cons hil
  rw [h] at hd
  simp only [List.cons.injEq] at hd
  exact ⟨hil, hd.1.symm, hd.2.symm⟩
theorem metS_le (sets : Nat) : ∀ (n : TNode) (d g a m : Nat), formB sets n d g = true → a ≤ sets → metS n a = some m → m ≤ sets := by
  refine TNode.ind fun n ih => ?_
  intro d g a m hf ha hm
  rw [formB_eq] at hf
  rw [metS_eq] at hm
  by_cases h1 : n.Kind = 1
  · rw [if_pos h1] at hf hm
    simp at hf
    split at hm
    · cases hm
    · obtain rfl := Option.some.inj hm; omega
  · rw [if_neg h1] at hf hm
    simp only [Bool.and_eq_true] at hf
    have loop : ∀ (l : List TNode) (a : Nat), (∀ x ∈ l, x ∈ n.Kids) → formL sets n.Kind l d (signsN n.Kind g) = true → a ≤ sets → metL l a = some m → m ≤ sets := by
      intro l
      induction l with
      | nil => intro a _ _ ha hm; rw [metL] at hm; obtain rfl := Option.some.inj hm; exact ha
      | cons x l ihl =>
        intro a hs hf ha hm
        rw [formL] at hf
        simp only [Bool.and_eq_true] at hf
        rw [metL, Option.bind_eq_some_iff] at hm
        obtain ⟨q, hq, hm⟩ := hm
        exact ihl q (fun y hy => hs y (by simp [hy])) hf.2.2 (ih x (hs x (by simp)) _ _ a q hf.2.1 ha hq) hm
    exact loop n.Kids a (fun _ h => h) hf.2.2.2 ha hm
/-- The program's look at an expression: true, and what is met; or false. -/
def RightOk (sets : Nat) (b : Bool) (m : Option Nat) (r : Option (Bool × Tsyntax_checker)) : Prop :=
  match b, m with
  | true, some q => r = some (true, ⟨(sets : Int), (q : Int)⟩)
  | _, _ => ∃ c, r = some (false, c)
theorem right_r (sets : Nat) (hsets : sets ≤ 100) : ∀ (n : TNode) (fu d g a : Nat), nsize n ≤ fu → nsize n ≤ 1000 → d ≤ 20 → g ≤ 3 → a ≤ sets → RightOk sets (formB sets n d g) (metS n a) (syntax_checker_right.r fu ⟨(sets : Int), (a : Int)⟩ n (d : Int) (g : Int)) := by
  refine TNode.ind fun n ih => ?_
  intro fu d g a hfu hsz hd hg ha
  have hp := nsize_pos n
  obtain ⟨fu, rfl⟩ : ∃ k, fu = k + 1 := ⟨fu - 1, by omega⟩
  have hkl := kids_le n
  simp only [syntax_checker_right.r]
  rw [formB_eq, metS_eq]
  by_cases h1 : n.Kind = 1
  · rw [if_pos h1, if_pos h1, if_pos (show (n.Kind == 1) = true by simpa using h1)]
    by_cases hok : n.Kids.length = 0 ∧ 0 ≤ n.Set ∧ n.Set < (sets : Int)
    · have hempty : n.Kids.isEmpty = true := by rw [List.isEmpty_iff]; exact List.length_eq_zero_iff.1 hok.1
      rw [hempty, decide_eq_true hok.2.1, decide_eq_true hok.2.2]
      by_cases hc : n.Set > (a : Int)
      · rw [if_pos hc]
        have e : decide (n.Set ≤ (a : Int)) = false := decide_eq_false (by omega)
        exact ⟨⟨(sets : Int), mx (a : Int) (IntKind.i64.wrap (mn n.Set (sets : Int) + 1))⟩, by simp [e]⟩
      · rw [if_neg hc]
        have e : decide (n.Set ≤ (a : Int)) = true := decide_eq_true (by omega)
        have e1 : mn n.Set (sets : Int) = n.Set := by unfold mn; rw [if_neg (by omega)]
        have e2 : mx (a : Int) (n.Set + 1) = ((max a (n.Set.toNat + 1) : Nat) : Int) := by unfold mx; split <;> omega
        show some _ = some (true, (⟨(sets : Int), ((max a (n.Set.toNat + 1) : Nat) : Int)⟩ : Tsyntax_checker))
        rw [e1, w64 (by omega) (by omega), e2, e, hok.1]
        rfl
    · have hb : (n.Kids.isEmpty && (decide (0 ≤ n.Set) && decide (n.Set < (sets : Int)))) = false := by
        rw [Bool.eq_false_iff]
        intro h
        simp only [Bool.and_eq_true, List.isEmpty_iff, decide_eq_true_eq] at h
        exact hok ⟨by rw [h.1]; rfl, h.2⟩
      rw [hb]
      refine ⟨_, Prod.ext ?_ rfl |> congrArg some⟩
      rw [Bool.eq_false_iff]
      intro h
      simp only [Bool.and_eq_true, decide_eq_true_eq, beq_iff_eq] at h
      exact hok ⟨by omega, h.2.1, h.2.2.1⟩
  · rw [if_neg h1, if_neg h1, if_neg (show ¬ (n.Kind == 1) = true by simpa using h1), pSigned, Option.bind_some]
    have loop : ∀ (g2 : Nat), g2 ≤ 3 → ∀ (l : List TNode) (i a : Nat), n.Kids.drop i = l → a ≤ sets → RightOk sets (formL sets n.Kind l d g2) (metL l a) (Loop (syntax_checker_right.b1 (syntax_checker_right.r fu) n (d : Int) (g2 : Int)) ((i : Int), (sets : Int), (a : Int))) := by
      intro g2 hg2 l
      induction l with
      | nil =>
        intro i a hl ha
        have hi : n.Kids.length ≤ i := List.drop_eq_nil_iff.1 hl
        rw [formL, metL]
        refine Loop_end (R := some (true, (⟨(sets : Int), (a : Int)⟩ : Tsyntax_checker))) ?_
        simp only [syntax_checker_right.b1]
        rw [if_neg (by simp; omega)]; rfl
      | cons x l ihl =>
        intro i a hl ha
        obtain ⟨hil, hx, hdr⟩ := drop_cons hl
        have hmem : x ∈ n.Kids := by rw [← hx]; exact List.getElem_mem hil
        have hb : syntax_checker_right.b1 (syntax_checker_right.r fu) n (d : Int) (g2 : Int) ((i : Int), (sets : Int), (a : Int)) = syntax_checker_right.k3 (syntax_checker_right.r fu) (g2 : Int) (i : Int) (sets : Int) (a : Int) x ((moreN n.Kind x d : Nat) : Int) := by
          simp only [syntax_checker_right.b1]
          rw [if_pos (by simpa using hil), idx_nat, List.getElem?_eq_getElem hil, Option.bind_some, pOpen, Option.bind_some, hx]
          unfold moreN
          cases openB n.Kind x with
          | true => rw [if_pos rfl, if_pos rfl, w64s (by omega)]
          | false => rw [if_neg (by simp), if_neg (by simp)]
        rw [formL, metL]
        by_cases hm : moreN n.Kind x d ≤ 20
        · have hkid := ih x hmem fu (moreN n.Kind x d) g2 a (by have := nsize_kid hmem; omega) (by have := nsize_kid hmem; omega) hm hg2 ha
          rw [decide_eq_true hm, Bool.true_and]
          have hbad : (∃ c, syntax_checker_right.r fu ⟨(sets : Int), (a : Int)⟩ x ((moreN n.Kind x d : Nat) : Int) (g2 : Int) = some (false, c)) → ∃ c, Loop (syntax_checker_right.b1 (syntax_checker_right.r fu) n (d : Int) (g2 : Int)) ((i : Int), (sets : Int), (a : Int)) = some (false, c) := fun ⟨c, hc⟩ => by
            refine ⟨c, Loop_done (hb.trans ?_)⟩
            unfold syntax_checker_right.k3
            rw [if_neg (by simp; omega), hc]; rfl
          cases hf : formB sets x (moreN n.Kind x d) g2 with
          | false =>
            rw [hf] at hkid
            rw [Bool.false_and]
            exact hbad hkid
          | true =>
            rw [hf] at hkid
            rw [Bool.true_and]
            cases hq : metS x a with
            | none =>
              rw [hq] at hkid
              have := hbad hkid
              cases formL sets n.Kind l d g2 <;> exact this
            | some q =>
              rw [hq] at hkid
              have hkid' : syntax_checker_right.r fu ⟨(sets : Int), (a : Int)⟩ x ((moreN n.Kind x d : Nat) : Int) (g2 : Int) = some (true, ⟨(sets : Int), (q : Int)⟩) := hkid
              have hnext : syntax_checker_right.b1 (syntax_checker_right.r fu) n (d : Int) (g2 : Int) ((i : Int), (sets : Int), (a : Int)) = some (.next (((i + 1 : Nat) : Int), (sets : Int), (q : Int))) := by
                refine hb.trans ?_
                unfold syntax_checker_right.k3
                rw [if_neg (by simp; omega), hkid']
                simp only [Option.bind_some, Bool.not_true]
                rw [if_neg (by simp), w64s (by omega)]
              rw [Loop_next hnext]
              exact ihl (i + 1) q hdr (metS_le sets x _ _ a q hf ha hq)
        · rw [decide_eq_false hm, Bool.false_and]
          refine ⟨(⟨(sets : Int), (a : Int)⟩ : Tsyntax_checker), Loop_done (hb.trans ?_)⟩
          unfold syntax_checker_right.k3
          rw [if_pos (by simp; omega)]; rfl
    have hk1 : ∀ g1 : Nat, g1 ≤ 4 → g1 = signsN n.Kind g → RightOk sets (decide (n.Set = 0) && (fitsB n.Kind n.Kids.length && (decide (signsN n.Kind g ≤ 3) && formL sets n.Kind n.Kids d (signsN n.Kind g)))) (metL n.Kids a) (syntax_checker_right.k1 (syntax_checker_right.r fu) ⟨(sets : Int), (a : Int)⟩ n (d : Int) (g1 : Int)) := fun g1 hg1 e => by
      subst e
      unfold syntax_checker_right.k1
      rw [pFits (by omega), Option.bind_some]
      cases hf : fitsB n.Kind n.Kids.length with
      | false =>
        rw [if_pos (by simp), Option.bind_some, if_pos rfl, Bool.false_and, Bool.and_false]
        exact ⟨_, rfl⟩
      | true =>
        rw [if_neg (by simp), Bool.true_and]
        by_cases hs : n.Set = 0
        · rw [if_neg (by simpa using hs), Option.bind_some, decide_eq_true hs, Bool.true_and]
          by_cases hg3 : signsN n.Kind g ≤ 3
          · rw [if_neg (by simp; omega), decide_eq_true hg3, Bool.true_and]
            exact loop _ hg3 n.Kids 0 a rfl ha
          · rw [if_pos (by simp; omega), decide_eq_false hg3, Bool.false_and]
            exact ⟨_, rfl⟩
        · rw [if_pos (by simpa using hs), Option.bind_some, if_pos rfl, decide_eq_false hs, Bool.false_and]
          exact ⟨_, rfl⟩
    cases hb : signK n.Kind with
    | true =>
      have hsn : signsN n.Kind g = g + 1 := by unfold signsN; rw [hb]; rfl
      rw [if_neg (by simp), w64s (by omega)]
      exact hk1 (g + 1) (by omega) hsn.symm
    | false =>
      have hsn : signsN n.Kind g = 0 := by unfold signsN; rw [hb]; rfl
      rw [if_pos (by simp)]
      exact hk1 0 (by omega) hsn.symm
end
end Go.Val

/- part S4l -/
/- Plain lemmas: whether a program may be. -/
namespace Go.Val
noncomputable section
theorem Equal_same : slices_Equal_api_Range_api_Range = scansionref02_Same := rfl
theorem Make_prog {l : List TRange} (hl : l.length ≤ 1000000) : ∃ out e, ranges_Make l = some (out, e) ∧ Norm out ∧ out.length ≤ l.length ∧ (e = 0 → ∀ t, In out t ↔ In l t) ∧ (e ≠ 0 → e = 1 ∧ out = [] ∧ ¬ ∀ x ∈ l, Ok x) := by
  by_cases hok : ∀ x ∈ l, Ok x
  · obtain ⟨o, h1, h2, h3, h4⟩ := Make_ok hok (by omega)
    exact ⟨o, 0, h1, h2, h4, fun _ => h3, fun h => absurd rfl h⟩
  · exact ⟨[], 1, Make_bad hok (by omega), Norm_nil, by simp, fun h => by simp at h, fun _ => ⟨rfl, rfl, hok⟩⟩
theorem Make_norm {l out : List TRange} {e : Int} (h : Norm l) (ho : Norm out) (h0 : e = 0 → ∀ t, In out t ↔ In l t) (h1 : e ≠ 0 → e = 1 ∧ out = [] ∧ ¬ ∀ x ∈ l, Ok x) : e = 0 ∧ out = l := by
  by_cases he : e = 0
  · exact ⟨he, Norm.unique ho h (h0 he)⟩
  · exact absurd h.1 (h1 he).2.2
open Classical in
def normB (s : List TRange) : Bool := decide (Norm s)
theorem normB_iff {s : List TRange} : normB s = true ↔ Norm s := by unfold normB; simp
theorem pSet {s : List TRange} (hl : s.length ≤ 40) : syntax_set s = some (normB s) := by
  obtain ⟨out, e, m1, m3, m4, m5, m6⟩ := Make_prog (l := s) (by omega)
  unfold syntax_set
  rw [m1, Option.bind_some]
  by_cases hn : Norm s
  · obtain ⟨e1, e2⟩ := Make_norm hn m3 m5 m6
    subst e1 e2
    rw [if_pos (by simp), Equal_same, Same_eq (a := out) (by omega), Option.bind_some, Option.bind_some, normB_iff.2 hn]
    simp
  · have hb : normB s = false := by rw [Bool.eq_false_iff]; exact fun h => hn (normB_iff.1 h)
    have hne : out ≠ s := fun e => hn (e ▸ m3)
    rw [hb]
    by_cases he : e = 0
    · subst he
      rw [if_pos (by simp), Equal_same, Same_eq (a := out) (by omega), Option.bind_some, Option.bind_some]
      simp [hne]
    · rw [if_neg (by simpa using he)]; rfl
/-- More fuel tells the same. -/
theorem right_b1_congr {s1 s2 : Tsyntax_checker → TNode → Int → Int → Option (Bool × Tsyntax_checker)} {n : TNode} (h : ∀ x ∈ n.Kids, ∀ c d g, s1 c x d g = s2 c x d g) (d g : Int) : syntax_checker_right.b1 s1 n d g = syntax_checker_right.b1 s2 n d g := by
  funext ⟨v, a, b⟩
  simp only [syntax_checker_right.b1]
  by_cases hc : v < (n.Kids.length : Int)
  · rw [if_pos (decide_eq_true hc), if_pos (decide_eq_true hc)]
    cases hi : idx n.Kids v with
    | none => rfl
    | some x =>
      have hx : x ∈ n.Kids := by
        unfold idx at hi
        split at hi
        · cases hi
        · exact List.mem_of_getElem? hi
      have hk : ∀ more, syntax_checker_right.k3 s1 g v a b x more = syntax_checker_right.k3 s2 g v a b x more := fun more => by
        unfold syntax_checker_right.k3
        rw [h x hx]
      rw [Option.bind_some, Option.bind_some, pOpen, Option.bind_some, Option.bind_some]
      split
      · exact hk _
      · exact hk _
  · rw [if_neg (by simpa using hc), if_neg (by simpa using hc)]
theorem right_stable : ∀ (n : TNode) (fu : Nat), nsize n ≤ fu → ∀ c d g, syntax_checker_right.r fu c n d g = syntax_checker_right.r (nsize n) c n d g := by
  refine TNode.ind fun n ih => ?_
  intro fu hfu c d g
  have hp := nsize_pos n
  obtain ⟨fu, rfl⟩ : ∃ k, fu = k + 1 := ⟨fu - 1, by omega⟩
  obtain ⟨m, hm⟩ : ∃ k, nsize n = k + 1 := ⟨nsize n - 1, by omega⟩
  rw [hm]
  simp only [syntax_checker_right.r]
  have hk1 : ∀ g1, syntax_checker_right.k1 (syntax_checker_right.r fu) c n d g1 = syntax_checker_right.k1 (syntax_checker_right.r m) c n d g1 := fun g1 => by
    unfold syntax_checker_right.k1
    rw [right_b1_congr (s1 := syntax_checker_right.r fu) (s2 := syntax_checker_right.r m) fun x hx c d g => by
      have hlt := nsize_kid hx
      rw [ih x hx fu (by omega), ih x hx m (by omega)]]
  rw [pSigned, Option.bind_some, Option.bind_some]
  simp only [hk1]
theorem right_lim {sets : Nat} {b : Bool} {m : Option Nat} {n : TNode} {c : Tsyntax_checker} {d g : Int} (h : ∀ fu, nsize n ≤ fu → RightOk sets b m (syntax_checker_right.r fu c n d g)) : RightOk sets b m (syntax_checker_right c n d g) := by
  have h0 := h (nsize n) (Nat.le_refl _)
  have hv : ∃ w, syntax_checker_right.r (nsize n) c n d g = some w := by
    unfold RightOk at h0
    split at h0
    · exact ⟨_, h0⟩
    · obtain ⟨c', hc⟩ := h0; exact ⟨_, hc⟩
  obtain ⟨w, hw⟩ := hv
  have hl : syntax_checker_right c n d g = some w := lim_eq (nsize n) fun k hk => by rw [right_stable n k hk, hw]
  rw [hl, ← hw]; exact h0
/-- What rules meet; none: one may not be. -/
def rulesP (sets : Nat) : List TRule → Nat → Option Nat
  | [], a => some a
  | r :: rs, a => if formB sets r.Left 0 0 && formB sets r.Right 0 0 then (metS r.Left a).bind fun q => (metS r.Right q).bind (rulesP sets rs) else none
def RightV (p : TProgram) : Prop := p.Sets.length ≤ 60 ∧ p.Rules.length ≤ 64 ∧ (∀ s ∈ p.Sets, Norm s) ∧ p.Sets.Nodup ∧ rulesP p.Sets.length p.Rules 0 = some p.Sets.length
theorem rulesP_form {sets : Nat} : ∀ {l : List TRule} {a m : Nat}, rulesP sets l a = some m → ∀ r ∈ l, formB sets r.Left 0 0 = true ∧ formB sets r.Right 0 0 = true
  | [], _, _, _, r, h => by cases h
  | x :: l, a, m, h, r, hr => by
    rw [rulesP] at h
    split at h
    · rename_i hf
      simp only [Bool.and_eq_true] at hf
      simp only [Option.bind_eq_some_iff] at h
      obtain ⟨q, _, q2, _, h⟩ := h
      rcases List.mem_cons.1 hr with rfl | hr
      · exact hf
      · exact rulesP_form h r hr
    · cases h
theorem drop_consR {α : Type} {xs : List α} {i : Nat} {x : α} {l : List α} (h : xs.drop i = x :: l) : ∃ hi : i < xs.length, xs[i] = x ∧ xs.drop (i + 1) = l := by
  have hil : i < xs.length := by
    rcases Nat.lt_or_ge i xs.length with q | q
    · exact q
    · rw [List.drop_eq_nil_of_le q] at h; cases h
  have hd := List.drop_eq_getElem_cons hil
  rw [h] at hd
  simp only [List.cons.injEq] at hd
  exact ⟨hil, hd.1.symm, hd.2.symm⟩
/-- The program's rules. -/
theorem pRules {p : TProgram} {m : List (Str × Bool)} (hf : FewP p) (hs60 : p.Sets.length ≤ 60) : ∀ (l : List TRule) (i a : Nat), p.Rules.drop i = l → a ≤ p.Sets.length → Loop (syntax_Right.b1 p m) ((i : Int), (p.Sets.length : Int), (a : Int)) = some (((m.length : Int) == (p.Sets.length : Int)) && decide (rulesP p.Sets.length l a = some p.Sets.length)) := by
  intro l
  induction l with
  | nil =>
    intro i a hl ha
    have hi : p.Rules.length ≤ i := List.drop_eq_nil_iff.1 hl
    refine Loop_end (R := some _) ?_
    simp only [syntax_Right.b1]
    rw [if_neg (by simp; omega), rulesP]
    unfold syntax_Right.k2
    simp only [Option.map_some]
    congr 3
    rw [Bool.eq_iff_iff]
    simp
    omega
  | cons r l ih =>
    intro i a hl ha
    obtain ⟨hil, hx, hdr⟩ := drop_consR hl
    have hmem : r ∈ p.Rules := by rw [← hx]; exact List.getElem_mem hil
    obtain ⟨n1, n2⟩ := hf.nodes r hmem
    have hrl := hf.rules
    have hR : ∀ (n : TNode) (a : Nat), nsize n ≤ 1000 → a ≤ p.Sets.length → RightOk p.Sets.length (formB p.Sets.length n 0 0) (metS n a) (syntax_checker_right ⟨(p.Sets.length : Int), (a : Int)⟩ n 0 0) := fun n a hn ha => by
      have h1 : ∀ fu, nsize n ≤ fu → RightOk p.Sets.length (formB p.Sets.length n 0 0) (metS n a) (syntax_checker_right.r fu ⟨(p.Sets.length : Int), (a : Int)⟩ n 0 0) := fun fu hfu => right_r _ (by omega) n fu 0 0 a hfu hn (by omega) (by omega) ha
      exact right_lim h1
    have hL := hR r.Left a (by omega) ha
    have hbad : (∃ c, syntax_checker_right ⟨(p.Sets.length : Int), (a : Int)⟩ r.Left 0 0 = some (false, c)) → Loop (syntax_Right.b1 p m) ((i : Int), (p.Sets.length : Int), (a : Int)) = some false := fun ⟨c, hc⟩ => by
      refine Loop_done ?_
      simp only [syntax_Right.b1]
      rw [if_pos (by simpa using hil), idx_nat, List.getElem?_eq_getElem hil, Option.bind_some, hx, hc]
      rfl
    rw [rulesP]
    cases f1 : formB p.Sets.length r.Left 0 0 with
    | false =>
      rw [f1] at hL
      rw [if_neg (by simp), hbad hL]; simp
    | true =>
      rw [f1] at hL
      cases hm : metS r.Left a with
      | none =>
        rw [hm] at hL
        rw [hbad hL]
        split <;> simp
      | some q =>
        rw [hm] at hL
        have hL' : syntax_checker_right ⟨(p.Sets.length : Int), (a : Int)⟩ r.Left 0 0 = some (true, ⟨(p.Sets.length : Int), (q : Int)⟩) := hL
        have hq := metS_le _ _ _ _ _ _ f1 ha hm
        have hRr := hR r.Right q (by omega) hq
        have hbad2 : (∃ c, syntax_checker_right ⟨(p.Sets.length : Int), (q : Int)⟩ r.Right 0 0 = some (false, c)) → Loop (syntax_Right.b1 p m) ((i : Int), (p.Sets.length : Int), (a : Int)) = some false := fun ⟨c, hc⟩ => by
          refine Loop_done ?_
          simp only [syntax_Right.b1]
          rw [if_pos (by simpa using hil), idx_nat, List.getElem?_eq_getElem hil, Option.bind_some, hx, hL']
          simp only [Option.bind_some, Bool.not_true, Bool.false_eq_true, if_false]
          rw [hc]; rfl
        cases f2 : formB p.Sets.length r.Right 0 0 with
        | false =>
          rw [f2] at hRr
          rw [if_neg (by simp), hbad2 hRr]; simp
        | true =>
          rw [f2] at hRr
          rw [if_pos (by simp), Option.bind_some]
          cases hm2 : metS r.Right q with
          | none =>
            rw [hm2] at hRr
            rw [hbad2 hRr]; simp
          | some q2 =>
            rw [hm2] at hRr
            have hR' : syntax_checker_right ⟨(p.Sets.length : Int), (q : Int)⟩ r.Right 0 0 = some (true, ⟨(p.Sets.length : Int), (q2 : Int)⟩) := hRr
            have hq2 := metS_le _ _ _ _ _ _ f2 hq hm2
            rw [Option.bind_some, ← ih (i + 1) q2 hdr hq2]
            refine Loop_next ?_
            simp only [syntax_Right.b1]
            rw [if_pos (by simpa using hil), idx_nat, List.getElem?_eq_getElem hil, Option.bind_some, hx, hL']
            simp only [Option.bind_some, Bool.not_true, Bool.false_eq_true, if_false]
            rw [hR']
            simp only [Option.bind_some, Bool.not_true, Bool.false_eq_true, if_false]
            rw [w64s (by omega)]
/-! ### the sets -/
theorem aput_mem {k a : Str} {v : Bool} : ∀ {m : List (Str × Bool)}, a ∈ (aput k v m).map (·.1) ↔ a ∈ m.map (·.1) ∨ a = k
  | [] => by simp [aput]
  | (k', v') :: m => by
    simp only [aput]
    by_cases h : k = k'
    · rw [if_pos h]
      simp only [List.map_cons, List.mem_cons]
      rw [h]
      constructor
      · rintro (h | h)
        · exact .inr h
        · exact .inl (.inr h)
      · rintro ((h | h) | h)
        · exact .inl h
        · exact .inr h
        · exact .inl h
    · rw [if_neg h]
      simp only [List.map_cons, List.mem_cons, aput_mem (m := m)]
      exact or_assoc.symm
theorem aput_len {k : Str} {v : Bool} : ∀ {m : List (Str × Bool)}, (aput k v m).length = if k ∈ m.map (·.1) then m.length else m.length + 1
  | [] => by simp [aput]
  | (k', v') :: m => by
    simp only [aput]
    by_cases h : k = k'
    · rw [if_pos h, if_pos (by simp [h])]; rfl
    · rw [if_neg h]
      simp only [List.length_cons, aput_len (m := m), List.map_cons, List.mem_cons, h, false_or]
      split <;> rfl
theorem nodup_snoc {α : Type} {l : List α} {a : α} : (l ++ [a]).Nodup ↔ l.Nodup ∧ a ∉ l := by
  rw [List.nodup_append]
  constructor
  · rintro ⟨h1, _, h2⟩
    exact ⟨h1, fun h => h2 a h a (by simp) rfl⟩
  · rintro ⟨h1, h2⟩
    exact ⟨h1, by simp, fun x hx y hy => by simp at hy; subst hy; rintro rfl; exact h2 hx⟩
open Classical in
/-- The program's sets: all are sets, and their texts are noted. -/
theorem pSets {p : TProgram} (hf : FewP p) (hs60 : p.Sets.length ≤ 60) : ∀ (d i : Nat) (m : List (Str × Bool)), i + d = p.Sets.length → (∀ s ∈ p.Sets.take i, Norm s) → (∀ a, a ∈ m.map (·.1) ↔ a ∈ (p.Sets.take i).map setText) → m.length ≤ i → (m.length = i ↔ (p.Sets.take i).Nodup) →
    if ∀ s ∈ p.Sets, Norm s then Loop (syntax_Right.b2 p) ((i : Int), m) = some (decide (p.Sets.Nodup) && decide (rulesP p.Sets.length p.Rules 0 = some p.Sets.length)) else Loop (syntax_Right.b2 p) ((i : Int), m) = some false
  | 0, i, m, h, hn, hk, hl, hd => by
    obtain rfl : i = p.Sets.length := by omega
    rw [List.take_length] at hn hd
    rw [if_pos hn]
    have hr := pRules (m := m) hf hs60 p.Rules 0 0 rfl (Nat.zero_le _)
    refine Loop_end ?_
    simp only [syntax_Right.b2]
    rw [if_neg (by simp)]
    unfold syntax_Right.k1
    have e : (((0 : Nat) : Int), (p.Sets.length : Int), ((0 : Nat) : Int)) = ((0 : Int), (p.Sets.length : Int), (0 : Int)) := rfl
    rw [e] at hr
    rw [hr]
    simp only [Option.map_some]
    congr 3
    rw [Bool.eq_iff_iff]
    simp only [beq_iff_eq, decide_eq_true_eq]
    rw [← hd]
    omega
  | d + 1, i, m, h, hn, hk, hl, hd => by
    have hi : i < p.Sets.length := by omega
    have h40 := hf.each _ (List.getElem_mem hi)
    have hstart : syntax_Right.b2 p ((i : Int), m) = if !normB p.Sets[i] then some (Step.done false) else (lex_Set p.Sets[i]).bind fun r3 => some (Step.next ((IntKind.i64.wrap ((i : Int) + (1 : Int))), (aput r3 true m))) := by
      simp only [syntax_Right.b2]
      rw [if_pos (by simpa using hi), idx_nat, List.getElem?_eq_getElem hi, Option.bind_some, pSet h40, Option.bind_some]
    by_cases hnorm : Norm p.Sets[i]
    · rw [normB_iff.2 hnorm, if_neg (by simp), lexSet_text hnorm.1 (by omega), Option.bind_some, w64s (by omega)] at hstart
      have htk : p.Sets.take (i + 1) = p.Sets.take i ++ [p.Sets[i]] := take_snocS hi
      have hmem : setText p.Sets[i] ∈ m.map (·.1) ↔ p.Sets[i] ∈ p.Sets.take i := by
        rw [hk]
        constructor
        · intro h
          obtain ⟨s, hs, e⟩ := List.mem_map.1 h
          rw [← setText_inj (hn s hs).1 hnorm.1 e]; exact hs
        · exact fun h => List.mem_map_of_mem h
      rw [Loop_next hstart]
      refine pSets hf hs60 d (i + 1) _ (by omega) ?_ ?_ ?_ ?_
      · intro s hs
        rw [htk] at hs
        rcases List.mem_append.1 hs with h | h
        · exact hn s h
        · simp at h; subst h; exact hnorm
      · intro a
        rw [aput_mem, hk, htk, List.map_append, List.mem_append]; simp
      · rw [aput_len]; split <;> omega
      · rw [aput_len, htk, nodup_snoc]
        by_cases hin : p.Sets[i] ∈ p.Sets.take i
        · rw [if_pos (hmem.2 hin)]
          exact ⟨fun h => by omega, fun h => absurd hin h.2⟩
        · rw [if_neg (fun h => hin (hmem.1 h))]
          constructor
          · exact fun h => ⟨hd.1 (by omega), hin⟩
          · exact fun h => by have := hd.2 h.1; omega
    · have hb : normB p.Sets[i] = false := by rw [Bool.eq_false_iff]; exact fun h => hnorm (normB_iff.1 h)
      rw [hb, if_pos (by simp)] at hstart
      rw [if_neg (fun h => hnorm (h _ (List.getElem_mem hi)))]
      exact Loop_done hstart
open Classical in
theorem Right_prog {p : TProgram} (hf : FewP p) : syntax_Right p = some (decide (RightV p)) := by
  unfold syntax_Right
  by_cases hc : p.Sets.length ≤ 60 ∧ p.Rules.length ≤ 64
  · obtain ⟨h60, h64⟩ := hc
    rw [if_neg (by simp; omega)]
    have h1 := pSets hf h60 p.Sets.length 0 [] (by omega) (by simp) (by simp) (by simp) (by simp)
    have e0 : (((0 : Nat) : Int), ([] : List (Str × Bool))) = ((0 : Int), []) := rfl
    rw [e0] at h1
    by_cases hn : ∀ s ∈ p.Sets, Norm s
    · rw [if_pos hn] at h1
      rw [h1]
      by_cases hd : p.Sets.Nodup
      · congr 1
        rw [Bool.eq_iff_iff]
        simp only [Bool.and_eq_true, decide_eq_true_eq]
        exact ⟨fun h => ⟨h60, h64, hn, h.1, h.2⟩, fun h => ⟨h.2.2.2.1, h.2.2.2.2⟩⟩
      · have hR : ¬ RightV p := fun h => hd h.2.2.2.1
        rw [decide_eq_false hR, decide_eq_false hd]
        rfl
    · have hR : ¬ RightV p := fun h => hn h.2.2.1
      rw [if_neg hn] at h1
      rw [h1, decide_eq_false hR]
  · have hR : ¬ RightV p := fun h => hc ⟨h.1, h.2.1⟩
    rw [if_pos (by simp; omega), decide_eq_false hR]
end
end Go.Val

/- part S5l -/
/- Plain lemmas: an expression's text. -/
namespace Go.Val
noncomputable section
def wrapB (k : Int) (x : TNode) (t : Str) : Str := if openB k x then 40 :: (t ++ [41]) else t
def joinK (k : Int) (l : List Str) : Str := if k = 2 then Go.Lib.join l [124] else l.flatten
def signT (k : Int) : Str := if k = 3 then [42] else if k = 4 then [43] else if k = 5 then [63] else []
mutual
/-- An expression's text. -/
def txt (S : List (List TRange)) : TNode → Str
  | ⟨k, s, ks⟩ => if k = 1 then setText (S.getD s.toNat []) else joinK k (txtL S k ks) ++ signT k
def txtL (S : List (List TRange)) (k : Int) : List TNode → List Str
  | [] => []
  | x :: xs => wrapB k x (txt S x) :: txtL S k xs
end
variable {S : List (List TRange)}
theorem txt_eq (n : TNode) : txt S n = if n.Kind = 1 then setText (S.getD n.Set.toNat []) else joinK n.Kind (txtL S n.Kind n.Kids) ++ signT n.Kind := by
  cases n; rw [txt]
theorem txtL_map (k : Int) : ∀ l : List TNode, txtL S k l = l.map fun x => wrapB k x (txt S x)
  | [] => rfl
  | x :: l => by rw [txtL, txtL_map k l]; rfl
theorem txtL_snoc {k : Int} {l : List TNode} {x : TNode} : txtL S k (l ++ [x]) = txtL S k l ++ [wrapB k x (txt S x)] := by
  rw [txtL_map, txtL_map, List.map_append]; rfl
theorem wrapB_len {k : Int} {x : TNode} {t : Str} : (wrapB k x t).length ≤ t.length + 2 := by
  unfold wrapB
  split
  · simp
  · omega
theorem join_nil_flat : ∀ l : List Str, Go.Lib.join l [] = l.flatten
  | [] => rfl
  | [x] => by rw [Go.Lib.join_one]; simp
  | x :: y :: l => by
    rw [Go.Lib.join_cons]
    unfold Go.Lib.joinTail
    simp
/-- How long texts are together. -/
def lensT (l : List Str) : Nat := (l.map fun t => t.length + 1).sum
theorem joinK_len (k : Int) (l : List Str) : (joinK k l).length ≤ lensT l := by
  unfold joinK
  split
  · cases l with
    | nil => simp [Go.Lib.join_nil]
    | cons x l =>
      rw [Go.Lib.join_cons]
      unfold Go.Lib.joinTail lensT
      rw [List.length_append, List.length_flatten, List.map_map, List.map_cons, List.sum_cons]
      have : ((List.length ∘ fun x => ([124] : Str) ++ x)) = fun t : Str => t.length + 1 := by funext t; simp
      rw [this]; omega
  · unfold lensT
    induction l with
    | nil => simp
    | cons x l ih => rw [List.flatten_cons, List.length_append, List.map_cons, List.sum_cons]; omega
theorem signT_len (k : Int) : (signT k).length ≤ 1 := by
  unfold signT
  repeat' split
  all_goals simp
/-- Sets that are few, and right. -/
def FineS (S : List (List TRange)) : Prop := ∀ s ∈ S, (∀ x ∈ s, Ok x) ∧ s.length ≤ 40
theorem fine_at (h : FineS S) {i : Int} (h0 : 0 ≤ i) (h1 : i < (S.length : Int)) : ∃ s, idx S i = some s ∧ S.getD i.toNat [] = s ∧ (∀ x ∈ s, Ok x) ∧ s.length ≤ 40 := by
  have hi : i.toNat < S.length := by omega
  have hm := h _ (List.getElem_mem hi)
  refine ⟨S[i.toNat], ?_, ?_, hm.1, hm.2⟩
  · unfold idx
    rw [if_neg (by omega), List.getElem?_eq_getElem hi]
  · rw [List.getD_eq_getElem?_getD, List.getElem?_eq_getElem hi]; rfl
theorem txt_len (hS : FineS S) : ∀ (n : TNode) (d g : Nat), formB S.length n d g = true → (txt S n).length + 3 ≤ 845 * nsize n := by
  refine TNode.ind fun n ih => ?_
  intro d g hf
  rw [formB_eq] at hf
  rw [txt_eq]
  have hp := nsize_pos n
  by_cases h1 : n.Kind = 1
  · rw [if_pos h1] at hf ⊢
    simp at hf
    obtain ⟨s, _, e, ho, hl⟩ := fine_at hS hf.2.1 hf.2.2
    have := setText_len ho
    rw [e]; omega
  · rw [if_neg h1] at hf ⊢
    simp only [Bool.and_eq_true] at hf
    have loop : ∀ (l : List TNode), (∀ x ∈ l, x ∈ n.Kids) → formL S.length n.Kind l d (signsN n.Kind g) = true → lensT (txtL S n.Kind l) ≤ 845 * nsizeL l := by
      intro l
      induction l with
      | nil => intro _ _; simp [txtL, lensT]
      | cons x l ihl =>
        intro hs hfl
        rw [formL] at hfl
        simp only [Bool.and_eq_true] at hfl
        have h2 := ihl (fun y hy => hs y (by simp [hy])) hfl.2.2
        have h3 := ih x (hs x (by simp)) _ _ hfl.2.1
        have h4 := wrapB_len (k := n.Kind) (x := x) (t := txt S x)
        have h5 : lensT (txtL S n.Kind (x :: l)) = (wrapB n.Kind x (txt S x)).length + 1 + lensT (txtL S n.Kind l) := by
          rw [txtL]; unfold lensT; rw [List.map_cons, List.sum_cons]
        rw [h5, nsizeL]; omega
    have h6 := loop n.Kids (fun _ h => h) hf.2.2.2
    have h7 := joinK_len n.Kind (txtL S n.Kind n.Kids)
    have h8 := signT_len n.Kind
    rw [List.length_append, nsize_eq]; omega
theorem formL_mem {sets : Nat} {k : Int} : ∀ {l : List TNode} {d g : Nat} {x : TNode}, formL sets k l d g = true → x ∈ l → formB sets x (moreN k x d) g = true
  | y :: l, d, g, x, h, hx => by
    rw [formL] at h
    simp only [Bool.and_eq_true] at h
    rcases List.mem_cons.1 hx with rfl | hx
    · exact h.2.1
    · exact formL_mem h.2.2 hx
/-- The program's text. -/
theorem printed_r (hS : FineS S) : ∀ (n : TNode) (fu d g : Nat), nsize n ≤ fu → nsize n ≤ 1000 → formB S.length n d g = true → syntax_printed.r fu n S = some (txt S n) := by
  refine TNode.ind fun n ih => ?_
  intro fu d g hfu hsz hf
  have hlen := txt_len hS n d g hf
  have hp := nsize_pos n
  obtain ⟨fu, rfl⟩ : ∃ k, fu = k + 1 := ⟨fu - 1, by omega⟩
  have hkl := kids_le n
  rw [formB_eq] at hf
  rw [txt_eq] at hlen ⊢
  simp only [syntax_printed.r]
  by_cases h1 : n.Kind = 1
  · rw [if_pos h1] at hf ⊢
    simp at hf
    obtain ⟨s, e0, e, ho, hl⟩ := fine_at hS hf.2.1 hf.2.2
    rw [if_pos (show (n.Kind == 1) = true by simpa using h1), e0, Option.bind_some, lexSet_text ho (by omega), Option.bind_some, e]
  · rw [if_neg h1] at hf ⊢ hlen
    simp only [Bool.and_eq_true] at hf
    rw [if_neg (show ¬ (n.Kind == 1) = true by simpa using h1)]
    have loop : ∀ (l : List TNode) (i : Nat), n.Kids.drop i = l → Loop (syntax_printed.b1 (syntax_printed.r fu) n S) (txtL S n.Kind (n.Kids.take i), (i : Int)) = syntax_printed.k1 n (txtL S n.Kind n.Kids) := by
      intro l
      induction l with
      | nil =>
        intro i hl
        have hi : n.Kids.length ≤ i := List.drop_eq_nil_iff.1 hl
        refine Loop_end ?_
        simp only [syntax_printed.b1]
        rw [if_neg (by simp; omega), List.take_of_length_le hi]
      | cons x l ihl =>
        intro i hl
        obtain ⟨hil, hx, hdr⟩ := drop_cons hl
        have hmem : x ∈ n.Kids := by rw [← hx]; exact List.getElem_mem hil
        have hfx := formL_mem hf.2.2.2 hmem
        have hkid := ih x hmem fu _ _ (by have := nsize_kid hmem; omega) (by have := nsize_kid hmem; omega) hfx
        have hkl2 := txt_len hS x _ _ hfx
        have hnx := nsize_kid hmem
        rw [← ihl (i + 1) hdr, take_snocS hil, txtL_snoc, hx]
        refine Loop_next ?_
        simp only [syntax_printed.b1]
        rw [if_pos (by simpa using hil), idx_nat, List.getElem?_eq_getElem hil, Option.bind_some, hx, hkid, Option.bind_some, pOpen, Option.bind_some]
        have hroom : room 16 ((txtL S n.Kind (n.Kids.take i)).length + 1) = some () := room_ok (by rw [txtL_map, List.length_map, List.length_take]; omega)
        have hk2 : ∀ t, syntax_printed.k2 (txtL S n.Kind (n.Kids.take i)) (i : Int) t = some (.next (txtL S n.Kind (n.Kids.take i) ++ [t], ((i + 1 : Nat) : Int))) := fun t => by
          unfold syntax_printed.k2
          rw [hroom, Option.bind_some, w64s (by omega)]
        unfold wrapB
        cases openB n.Kind x with
        | true => rw [if_pos rfl, roomS7 (by omega), Option.bind_some, roomS7 (by omega), Option.bind_some, hk2, if_pos rfl]; simp
        | false => rw [if_neg (by simp), hk2, if_neg (by simp)]
    refine (loop n.Kids 0 rfl).trans ?_
    unfold syntax_printed.k1
    have hjl := joinK_len n.Kind (txtL S n.Kind n.Kids)
    have hlk : (txtL S n.Kind n.Kids).length = n.Kids.length := by rw [txtL_map, List.length_map]
    rw [List.length_append] at hlen
    have hjoin : ∀ sep, Go.Lib.join (txtL S n.Kind n.Kids) sep = joinK n.Kind (txtL S n.Kind n.Kids) → strings_Join (txtL S n.Kind n.Kids) sep = some (joinK n.Kind (txtL S n.Kind n.Kids)) := fun sep e => by
      unfold strings_Join
      rw [e, if_pos ⟨by omega, by omega⟩]
    have hone : signK n.Kind = true → ∃ t, txtL S n.Kind n.Kids = [t] ∧ joinK n.Kind (txtL S n.Kind n.Kids) = t := fun hs => by
      have hfit := hf.2.1
      unfold fitsB at hfit
      have n0 : ¬ n.Kind = 0 := fun e => by rw [e] at hs; simp [signK] at hs
      have n2 : ¬ n.Kind = 2 := fun e => by rw [e] at hs; simp [signK] at hs
      rw [if_neg n0, if_neg n2, hs] at hfit
      simp at hfit
      rw [← hlk] at hfit
      obtain ⟨t, ht⟩ := List.length_eq_one_iff.1 hfit
      refine ⟨t, ht, ?_⟩
      rw [ht]; unfold joinK; rw [if_neg n2]; simp
    by_cases h2 : n.Kind = 2
    · rw [if_pos (show (n.Kind == 2) = true by simpa using h2), hjoin [124] (by unfold joinK; rw [if_pos h2]), Option.bind_some]
      have : signT n.Kind = [] := by rw [h2]; rfl
      rw [this, List.append_nil]
    · rw [if_neg (show ¬ (n.Kind == 2) = true by simpa using h2)]
      by_cases h3 : n.Kind = 3
      · obtain ⟨t, ht, hj⟩ := hone (by rw [h3]; rfl)
        rw [hj] at hlen ⊢
        rw [if_pos (show (n.Kind == 3) = true by simpa using h3), ht]
        have : signT n.Kind = [42] := by rw [h3]; rfl
        rw [this]
        simp only [List.getElem?_cons_zero, Option.bind_some]
        rw [roomS7 (by omega)]; rfl
      · rw [if_neg (show ¬ (n.Kind == 3) = true by simpa using h3)]
        by_cases h4 : n.Kind = 4
        · obtain ⟨t, ht, hj⟩ := hone (by rw [h4]; rfl)
          rw [hj] at hlen ⊢
          rw [if_pos (show (n.Kind == 4) = true by simpa using h4), ht]
          have : signT n.Kind = [43] := by rw [h4]; rfl
          rw [this]
          simp only [List.getElem?_cons_zero, Option.bind_some]
          rw [roomS7 (by omega)]; rfl
        · rw [if_neg (show ¬ (n.Kind == 4) = true by simpa using h4)]
          by_cases h5 : n.Kind = 5
          · obtain ⟨t, ht, hj⟩ := hone (by rw [h5]; rfl)
            rw [hj] at hlen ⊢
            rw [if_pos (show (n.Kind == 5) = true by simpa using h5), ht]
            have : signT n.Kind = [63] := by rw [h5]; rfl
            rw [this]
            simp only [List.getElem?_cons_zero, Option.bind_some]
            rw [roomS7 (by omega)]; rfl
          · rw [if_neg (show ¬ (n.Kind == 5) = true by simpa using h5), hjoin [] (by unfold joinK; rw [if_neg h2]; exact join_nil_flat _), Option.bind_some]
            have : signT n.Kind = [] := by unfold signT; rw [if_neg h3, if_neg h4, if_neg h5]
            rw [this, List.append_nil]
theorem printed_eq (hS : FineS S) {n : TNode} (h : nsize n ≤ 1000) (hf : formB S.length n 0 0 = true) : syntax_printed n S = some (txt S n) := lim_eq (nsize n) fun fu hfu => printed_r hS n fu 0 0 hfu h hf
end
end Go.Val

/- part S6l -/
/- Plain lemmas: a program's text; whether any program may be, and its text. -/
namespace Go.Val
noncomputable section
def wordR (r : TRule) : Str := if r.Break then [98, 114, 101, 97, 107, 32] else [107, 101, 101, 112, 32]
def ruleT (S : List (List TRange)) (r : TRule) : Str := wordR r ++ (txt S r.Left ++ 47 :: (txt S r.Right ++ [59, 10]))
theorem fine_of {p : TProgram} (hf : FewP p) (hR : RightV p) : FineS p.Sets := fun s hs => ⟨(hR.2.2.1 s hs).1, hf.each s hs⟩
theorem ruleT_len {p : TProgram} (hf : FewP p) (hR : RightV p) {r : TRule} (hr : r ∈ p.Rules) : (txt p.Sets r.Left).length ≤ 130000 ∧ (txt p.Sets r.Right).length ≤ 130000 ∧ (ruleT p.Sets r).length ≤ 270000 ∧ (wordR r).length ≤ 6 := by
  obtain ⟨f1, f2⟩ := rulesP_form hR.2.2.2.2 r hr
  obtain ⟨n1, n2⟩ := hf.nodes r hr
  have h1 := txt_len (fine_of hf hR) r.Left 0 0 f1
  have h2 := txt_len (fine_of hf hR) r.Right 0 0 f2
  have h3 : (wordR r).length ≤ 6 := by unfold wordR; split <;> simp
  refine ⟨by omega, by omega, ?_, h3⟩
  unfold ruleT
  simp only [List.length_append, List.length_cons, List.length_nil]
  omega
theorem textP_len {S : List (List TRange)} : ∀ (l : List TRule), (∀ r ∈ l, (ruleT S r).length ≤ 270000) → (l.flatMap (ruleT S)).length ≤ 270000 * l.length
  | [], _ => by simp
  | r :: l, h => by
    have h1 := h r (by simp)
    have h2 := textP_len l fun x hx => h x (by simp [hx])
    rw [List.flatMap_cons, List.length_append, List.length_cons]; omega
theorem pPrint {p : TProgram} (hf : FewP p) (hR : RightV p) : ∀ (d i : Nat), i + d = p.Rules.length → Loop (syntax_Print.b1 p) ((p.Rules.take i).flatMap (ruleT p.Sets), (i : Int)) = some (p.Rules.flatMap (ruleT p.Sets), 0)
  | 0, i, h => by
    obtain rfl : i = p.Rules.length := by omega
    rw [List.take_length]
    refine Loop_end (R := some (p.Rules.flatMap (ruleT p.Sets), 0)) ?_
    simp only [syntax_Print.b1]
    rw [if_neg (by simp)]; rfl
  | d + 1, i, h => by
    have hi : i < p.Rules.length := by omega
    have hr := List.getElem_mem hi
    obtain ⟨f1, f2⟩ := rulesP_form hR.2.2.2.2 _ hr
    obtain ⟨n1, n2⟩ := hf.nodes _ hr
    obtain ⟨l1, l2, l3, l4⟩ := ruleT_len hf hR hr
    have hrl := hf.rules
    have hpre := textP_len (S := p.Sets) (p.Rules.take i) fun x hx => (ruleT_len hf hR (List.mem_of_mem_take hx)).2.2.1
    rw [List.length_take] at hpre
    have hfine := fine_of hf hR
    rw [← pPrint hf hR d (i + 1) (by omega), take_snocS hi, List.flatMap_append, List.flatMap_singleton]
    refine Loop_next ?_
    have hk2 : syntax_Print.k2 p ((p.Rules.take i).flatMap (ruleT p.Sets)) (i : Int) p.Rules[i] (wordR p.Rules[i]) = some (.next ((p.Rules.take i).flatMap (ruleT p.Sets) ++ ruleT p.Sets p.Rules[i], ((i + 1 : Nat) : Int))) := by
      unfold syntax_Print.k2
      rw [printed_eq hfine (by omega) f1, Option.bind_some, roomS7 (by omega), Option.bind_some, roomS7 (by omega), Option.bind_some, printed_eq hfine (by omega) f2, Option.bind_some, roomS7 (by omega), Option.bind_some, roomS7 (by omega), Option.bind_some, room_ok (by omega), Option.bind_some, w64s (by omega)]
      unfold ruleT
      simp
    simp only [syntax_Print.b1]
    rw [if_pos (by simpa using hi), idx_nat, List.getElem?_eq_getElem hi, Option.bind_some]
    unfold wordR at hk2
    cases hb : p.Rules[i].Break with
    | true => rw [hb, if_pos rfl] at hk2; rw [if_pos rfl]; exact hk2
    | false => rw [hb, if_neg (by simp)] at hk2; rw [if_neg (by simp)]; exact hk2
end
end Go.Val

/- part Q20l -/
/- Plain lemmas: the reader goes through units, sign by sign. -/
namespace Go.Val
/-- A unit's sign; the sign at hand; where it begins. -/
def su (u : TUnit) : Int := if u.Bad then -2 else u.Rune
def sgn : List TUnit → Int
  | [] => -1
  | u :: _ => su u
def atU (whole : Int) : List TUnit → Int
  | [] => whole
  | u :: _ => u.At
/-- A reader ahead of these. -/
def rd (U : List TUnit) (w : Int) (us : List TUnit) (f : Int) : Tlex_reader := ⟨U, ((U.length - us.length : Nat) : Int), w, f⟩
/-- Units that are no stranger than a text's. -/
def Fine (U : List TUnit) : Prop := U.length ≤ 1048576 ∧ ∀ u ∈ U, 0 ≤ u.Rune ∧ u.Rune ≤ 1114111
variable {U us : List TUnit} {w f : Int}
theorem suf_get (h : us <:+ U) : U[U.length - us.length]? = us[0]? := by
  obtain ⟨t, rfl⟩ := h
  rw [List.length_append, Nat.add_sub_cancel, List.getElem?_append_right (Nat.le_refl _), Nat.sub_self]
theorem suf_len (h : us <:+ U) : us.length ≤ U.length := h.length_le
theorem suf_tail {u : TUnit} (h : (u :: us) <:+ U) : us <:+ U := (List.suffix_cons u us).trans h
theorem Fine.one {u : TUnit} (hF : Fine U) (h : (u :: us) <:+ U) : 0 ≤ u.Rune ∧ u.Rune ≤ 1114111 := hF.2 u (h.subset (by simp))
theorem su_ne {u : TUnit} (hF : Fine U) (h : (u :: us) <:+ U) : su u ≠ -1 := by
  have := (hF.one h).1
  unfold su; split <;> omega
theorem now_eq (h : us <:+ U) : lex_reader_now (rd U w us f) = some (sgn us) := by
  have hl := suf_len h
  unfold lex_reader_now rd
  cases us with
  | nil => rw [if_pos (by simp)]; rfl
  | cons u us =>
    have hg := suf_get h
    simp only [List.length_cons] at hg hl ⊢
    rw [if_neg (by simp; omega), idx_nat, hg]
    simp only [List.getElem?_cons_zero, Option.bind_some, sgn, su]
    cases u.Bad <;> rfl
theorem at_eq (h : us <:+ U) : lex_reader_at (rd U w us f) = some (atU w us) := by
  have hl := suf_len h
  unfold lex_reader_at rd
  cases us with
  | nil => rw [if_pos (by simp)]; rfl
  | cons u us =>
    have hg := suf_get h
    simp only [List.length_cons] at hg hl ⊢
    rw [if_neg (by simp; omega), idx_nat, hg]
    rfl
theorem rd_step {u : TUnit} (hF : Fine U) (h : (u :: us) <:+ U) : IntKind.i64.wrap (((U.length - (u :: us).length : Nat) : Int) + 1) = ((U.length - us.length : Nat) : Int) := by
  have hl := suf_len h
  have := hF.1
  simp only [List.length_cons] at hl ⊢
  rw [w64s (by omega)]
  congr 1; omega
theorem skip_eq {p : Int → Option Bool} {q : Int → Bool} (hF : Fine U) (hp : ∀ n, p n = some (q n)) (hq : q (-1) = false) : ∀ {us : List TUnit}, us <:+ U →
    Loop (lex_reader_skip.b1 ⟨U, 0, w, f⟩ p) ((U.length - us.length : Nat) : Int) = some (rd U w (us.dropWhile fun u => q (su u)) f)
  | [], h => by
    refine Loop_done ?_
    unfold lex_reader_skip.b1
    have hn := now_eq (w := w) (f := f) h
    simp only [rd] at hn
    simp only [hn, Option.bind_some, sgn, hp, hq]
    rfl
  | u :: us, h => by
    have hn := now_eq (w := w) (f := f) h
    simp only [rd] at hn
    cases hu : q (su u) with
    | false =>
      refine Loop_done ?_
      unfold lex_reader_skip.b1
      simp only [hn, Option.bind_some, sgn, hp, hu, List.dropWhile_cons]
      rfl
    | true =>
      rw [Loop_next (s' := ((U.length - us.length : Nat) : Int))]
      · rw [skip_eq hF hp hq (suf_tail h), List.dropWhile_cons, hu]; rfl
      · unfold lex_reader_skip.b1
        simp only [hn, Option.bind_some, sgn, hp, hu, if_true, rd_step hF h]
theorem skip_rd {p : Int → Option Bool} {q : Int → Bool} (hF : Fine U) (hp : ∀ n, p n = some (q n)) (hq : q (-1) = false) (h : us <:+ U) : lex_reader_skip (rd U w us f) p = some (rd U w (us.dropWhile fun u => q (su u)) f) := skip_eq hF hp hq h
theorem suf_drop {q : TUnit → Bool} (h : us <:+ U) : us.dropWhile q <:+ U := (List.dropWhile_suffix q).trans h
/-! ### blanks -/
def isBl (n : Int) : Bool := n == 32 || n == 9 || n == 13 || n == 10
def inNote (n : Int) : Bool := n != 10 && (n != -1 && n != -2)
theorem one_eq {l : Str} {n : Int} (hl : l.length ≤ 1000) : lex_one l n = some (l.any fun c => (c.toNat : Int) == n) := by
  have key : ∀ (k : Nat), k ≤ l.length → Loop (lex_one.b1 l n) ((l.length - k : Nat) : Int) = some ((l.drop (l.length - k)).any fun c => (c.toNat : Int) == n) := by
    intro k
    induction k with
    | zero =>
      intro _
      refine Loop_done ?_
      unfold lex_one.b1
      rw [if_neg (by simp)]
      simp [lex_one.k1]
    | succ k ih =>
      intro hk
      have hj : l.length - (k + 1) < l.length := by omega
      have hx : l[l.length - (k + 1)]? = some l[l.length - (k + 1)] := List.getElem?_eq_getElem hj
      rw [List.drop_eq_getElem_cons hj, List.any_cons]
      have hw : IntKind.i64.wrap ((l[l.length - (k + 1)].toNat : Nat) : Int) = ((l[l.length - (k + 1)].toNat : Nat) : Int) := w64 (by omega) (by have := l[l.length - (k + 1)].toNat_lt; omega)
      cases hc : ((l[l.length - (k + 1)].toNat : Int) == n) with
      | true =>
        refine Loop_done ?_
        unfold lex_one.b1
        rw [if_pos (by simp; omega), idx_nat, hx, Option.bind_some, hw, hc]
        rfl
      | false =>
        rw [Loop_next (s' := ((l.length - k : Nat) : Int))]
        · rw [ih (by omega), show l.length - (k + 1) + 1 = l.length - k by omega]
          simp
        · unfold lex_one.b1
          rw [if_pos (by simp; omega), idx_nat, hx, Option.bind_some, hw, hc]
          simp only [Bool.false_eq_true, if_false]
          rw [w64s (by omega), show l.length - (k + 1) + 1 = l.length - k by omega]
  have := key l.length (Nat.le_refl _)
  simpa [lex_one] using this
theorem bl1_eq (n : Int) : lex_reader_blank_1 n = some (isBl n) := by
  unfold lex_reader_blank_1
  rw [one_eq (by decide)]
  have e : ∀ c : Int, (c == n) = (n == c) := fun c => Bool.beq_comm
  show some (((32 : Int) == n) || (((9 : Int) == n) || (((13 : Int) == n) || (((10 : Int) == n) || false)))) = some (isBl n)
  simp only [e, isBl, Bool.or_false, Bool.or_assoc]
theorem bl2_eq (n : Int) : lex_reader_blank_2 n = some (inNote n) := rfl
/-- What stands behind blanks, and notes. -/
def blk : Bool → List TUnit → List TUnit
  | _, [] => []
  | false, u :: us => if isBl (su u) then blk false us else if su u = 35 then blk true us else u :: us
  | true, u :: us => if su u = 10 then blk false us else if su u = -2 then u :: us else blk true us
theorem blk_suf : ∀ (b : Bool) (us : List TUnit), blk b us <:+ us
  | _, [] => by cases ‹Bool› <;> exact List.suffix_rfl
  | false, u :: us => by
    simp only [blk]
    split
    · exact (blk_suf false us).trans (List.suffix_cons u us)
    split
    · exact (blk_suf true us).trans (List.suffix_cons u us)
    · exact List.suffix_rfl
  | true, u :: us => by
    simp only [blk]
    split
    · exact (blk_suf false us).trans (List.suffix_cons u us)
    split
    · exact List.suffix_rfl
    · exact (blk_suf true us).trans (List.suffix_cons u us)
theorem blk_skip : ∀ (us : List TUnit), blk false us = blk false (us.dropWhile fun u => isBl (su u))
  | [] => rfl
  | u :: us => by
    rw [List.dropWhile_cons]
    cases h : isBl (su u) with
    | true => simp only [blk, h, if_true]; exact blk_skip us
    | false => simp
theorem blk_stop {u : TUnit} (h1 : isBl (su u) = false) (h2 : su u ≠ 35) : blk false (u :: us) = u :: us := by
  simp only [blk, h1, if_neg h2, Bool.false_eq_true, if_false]
theorem blk_note (hF : Fine U) : ∀ {us : List TUnit}, us <:+ U → blk true us = blk false (us.dropWhile fun u => inNote (su u))
  | [], _ => rfl
  | u :: us, h => by
    have h1 := su_ne hF h
    rw [List.dropWhile_cons]
    simp only [blk]
    by_cases h10 : su u = 10
    · have hn : inNote (su u) = false := by rw [h10]; rfl
      rw [if_pos h10, hn]
      simp only [Bool.false_eq_true, if_false, blk]
      rw [if_pos (by rw [h10]; rfl)]
    · rw [if_neg h10]
      by_cases h2 : su u = -2
      · have hn : inNote (su u) = false := by rw [h2]; rfl
        rw [if_pos h2, hn]
        simp only [Bool.false_eq_true, if_false]
        rw [blk_stop (by rw [h2]; rfl) (by omega)]
      · have hn : inNote (su u) = true := by
          simp only [inNote, bne_iff_ne, ne_eq, Bool.and_eq_true]; exact ⟨h10, h1, h2⟩
        rw [if_neg h2, hn]
        exact blk_note hF (suf_tail h)
theorem drop_head {q : TUnit → Bool} : ∀ (l : List TUnit), l.dropWhile q = [] ∨ ∃ u m, l.dropWhile q = u :: m ∧ q u = false
  | [] => .inl rfl
  | u :: l => by
    rw [List.dropWhile_cons]
    cases h : q u with
    | true => exact drop_head l
    | false => exact .inr ⟨u, l, rfl, h⟩
theorem blank_rd (hF : Fine U) : ∀ (n : Nat) {us : List TUnit}, us.length ≤ n → us <:+ U → Loop lex_reader_blank.b1 (U, ((U.length - us.length : Nat) : Int), w, f) = some (rd U w (blk false us) f)
  | n, us, hn, h => by
    have hs := skip_rd (w := w) (f := f) hF bl1_eq (by rfl) h
    have hd := suf_drop (q := fun u => isBl (su u)) h
    rw [blk_skip us]
    have hbody := now_eq (w := w) (f := f) hd
    rcases drop_head (q := fun u => isBl (su u)) us with he | ⟨u, m, he, hu⟩
    · refine Loop_done ?_
      rw [he] at hs hd hbody ⊢
      simp only [lex_reader_blank.b1]
      simp only [rd] at hs hbody ⊢
      rw [hs, Option.bind_some, hbody, Option.bind_some]
      rfl
    · by_cases h35 : su u = 35
      · have hlen : m.length < us.length := by
          have := (List.dropWhile_suffix (l := us) (fun u => isBl (su u))).length_le
          rw [he] at this; simp at this; omega
        rw [he] at hs hd hbody ⊢
        have hs2 := skip_rd (w := w) (f := f) hF bl2_eq (by rfl) hd
        rw [List.dropWhile_cons, show inNote (su u) = true by rw [h35]; rfl] at hs2
        simp only [if_true] at hs2
        have hm := suf_drop (q := fun u => inNote (su u)) (suf_tail hd)
        have hlm := (List.dropWhile_suffix (l := m) (fun u => inNote (su u))).length_le
        rw [Loop_next (s' := (U, ((U.length - (m.dropWhile fun u => inNote (su u)).length : Nat) : Int), w, f))]
        · cases n with
          | zero => omega
          | succ n =>
            rw [blank_rd hF n (us := m.dropWhile fun u => inNote (su u)) (by omega) hm]
            have : blk false (u :: m) = blk true m := by simp only [blk, hu, if_pos h35, Bool.false_eq_true, if_false]
            rw [this, blk_note hF (suf_tail hd)]
        · simp only [lex_reader_blank.b1]
          simp only [rd] at hs hs2 hbody ⊢
          rw [hs, Option.bind_some, hbody, Option.bind_some]
          simp only [sgn, h35]
          rw [hs2]
          rfl
      · refine Loop_done ?_
        rw [he] at hs hd hbody ⊢
        rw [blk_stop hu h35]
        simp only [lex_reader_blank.b1]
        simp only [rd] at hs hbody ⊢
        rw [hs, Option.bind_some, hbody, Option.bind_some]
        rw [if_pos (by simpa [sgn] using h35)]
theorem blank_eq (hF : Fine U) (h : us <:+ U) : lex_reader_blank (rd U w us f) = some (rd U w (blk false us) f) := blank_rd hF us.length (Nat.le_refl _) h
end Go.Val

/- part Q21l -/
/- Plain lemmas: what the reader takes: numbers, letters. -/
namespace Go.Val
variable {U us : List TUnit} {w f : Int}
/-- What is read, and what stands behind it; or the error, and where. -/
inductive Pr (α : Type) where
  | ok (a : α) (r : List TUnit)
  | err (c : Int) (r : List TUnit)
def odd (us : List TUnit) : Int := if us.isEmpty then 7 else 6
theorem odd_eq (hF : Fine U) (h : us <:+ U) : lex_reader_odd (rd U w us 0) = some (rd U w us (odd us)) := by
  unfold lex_reader_odd
  rw [if_neg (by simp [rd]), now_eq h, Option.bind_some]
  cases us with
  | nil => rfl
  | cons u us =>
    have h1 := su_ne hF h
    rw [if_neg (by simpa [sgn] using h1)]
    rfl
theorem odd_f (hf : f ≠ 0) : lex_reader_odd (rd U w us f) = some (rd U w us f) := by
  unfold lex_reader_odd
  rw [if_pos (by simpa [rd] using hf)]; rfl
theorem take_f {p : Int → Option Bool} (h : us <:+ U) (hf : f ≠ 0) : lex_reader_take (rd U w us f) p = some (0, rd U w us f) := by
  unfold lex_reader_take
  have hf' : ((rd U w us f).fault != 0) = true := by simpa [rd] using hf
  rw [now_eq h, Option.bind_some, if_pos hf', Option.bind_some, if_pos rfl, odd_f hf]; rfl
theorem take_no {p : Int → Option Bool} (hF : Fine U) (h : us <:+ U) (hp : p (sgn us) = some false) : lex_reader_take (rd U w us 0) p = some (0, rd U w us (odd us)) := by
  unfold lex_reader_take
  have hf' : ¬ ((rd U w us 0).fault != 0) = true := by simp [rd]
  rw [now_eq h, Option.bind_some, if_neg hf', hp, Option.bind_some, Option.bind_some, if_pos (by rfl), odd_eq hF h]; rfl
theorem take_yes {p : Int → Option Bool} {u : TUnit} (hF : Fine U) (h : (u :: us) <:+ U) (hp : p (su u) = some true) : lex_reader_take (rd U w (u :: us) 0) p = some (su u, rd U w us 0) := by
  unfold lex_reader_take
  have hf' : ¬ ((rd U w (u :: us) 0).fault != 0) = true := by simp [rd]
  rw [now_eq h, Option.bind_some, if_neg hf']
  simp only [sgn]
  rw [hp, Option.bind_some, Option.bind_some, if_neg (by simp)]
  have := rd_step hF h
  simp only [rd] at this ⊢
  rw [this]
/-! ### numbers -/
def hexv (n : Int) : Option Int := if 48 ≤ n ∧ n ≤ 57 then some (n - 48) else if 65 ≤ n ∧ n ≤ 70 then some (n - 55) else none
theorem fig_eq (n : Int) : lex_reader_number_2 n = some (hexv n).isSome := by
  unfold lex_reader_number_2 hexv
  by_cases h1 : 48 ≤ n ∧ n ≤ 57
  · rw [if_pos h1, decide_eq_true h1.1, decide_eq_true h1.2]; rfl
  · rw [if_neg h1]
    by_cases h2 : 65 ≤ n ∧ n ≤ 70
    · rw [if_pos h2, decide_eq_true (show n ≥ 48 by omega), decide_eq_true (show n ≥ 65 from h2.1), decide_eq_true h2.2]; simp
    · rw [if_neg h2]
      have a1 : (decide (n ≥ 65) && decide (n ≤ 70)) = false := by simp; omega
      rw [a1]
      cases h3 : decide (n ≥ 48) with
      | false => rfl
      | true => simp at h3; simp; omega
def closeS (acc : Int) : List TUnit → Pr Int
  | [] => .err 7 []
  | u :: us => if su u = 125 then .ok acc us else .err 6 (u :: us)
def figS : Nat → Bool → Int → List TUnit → Pr Int
  | 0, _, acc, us => closeS acc us
  | k + 1, fst, acc, [] => .err 7 []
  | k + 1, fst, acc, u :: us => match hexv (su u) with
    | some d => figS k false (acc * 16 + d) us
    | none => if fst then .err 6 (u :: us) else closeS acc (u :: us)
def numS : List TUnit → Pr Int
  | [] => .err 7 []
  | u :: us => if su u = 123 then figS 6 true 0 us else .err 6 (u :: us)
/-- Behind a fault nothing is taken. -/
theorem num_f (h : us <:+ U) (hf : f ≠ 0) : ∀ (k : Nat) (out i : Int), i + k = 6 → 0 ≤ i → ∃ v, Loop lex_reader_number.b1 (out, i, U, ((U.length - us.length : Nat) : Int), w, f) = some (v, rd U w us f)
  | k, out, i, hk, hi => by
    have ht : ∀ p, lex_reader_take ⟨U, ((U.length - us.length : Nat) : Int), w, f⟩ p = some (0, rd U w us f) := fun p => take_f h hf
    have hn : lex_reader_now ⟨U, ((U.length - us.length : Nat) : Int), w, f⟩ = some (sgn us) := now_eq h
    have fin : ∀ out, (lex_reader_number.k1 out U ((U.length - us.length : Nat) : Int) w f).map (Step.done (σ := Int × Int × List TUnit × Int × Int × Int)) = some (.done (out, rd U w us f)) := fun out => by
      unfold lex_reader_number.k1; rw [ht]; rfl
    have go : ∀ v : Bool, (v = true → 0 < k) → (if decide (i < 6) = true then if (i == 0) = true then some true else (lex_reader_now ⟨U, ((U.length - us.length : Nat) : Int), w, f⟩).bind fun r3 => (lex_reader_number_2 r3).bind fun r4 => some r4 else some false) = some v →
        ∃ v, Loop lex_reader_number.b1 (out, i, U, ((U.length - us.length : Nat) : Int), w, f) = some (v, rd U w us f) := fun v hv he => by
      cases v with
      | false =>
        refine ⟨out, Loop_done ?_⟩
        simp only [lex_reader_number.b1]
        rw [he]
        exact fin out
      | true =>
        obtain ⟨k, rfl⟩ : ∃ j, k = j + 1 := ⟨k - 1, by have := hv rfl; omega⟩
        obtain ⟨x, hx⟩ := num_f h hf k (IntKind.i64.wrap (IntKind.i64.wrap (IntKind.i64.wrap (out * 16) + 0) - 48)) (i + 1) (by omega) (by omega)
        refine ⟨x, ?_⟩
        rw [← hx]
        refine Loop_next ?_
        simp only [lex_reader_number.b1]
        rw [he, Option.bind_some, if_pos rfl, ht, Option.bind_some]
        rw [if_neg (by simp)]
        unfold lex_reader_number.k2
        rw [w64 (n := i + 1) (by omega) (by omega)]
        rfl
    by_cases h6 : i < 6
    · by_cases h0 : i = 0
      · exact go true (fun _ => by omega) (by rw [if_pos (by simpa using h6), if_pos (by simpa using h0)])
      · exact go (hexv (sgn us)).isSome (fun _ => by omega) (by rw [if_pos (by simpa using h6), if_neg (by simpa using h0), hn, Option.bind_some, fig_eq]; rfl)
    · exact go false (fun e => by cases e) (by rw [if_neg (by simpa using h6)])
theorem hexv_lt {n d : Int} (h : hexv n = some d) : 0 ≤ d ∧ d < 16 ∧ (d = if n ≥ 65 then n - 7 - 48 else n - 48) ∧ 48 ≤ n ∧ n ≤ 70 := by
  unfold hexv at h
  split at h
  · cases h; rename_i h; rw [if_neg (by omega)]; omega
  split at h
  · cases h; rename_i h; rw [if_pos (by omega)]; omega
  · cases h
theorem close_eq (hF : Fine U) (h : us <:+ U) (acc : Int) : match closeS acc us with
    | .ok v r => lex_reader_number.k1 acc U ((U.length - us.length : Nat) : Int) w 0 = some (v, rd U w r 0) ∧ r <:+ us ∧ v = acc ∧ r.length < us.length
    | .err c r => ∃ v, lex_reader_number.k1 acc U ((U.length - us.length : Nat) : Int) w 0 = some (v, rd U w r c) ∧ r <:+ us ∧ c ≠ 0 := by
  cases us with
  | nil =>
    refine ⟨acc, ?_, List.suffix_rfl, by decide⟩
    have := take_no (w := w) (p := lex_reader_number_3) hF h rfl
    unfold lex_reader_number.k1
    simp only [rd] at this ⊢
    rw [this]; rfl
  | cons u us =>
    by_cases h1 : su u = 125
    · simp only [closeS, if_pos h1]
      refine ⟨?_, List.suffix_cons u us, by simp, by simp⟩
      have := take_yes (w := w) (p := lex_reader_number_3) hF h (by unfold lex_reader_number_3; rw [h1]; rfl)
      unfold lex_reader_number.k1
      simp only [rd] at this ⊢
      rw [this]; rfl
    · simp only [closeS, if_neg h1]
      refine ⟨acc, ?_, List.suffix_rfl, by decide⟩
      have := take_no (w := w) (p := lex_reader_number_3) hF h (by unfold lex_reader_number_3 sgn; simp [h1])
      unfold lex_reader_number.k1
      simp only [rd] at this ⊢
      rw [this]; rfl
theorem fig_spec (hF : Fine U) : ∀ (k : Nat) (fst : Bool) {us : List TUnit} (acc i : Int), us <:+ U → i + k = 6 → 0 ≤ i → (fst = true ↔ i = 0) → 0 ≤ acc → acc < 16 ^ (6 - k) →
    match figS k fst acc us with
    | .ok v r => Loop lex_reader_number.b1 (acc, i, U, ((U.length - us.length : Nat) : Int), w, 0) = some (v, rd U w r 0) ∧ r <:+ us ∧ 0 ≤ v ∧ v < 16777216 ∧ r.length < us.length
    | .err c r => (∃ v, Loop lex_reader_number.b1 (acc, i, U, ((U.length - us.length : Nat) : Int), w, 0) = some (v, rd U w r c)) ∧ r <:+ us ∧ c ≠ 0
  | k, fst, us, acc, i, h, hk, hi, hf, ha, hb => by
    have hn : lex_reader_now ⟨U, ((U.length - us.length : Nat) : Int), w, 0⟩ = some (sgn us) := now_eq h
    have hb6 : acc < 16777216 := Int.lt_of_lt_of_le hb (by
      have : (16 : Int) ^ (6 - k) ≤ 16 ^ 6 := by exact_mod_cast Nat.pow_le_pow_right (by decide) (by omega)
      simpa using this)
    have stop : (if decide (i < 6) = true then if (i == 0) = true then some true else (lex_reader_now ⟨U, ((U.length - us.length : Nat) : Int), w, 0⟩).bind fun r3 => (lex_reader_number_2 r3).bind fun r4 => some r4 else some false) = some false →
        match closeS acc us with
        | .ok v r => Loop lex_reader_number.b1 (acc, i, U, ((U.length - us.length : Nat) : Int), w, 0) = some (v, rd U w r 0) ∧ r <:+ us ∧ 0 ≤ v ∧ v < 16777216 ∧ r.length < us.length
        | .err c r => (∃ v, Loop lex_reader_number.b1 (acc, i, U, ((U.length - us.length : Nat) : Int), w, 0) = some (v, rd U w r c)) ∧ r <:+ us ∧ c ≠ 0 := fun he => by
      have hc := close_eq (w := w) hF h acc
      cases hcs : closeS acc us with
      | ok v r =>
        rw [hcs] at hc
        obtain ⟨h1, h2, h3, h4⟩ := hc
        refine ⟨Loop_done ?_, h2, by omega, by omega, h4⟩
        simp only [lex_reader_number.b1]
        rw [he, Option.bind_some, if_neg (by simp), h1]; rfl
      | err c r =>
        rw [hcs] at hc
        obtain ⟨v, h1, h2, h3⟩ := hc
        refine ⟨⟨v, Loop_done ?_⟩, h2, h3⟩
        simp only [lex_reader_number.b1]
        rw [he, Option.bind_some, if_neg (by simp), h1]; rfl
    cases k with
    | zero => exact stop (by rw [if_neg (by simp; omega)])
    | succ k =>
      have h6 : decide (i < 6) = true := by simp; omega
      have fault : ∀ us', us' = us → (hexv (sgn us) = none) → fst = true → figS (k + 1) fst acc us = .err (odd us) us →
          match figS (k + 1) fst acc us with
          | .ok v r => Loop lex_reader_number.b1 (acc, i, U, ((U.length - us.length : Nat) : Int), w, 0) = some (v, rd U w r 0) ∧ r <:+ us ∧ 0 ≤ v ∧ v < 16777216 ∧ r.length < us.length
          | .err c r => (∃ v, Loop lex_reader_number.b1 (acc, i, U, ((U.length - us.length : Nat) : Int), w, 0) = some (v, rd U w r c)) ∧ r <:+ us ∧ c ≠ 0 := fun _ _ hx hfst he => by
        have hc : odd us ≠ 0 := by unfold odd; split <;> decide
        rw [he]
        refine ⟨?_, List.suffix_rfl, hc⟩
        have i0 := hf.1 hfst
        subst i0
        have ht := take_no (w := w) (p := lex_reader_number_2) hF h (by rw [fig_eq, hx]; rfl)
        obtain ⟨x, hx2⟩ := num_f (w := w) h hc 5 (IntKind.i64.wrap (IntKind.i64.wrap (IntKind.i64.wrap (acc * 16) + 0) - 48)) 1 (by omega) (by omega)
        refine ⟨x, ?_⟩
        rw [← hx2]
        refine Loop_next ?_
        simp only [lex_reader_number.b1]
        rw [if_pos h6, if_pos (by rfl), Option.bind_some, if_pos rfl]
        simp only [rd] at ht ⊢
        rw [ht, Option.bind_some, if_neg (by simp)]
        rfl
      cases us with
      | nil =>
        cases hfs : fst with
        | true => exact hfs ▸ fault [] rfl rfl hfs rfl
        | false =>
          have hst := stop (by
            rw [if_pos h6, if_neg (by intro e; simp at e; have := hf.2 e; rw [hfs] at this; cases this), hn]; rfl)
          exact hst
      | cons u us =>
        cases hx : hexv (su u) with
        | none =>
          cases hfs : fst with
          | true =>
            have := fault (u :: us) rfl hx hfs (by simp only [figS, hx, hfs, if_true]; rfl)
            rw [hfs] at this; exact this
          | false =>
            have hst := stop (by
              rw [if_pos h6, if_neg (by intro e; simp at e; have := hf.2 e; rw [hfs] at this; cases this), hn]
              simp only [Option.bind_some, sgn, fig_eq, hx]; rfl)
            simp only [figS, hx, Bool.false_eq_true, if_false]
            exact hst
        | some d =>
          obtain ⟨d0, d1, d2, d3, d4⟩ := hexv_lt hx
          have hp : (16 : Int) ^ (6 - k) = 16 ^ (6 - (k + 1)) * 16 := by
            rw [show 6 - k = (6 - (k + 1)) + 1 by omega, Int.pow_succ]
          have ih := fig_spec hF k false (us := us) (acc * 16 + d) (i + 1) (suf_tail h) (by omega) (by omega) ⟨fun e => (by cases e), fun e => (by omega)⟩ (by omega) (by rw [hp]; omega)
          have hgo : (if decide (i < 6) = true then if (i == 0) = true then some true else (lex_reader_now ⟨U, ((U.length - (u :: us).length : Nat) : Int), w, 0⟩).bind fun r3 => (lex_reader_number_2 r3).bind fun r4 => some r4 else some false) = some true := by
            rw [if_pos h6]
            split
            · rfl
            · rw [hn]; simp only [Option.bind_some, sgn, fig_eq, hx]; rfl
          have ht := take_yes (w := w) (p := lex_reader_number_2) hF h (by rw [fig_eq, hx]; rfl)
          have hstep : Loop lex_reader_number.b1 (acc, i, U, ((U.length - (u :: us).length : Nat) : Int), w, 0) = Loop lex_reader_number.b1 (acc * 16 + d, i + 1, U, ((U.length - us.length : Nat) : Int), w, 0) := by
            refine Loop_next ?_
            simp only [lex_reader_number.b1]
            rw [hgo, Option.bind_some, if_pos rfl]
            simp only [rd] at ht ⊢
            rw [ht, Option.bind_some]
            simp only
            by_cases h65 : su u ≥ 65
            · rw [if_pos (by simpa using h65)]
              unfold lex_reader_number.k2
              rw [if_pos h65] at d2
              rw [w64 (n := su u - 7) (by omega) (by omega), w64 (n := acc * 16) (by omega) (by omega), w64 (n := acc * 16 + (su u - 7)) (by omega) (by omega), w64 (by omega) (by omega), w64 (n := i + 1) (by omega) (by omega), d2]
              congr 4; omega
            · rw [if_neg (by simpa using h65)]
              unfold lex_reader_number.k2
              rw [if_neg h65] at d2
              rw [w64 (n := acc * 16) (by omega) (by omega), w64 (n := acc * 16 + su u) (by omega) (by omega), w64 (by omega) (by omega), w64 (n := i + 1) (by omega) (by omega), d2]
              congr 4; omega
          simp only [figS, hx, hstep]
          cases hfg : figS k false (acc * 16 + d) us with
          | ok v r =>
            rw [hfg] at ih
            exact ⟨ih.1, ih.2.1.trans (List.suffix_cons u us), ih.2.2.1, ih.2.2.2.1, by have := ih.2.2.2.2; simp; omega⟩
          | err c r =>
            rw [hfg] at ih
            exact ⟨ih.1, ih.2.1.trans (List.suffix_cons u us), ih.2.2⟩
end Go.Val

/- part Q22l -/
/- Plain lemmas: letters and sets are read. -/
namespace Go.Val
variable {U us : List TUnit} {w f : Int}
theorem num_spec (hF : Fine U) (h : us <:+ U) : match numS us with
    | .ok v r => lex_reader_number (rd U w us 0) = some (v, rd U w r 0) ∧ r <:+ us ∧ 0 ≤ v ∧ v < 16777216 ∧ r.length < us.length
    | .err c r => (∃ v, lex_reader_number (rd U w us 0) = some (v, rd U w r c)) ∧ r <:+ us ∧ c ≠ 0 := by
  have bad : lex_reader_number_1 (sgn us) = some false → numS us = .err (odd us) us → match numS us with
    | .ok v r => lex_reader_number (rd U w us 0) = some (v, rd U w r 0) ∧ r <:+ us ∧ 0 ≤ v ∧ v < 16777216 ∧ r.length < us.length
    | .err c r => (∃ v, lex_reader_number (rd U w us 0) = some (v, rd U w r c)) ∧ r <:+ us ∧ c ≠ 0 := fun hp he => by
    have hc : odd us ≠ 0 := by unfold odd; split <;> decide
    rw [he]
    obtain ⟨v, hv⟩ := num_f (w := w) h hc 6 0 0 (by omega) (by omega)
    refine ⟨⟨v, ?_⟩, List.suffix_rfl, hc⟩
    unfold lex_reader_number
    rw [take_no hF h hp, Option.bind_some]
    exact hv
  cases us with
  | nil => exact bad rfl rfl
  | cons u us =>
    by_cases h1 : su u = 123
    · have hf := fig_spec (w := w) hF 6 true 0 0 (suf_tail h) (by omega) (by omega) (by simp) (by omega) (by decide)
      have ht := take_yes (w := w) (p := lex_reader_number_1) hF h (by unfold lex_reader_number_1; rw [h1]; rfl)
      have e : lex_reader_number (rd U w (u :: us) 0) = Loop lex_reader_number.b1 (0, 0, U, ((U.length - us.length : Nat) : Int), w, 0) := by
        unfold lex_reader_number
        rw [ht]; rfl
      simp only [numS, if_pos h1, e]
      cases hfg : figS 6 true 0 us with
      | ok v r =>
        rw [hfg] at hf
        exact ⟨hf.1, hf.2.1.trans (List.suffix_cons u us), hf.2.2.1, hf.2.2.2.1, by have := hf.2.2.2.2; simp; omega⟩
      | err c r =>
        rw [hfg] at hf
        exact ⟨hf.1, hf.2.1.trans (List.suffix_cons u us), hf.2.2⟩
    · exact bad (by unfold lex_reader_number_1 sgn; simp [h1]) (by simp only [numS, if_neg h1]; rfl)
/-! ### letters -/
def spec (n : Int) : Bool := n == 91 || n == 93 || n == 45 || n == 92
def plainL (n : Int) : Bool := decide (n ≥ 32) && !(n == 91 || n == 93 || n == 45)
def letterS : List TUnit → Pr Int
  | [] => .err 7 []
  | u :: us => if plainL (su u) then
      if su u = 92 then match us with
        | [] => .err 7 []
        | u2 :: us2 => if su u2 = 120 then numS us2 else if spec (su u2) then .ok (su u2) us2 else .err 6 (u2 :: us2)
      else .ok (su u) us
    else .err 6 (u :: us)
theorem any3 (n : Int) : lex_one ([91, 93, 45] : Str) n = some (n == 91 || n == 93 || n == 45) := by
  rw [one_eq (by decide)]
  have e : ∀ c : Int, (c == n) = (n == c) := fun c => Bool.beq_comm
  show some (((91 : Int) == n) || (((93 : Int) == n) || (((45 : Int) == n) || false))) = _
  simp only [e, Bool.or_false, Bool.or_assoc]
theorem any4 (n : Int) : lex_one ([91, 93, 45, 92] : Str) n = some (spec n) := by
  rw [one_eq (by decide)]
  have e : ∀ c : Int, (c == n) = (n == c) := fun c => Bool.beq_comm
  show some (((91 : Int) == n) || (((93 : Int) == n) || (((45 : Int) == n) || (((92 : Int) == n) || false)))) = _
  simp only [e, spec, Bool.or_false, Bool.or_assoc]
theorem l1_eq (n : Int) : lex_reader_letter_1 n = some (plainL n) := by
  unfold lex_reader_letter_1 plainL
  rw [any3]
  cases decide (n ≥ 32) <;> rfl
theorem l2_eq (n : Int) : lex_reader_letter_2 n = some (n == 120 || spec n) := by
  unfold lex_reader_letter_2
  rw [any4]
  cases (n == 120) <;> rfl
theorem letter_spec (hF : Fine U) (h : us <:+ U) : match letterS us with
    | .ok v r => lex_reader_letter (rd U w us 0) = some (v, rd U w r 0) ∧ r <:+ us ∧ 0 ≤ v ∧ v < 16777216 ∧ r.length < us.length
    | .err c r => (∃ v, lex_reader_letter (rd U w us 0) = some (v, rd U w r c)) ∧ r <:+ us ∧ c ≠ 0 := by
  have bad : lex_reader_letter_1 (sgn us) = some false → ∃ v, lex_reader_letter (rd U w us 0) = some (v, rd U w us (odd us)) := fun hp => by
    have hc : odd us ≠ 0 := by unfold odd; split <;> decide
    refine ⟨0, ?_⟩
    unfold lex_reader_letter
    rw [take_no hF h hp, Option.bind_some, if_pos (by simp)]
  cases us with
  | nil => exact ⟨bad rfl, List.suffix_rfl, by decide⟩
  | cons u us =>
    cases h1 : plainL (su u) with
    | false =>
      simp only [letterS, h1, Bool.false_eq_true, if_false]
      exact ⟨bad (by rw [l1_eq]; simp only [sgn, h1]), List.suffix_rfl, by decide⟩
    | true =>
      have ht := take_yes (w := w) (p := lex_reader_letter_1) hF h (by rw [l1_eq, h1])
      have hu := hF.one h
      have hb : 0 ≤ su u ∧ su u < 16777216 := by
        have : su u ≥ 32 := by simp [plainL] at h1; omega
        have h2 : su u ≤ 1114111 := by unfold su; split <;> omega
        omega
      simp only [letterS, h1, if_true]
      by_cases h92 : su u = 92
      · rw [if_pos h92]
        have hs := suf_tail h
        have e : lex_reader_letter (rd U w (u :: us) 0) = (lex_reader_take (rd U w us 0) lex_reader_letter_2).bind fun r2 => if (r2.1 != (120 : Int)) then some (r2.1, r2.2) else (lex_reader_number r2.2).bind fun r3 => some (r3.1, r3.2) := by
          unfold lex_reader_letter
          rw [ht, Option.bind_some, if_neg (by simp [h92, rd])]
        rw [e]
        cases us with
        | nil =>
          refine ⟨⟨0, ?_⟩, List.suffix_cons _ _, by decide⟩
          rw [take_no hF hs (by rw [l2_eq]; rfl)]; rfl
        | cons u2 us2 =>
          simp only
          by_cases h120 : su u2 = 120
          · rw [if_pos h120, take_yes hF hs (by rw [l2_eq, h120]; rfl), Option.bind_some, if_neg (by simp [h120])]
            have hn := num_spec (w := w) hF (suf_tail hs)
            cases hnn : numS us2 with
            | ok v r =>
              rw [hnn] at hn
              exact ⟨by rw [hn.1]; rfl, hn.2.1.trans ((List.suffix_cons u2 us2).trans (List.suffix_cons u _)), hn.2.2.1, hn.2.2.2.1, by have := hn.2.2.2.2; simp; omega⟩
            | err c r =>
              rw [hnn] at hn
              obtain ⟨⟨v, hv⟩, h2, h3⟩ := hn
              exact ⟨⟨v, by rw [hv]; rfl⟩, h2.trans ((List.suffix_cons u2 us2).trans (List.suffix_cons u _)), h3⟩
          · rw [if_neg h120]
            cases hsp : spec (su u2) with
            | true =>
              simp only [if_true]
              rw [take_yes hF hs (by rw [l2_eq, hsp]; simp), Option.bind_some, if_pos (by simpa using h120)]
              refine ⟨rfl, (List.suffix_cons u2 us2).trans (List.suffix_cons u _), ?_, ?_, by simp; omega⟩
              · simp [spec] at hsp; omega
              · simp [spec] at hsp; omega
            | false =>
              simp only [Bool.false_eq_true, if_false]
              refine ⟨⟨0, ?_⟩, List.suffix_cons _ _, by decide⟩
              rw [take_no hF hs (by rw [l2_eq]; simp [sgn, h120, hsp])]; rfl
      · rw [if_neg h92]
        refine ⟨?_, List.suffix_cons u us, hb.1, hb.2, by simp⟩
        unfold lex_reader_letter
        rw [ht, Option.bind_some, if_pos (by simp [h92])]
/-! ### sets -/
def setS : Nat → List TRange → List TUnit → Pr (List TRange)
  | 0, _, us => .err 6 us
  | k + 1, acc, us => if sgn us = 93 then .ok acc us.tail else
    match letterS us with
    | .err c r => .err c r
    | .ok lo r1 => match (if sgn r1 = 45 then letterS r1.tail else .ok lo r1) with
      | .err c r => .err c r
      | .ok hi r2 => if lo > hi ∨ hi > 1114111 then .err 1 us else setS k (acc ++ [⟨lo, hi⟩]) r2
theorem set_spec (hF : Fine U) : ∀ (k : Nat) {us : List TUnit} (acc : List TRange), us <:+ U → us.length < k → (∀ x ∈ acc, Ok x) → acc.length + us.length ≤ 1048576 →
    match setS k acc us with
    | .ok l r => Loop lex_reader_set.b1 (acc, U, ((U.length - us.length : Nat) : Int), w, 0) = (ranges_Make l).bind (fun q => some (q.1, rd U w r 0)) ∧ r <:+ us ∧ r.length < us.length ∧ (∀ x ∈ l, Ok x) ∧ l.length ≤ 1048576
    | .err c r => Loop lex_reader_set.b1 (acc, U, ((U.length - us.length : Nat) : Int), w, 0) = some ([], rd U w r c) ∧ r <:+ us ∧ c ≠ 0
  | 0, us, acc, _, hk, _, _ => absurd hk (Nat.not_lt_zero _)
  | k + 1, us, acc, h, hk, ha, hl => by
    have hn : lex_reader_now ⟨U, ((U.length - us.length : Nat) : Int), w, 0⟩ = some (sgn us) := now_eq h
    simp only [setS]
    by_cases h93 : sgn us = 93
    · rw [if_pos h93]
      cases us with
      | nil => simp [sgn] at h93
      | cons u us =>
        have hs := rd_step hF h
        refine ⟨?_, List.suffix_cons u us, by simp, ha, by omega⟩
        refine Loop_end ?_
        simp only [lex_reader_set.b1]
        rw [hn, Option.bind_some, if_neg (by simp [h93])]
        unfold lex_reader_set.k1
        simp only [List.tail_cons, rd, hs]
    · rw [if_neg h93]
      have hlt := letter_spec (w := w) hF h
      have hb : ∀ y, lex_reader_letter (rd U w us 0) = some y → lex_reader_set.b1 (acc, U, ((U.length - us.length : Nat) : Int), w, 0) =
          ((lex_reader_now y.2).bind fun r4 => if (r4 == (45 : Int)) then some (y.2.fault == (0 : Int)) else some false).bind fun v => if v then
            (lex_reader_letter (Tlex_reader.mk y.2.units (IntKind.i64.wrap (y.2.place + (1 : Int))) y.2.whole y.2.fault)).bind fun r5 => lex_reader_set.k2 acc ((U.length - us.length : Nat) : Int) y r5.1 r5.2.units r5.2.place r5.2.whole r5.2.fault
          else lex_reader_set.k2 acc ((U.length - us.length : Nat) : Int) y y.1 y.2.units y.2.place y.2.whole y.2.fault := fun y hy => by
        simp only [lex_reader_set.b1]
        rw [hn, Option.bind_some, if_pos (by simpa using h93)]
        simp only [rd] at hy
        rw [hy]; rfl
      cases hls : letterS us with
      | err c r =>
        rw [hls] at hlt
        obtain ⟨⟨v, hv⟩, hr, hc⟩ := hlt
        refine ⟨Loop_done ?_, hr, hc⟩
        rw [hb _ hv]
        have hnr := now_eq (w := w) (f := c) (hr.trans h)
        have hc' : (c == (0 : Int)) = false := by simpa using hc
        simp only [rd] at hnr ⊢
        rw [hnr, Option.bind_some, hc']
        rw [show (if (sgn r == (45 : Int)) = true then some false else some false) = some false by split <;> rfl, Option.bind_some, if_neg (by simp)]
        unfold lex_reader_set.k2
        rw [if_pos (by simpa using hc)]
      | ok lo r1 =>
        rw [hls] at hlt
        obtain ⟨hv, hr, hlo0, hlo1, hrl⟩ := hlt
        have hr1 := hr.trans h
        have hnr := now_eq (w := w) (f := 0) hr1
        -- what stands behind the letters
        have fin : ∀ (hi : Int) (r2 : List TUnit), r2 <:+ us → r2.length < us.length → 0 ≤ hi →
            lex_reader_set.b1 (acc, U, ((U.length - us.length : Nat) : Int), w, 0) = lex_reader_set.k2 acc ((U.length - us.length : Nat) : Int) (lo, rd U w r1 0) hi U ((U.length - r2.length : Nat) : Int) w 0 →
            match (if lo > hi ∨ hi > 1114111 then Pr.err 1 us else setS k (acc ++ [⟨lo, hi⟩]) r2) with
            | .ok l r => Loop lex_reader_set.b1 (acc, U, ((U.length - us.length : Nat) : Int), w, 0) = (ranges_Make l).bind (fun q => some (q.1, rd U w r 0)) ∧ r <:+ us ∧ r.length < us.length ∧ (∀ x ∈ l, Ok x) ∧ l.length ≤ 1048576
            | .err c r => Loop lex_reader_set.b1 (acc, U, ((U.length - us.length : Nat) : Int), w, 0) = some ([], rd U w r c) ∧ r <:+ us ∧ c ≠ 0 := fun hi r2 hs2 hl2 hh0 he => by
          by_cases hbad : lo > hi ∨ hi > 1114111
          · rw [if_pos hbad]
            refine ⟨Loop_done ?_, List.suffix_rfl, by decide⟩
            rw [he]
            unfold lex_reader_set.k2
            rw [if_neg (by simp), if_pos (by simpa using hbad)]; rfl
          · rw [if_neg hbad]
            have ih := set_spec hF k (us := r2) (acc ++ [⟨lo, hi⟩]) (hs2.trans h) (by omega) (fun x hx => by
              rcases List.mem_append.1 hx with hx | hx
              · exact ha x hx
              · rw [List.mem_singleton.1 hx]; unfold Ok; exact ⟨hlo0, by show lo ≤ hi; omega, by show hi ≤ 1114111; omega⟩) (by simp; omega)
            have hstep : Loop lex_reader_set.b1 (acc, U, ((U.length - us.length : Nat) : Int), w, 0) = Loop lex_reader_set.b1 (acc ++ [⟨lo, hi⟩], U, ((U.length - r2.length : Nat) : Int), w, 0) := by
              refine Loop_next ?_
              rw [he]
              unfold lex_reader_set.k2
              rw [if_neg (by simp), if_neg (by simpa using hbad), room_ok (by omega)]; rfl
            rw [hstep]
            cases hsk : setS k (acc ++ [⟨lo, hi⟩]) r2 with
            | ok l r =>
              rw [hsk] at ih
              exact ⟨ih.1, ih.2.1.trans hs2, by have := ih.2.2.1; omega, ih.2.2.2⟩
            | err c r =>
              rw [hsk] at ih
              exact ⟨ih.1, ih.2.1.trans hs2, ih.2.2⟩
        simp only
        by_cases h45 : sgn r1 = 45
        · rw [if_pos h45]
          cases r1 with
          | nil => simp [sgn] at h45
          | cons u2 us2 =>
            have hs := rd_step hF hr1
            have hlt2 := letter_spec (w := w) hF (suf_tail hr1)
            have hb2 : lex_reader_set.b1 (acc, U, ((U.length - us.length : Nat) : Int), w, 0) = (lex_reader_letter (rd U w us2 0)).bind fun r5 => lex_reader_set.k2 acc ((U.length - us.length : Nat) : Int) (lo, rd U w (u2 :: us2) 0) r5.1 r5.2.units r5.2.place r5.2.whole r5.2.fault := by
              rw [hb _ hv]
              rw [hnr, Option.bind_some, if_pos (by simpa using h45)]
              simp only [rd, hs]
              rfl
            simp only [List.tail_cons]
            cases hls2 : letterS us2 with
            | err c r =>
              rw [hls2] at hlt2
              obtain ⟨⟨v, hv2⟩, hr2, hc⟩ := hlt2
              refine ⟨Loop_done ?_, hr2.trans ((List.suffix_cons u2 us2).trans hr), hc⟩
              rw [hb2, hv2, Option.bind_some]
              unfold lex_reader_set.k2
              rw [if_pos (by simpa [rd] using hc)]
            | ok hi r2 =>
              rw [hls2] at hlt2
              obtain ⟨hv2, hr2, hh0, _, hrl2⟩ := hlt2
              exact fin hi r2 (hr2.trans ((List.suffix_cons u2 us2).trans hr)) (by simp at hrl; omega) hh0 (by rw [hb2, hv2, Option.bind_some]; rfl)
        · rw [if_neg h45]
          exact fin lo r1 hr hrl hlo0 (by
            rw [hb _ hv, hnr, Option.bind_some, if_neg (by simpa using h45)]; rfl)
end Go.Val

/- part Q23l -/
/- Plain lemmas: bytes as units: where these stand. -/
namespace Go.Val
theorem uMore_len : ∀ {n : Nat} {l : List UInt8} {r q : Nat}, uMore n l r = some q → n ≤ l.length
  | 0, _, _, _, _ => Nat.zero_le _
  | n + 1, [], _, _, h => by simp [uMore] at h
  | n + 1, c :: l, r, q, h => by
    simp only [uMore] at h
    split at h
    · have := uMore_len h; simp; omega
    · cases h
/-- What a unit is: a byte that is none; or a code point of so many bytes. -/
inductive UnitOf (at_ : Nat) (c : UInt8) (l : List UInt8) : TUnit → Prop
  | bad : UnitOf at_ c l ⟨65533, at_, 1, true⟩
  | good (n r q : Nat) : uHead c.toNat = (n + 1, r) → uMore n l r = some q → uRight q = true → uWidth q = n + 1 → UnitOf at_ c l ⟨q, at_, (n + 1 : Nat), false⟩
theorem uFirst_of (at_ : Nat) (c : UInt8) (l : List UInt8) : UnitOf at_ c l (uFirst at_ (c :: l)) := by
  simp only [uFirst]
  split
  · exact .bad
  · rename_i n r hh
    split
    · rename_i q hq
      split
      · rename_i hg
        rw [Bool.and_eq_true] at hg
        exact .good n r q hh hq hg.1 (eq_of_beq hg.2)
      · exact .bad
    · exact .bad
theorem UnitOf.at_ {a : Nat} {c : UInt8} {l : List UInt8} {u : TUnit} (h : UnitOf a c l u) : u.At = a := by cases h <;> rfl
theorem UnitOf.width {a : Nat} {c : UInt8} {l : List UInt8} {u : TUnit} (h : UnitOf a c l u) : ∃ w : Nat, u.Width = w ∧ 1 ≤ w ∧ w ≤ l.length + 1 := by
  cases h with
  | bad => exact ⟨1, rfl, by omega, by omega⟩
  | good n r q h1 h2 h3 h4 => exact ⟨n + 1, rfl, by omega, by have := uMore_len h2; omega⟩
theorem UnitOf.rune {a : Nat} {c : UInt8} {l : List UInt8} {u : TUnit} (h : UnitOf a c l u) : 0 ≤ u.Rune ∧ u.Rune ≤ 1114111 := by
  cases h with
  | bad => exact ⟨(by decide : (0 : Int) ≤ 65533), (by decide : (65533 : Int) ≤ 1114111)⟩
  | good n r q h1 h2 h3 h4 => simp [uRight] at h3; exact ⟨by show (0 : Int) ≤ q; omega, by show (q : Int) ≤ 1114111; omega⟩
/-- A code point below 128 is its byte. -/
theorem UnitOf.ascii {a : Nat} {c : UInt8} {l : List UInt8} {u : TUnit} (h : UnitOf a c l u) (hb : u.Bad = false) (hr : u.Rune < 128) : u.Width = 1 ∧ u.Rune = c.toNat := by
  cases h with
  | bad => cases hb
  | good n r q h1 h2 h3 h4 =>
    have hq : q < 128 := by have : (q : Int) < 128 := hr; omega
    have hn : n = 0 := by unfold uWidth at h4; rw [if_pos hq] at h4; omega
    subst hn
    simp only [uMore, Option.some.injEq] at h2
    subst h2
    refine ⟨rfl, ?_⟩
    show (r : Int) = _
    unfold uHead at h1
    split at h1
    · cases h1; rfl
    split at h1
    · cases h1
    split at h1
    · cases h1
    split at h1 <;> cases h1
/-- A byte below 128 is a unit. -/
theorem uFirst_ascii (a : Nat) {c : UInt8} (l : List UInt8) (h : c.toNat < 128) : uFirst a (c :: l) = ⟨c.toNat, a, 1, false⟩ := by
  have e : uHead c.toNat = (1, c.toNat) := by unfold uHead; rw [if_pos h]
  have h1 : uRight c.toNat = true := by simp [uRight]; omega
  have h2 : uWidth c.toNat = 1 := by unfold uWidth; rw [if_pos h]
  simp only [uFirst, e, uMore, h1, h2]
  rfl
/-- The units from a place on. -/
inductive From (b : List UInt8) : Nat → List TUnit → Prop
  | nil : From b b.length []
  | cons (a w : Nat) (u : TUnit) (us : List TUnit) : a < b.length → u = uFirst a (b.drop a) → u.Width = w → From b (a + w) us → From b a (u :: us)
theorem unit_at {b : List UInt8} {a : Nat} (h : a < b.length) : UnitOf a b[a] (b.drop (a + 1)) (uFirst a (b.drop a)) := by
  rw [List.drop_eq_getElem_cons h]; exact uFirst_of _ _ _
theorem from_units (b : List UInt8) : ∀ (k a : Nat), a ≤ b.length → b.length - a ≤ k → From b a (uUnits k a (b.drop a))
  | k, a, ha, hk => by
    by_cases h : a = b.length
    · subst h
      rw [List.drop_length]
      cases k <;> exact .nil
    · have hlt : a < b.length := by omega
      obtain ⟨k, rfl⟩ : ∃ j, k = j + 1 := ⟨k - 1, by omega⟩
      obtain ⟨w, hw, h1, h2⟩ := (unit_at hlt).width
      rw [List.length_drop] at h2
      have e : uUnits (k + 1) a (b.drop a) = uFirst a (b.drop a) :: uUnits k (a + w) (b.drop (a + w)) := by
        conv => lhs; rw [List.drop_eq_getElem_cons hlt]
        simp only [uUnits]
        rw [← List.drop_eq_getElem_cons hlt, hw, List.drop_drop, Int.toNat_natCast]
      rw [e]
      exact .cons a w _ _ hlt rfl hw (from_units b k (a + w) (by omega) (by omega))
theorem from_all (b : List UInt8) : From b 0 (units b) := from_units b b.length 0 (Nat.zero_le _) (by omega)
theorem From.suf {b : List UInt8} {a : Nat} {us : List TUnit} (h : From b a us) : ∀ {vs : List TUnit}, vs <:+ us → ∃ a', a ≤ a' ∧ From b a' vs := by
  induction h with
  | nil => intro vs hv; rw [List.suffix_nil.1 hv]; exact ⟨_, Nat.le_refl _, .nil⟩
  | cons a w u us h1 h2 h3 h4 ih =>
    intro vs hv
    rcases List.suffix_cons_iff.1 hv with rfl | hv
    · exact ⟨a, Nat.le_refl _, .cons a w u us h1 h2 h3 h4⟩
    · obtain ⟨a', h5, h6⟩ := ih hv
      exact ⟨a', by omega, h6⟩
theorem From.le {b : List UInt8} {a : Nat} {us : List TUnit} (h : From b a us) : a ≤ b.length := by
  cases h with
  | nil => exact Nat.le_refl _
  | cons _ w u us h1 h2 h3 h4 => omega
theorem From.at_eq {b : List UInt8} {a : Nat} {us : List TUnit} (h : From b a us) : atU b.length us = a := by
  cases h with
  | nil => rfl
  | cons _ w u us h1 h2 h3 h4 => rw [h2]; exact (unit_at h1).at_
theorem From.head {b : List UInt8} {a : Nat} {u : TUnit} {us : List TUnit} (h : From b a (u :: us)) : ∃ (hlt : a < b.length), UnitOf a b[a] (b.drop (a + 1)) u ∧ ∃ w : Nat, u.Width = w ∧ 1 ≤ w ∧ From b (a + w) us := by
  cases h with
  | cons _ w _ _ h1 h2 h3 h4 =>
    have hu := unit_at h1
    rw [← h2] at hu
    obtain ⟨w', hw, h5, _⟩ := hu.width
    rw [h3] at hw
    exact ⟨h1, hu, w, h3, by omega, h4⟩
theorem From.len {b : List UInt8} {a : Nat} {us : List TUnit} (h : From b a us) : a + us.length ≤ b.length := by
  induction h with
  | nil => simp
  | cons a w u us h1 h2 h3 h4 ih =>
    obtain ⟨_, _, w', hw, h5, _⟩ := (From.cons a w u us h1 h2 h3 h4).head
    rw [h3] at hw
    simp only [List.length_cons]
    omega
theorem From.runes {b : List UInt8} {a : Nat} {us : List TUnit} (h : From b a us) : ∀ u ∈ us, 0 ≤ u.Rune ∧ u.Rune ≤ 1114111 := by
  induction h with
  | nil => simp
  | cons a w u us h1 h2 h3 h4 ih =>
    intro v hv
    rcases List.mem_cons.1 hv with rfl | hv
    · rw [h2]; exact (unit_at h1).rune
    · exact ih v hv
theorem fine_units {b : List UInt8} (h : b.length ≤ 1048576) : Fine (units b) := ⟨by have := (from_all b).len; omega, (from_all b).runes⟩
/-- The units are told by the bytes. -/
theorem From.eq {b : List UInt8} {a : Nat} {us vs : List TUnit} (h : From b a us) : From b a vs → us = vs := by
  induction h generalizing vs with
  | nil =>
    intro g
    cases g with
    | nil => rfl
    | cons _ w u us h1 h2 h3 h4 => omega
  | cons a w u us h1 h2 h3 h4 ih =>
    intro g
    cases g with
    | nil => omega
    | cons _ w' u' us' g1 g2 g3 g4 =>
      have e : u = u' := by rw [h2, g2]
      subst e
      rw [g3] at h3
      have : w' = w := by omega
      subst this
      rw [ih g4]
end Go.Val

/- part Q24l -/
/- Plain lemmas: the tokens of a text, as the program reads them. -/
namespace Go.Val
noncomputable section
variable {U us : List TUnit} {w f : Int}
/-- The set of ranges that are some. -/
def setOf (l : List TRange) : List TRange := ((ranges_Make l).getD ([], 0)).1
theorem setOf_make {l : List TRange} (hok : ∀ x ∈ l, Ok x) (hl : l.length ≤ 1048576) : ranges_Make l = some (setOf l, 0) ∧ Norm (setOf l) ∧ ∀ t, In (setOf l) t ↔ In l t := by
  obtain ⟨out, h1, h2, h3, _⟩ := Make_ok hok (by omega)
  have : setOf l = out := by unfold setOf; rw [h1]; rfl
  rw [this]
  exact ⟨h1, h2, h3⟩
theorem setOf_norm {l : List TRange} (h : Norm l) (hl : l.length ≤ 1048576) : setOf l = l := by
  obtain ⟨_, h2, h3⟩ := setOf_make h.1 hl
  exact Norm.unique h2 h h3
def lowB (n : Int) : Bool := decide (n ≥ 97) && decide (n ≤ 122)
def goesB (n : Int) : Bool := lowB n || (decide (n ≥ 48) && decide (n ≤ 57)) || n == 95
def signB (n : Int) : Bool := ([61, 59, 47, 124, 42, 43, 63, 40, 41, 46, 126, 38, 45] : List Int).any fun c => c == n
theorem goes_eq (n : Int) : lex_goes n = some (goesB n) := by
  unfold lex_goes lex_lower goesB lowB
  cases h1 : decide (n ≥ 97) <;> cases h2 : decide (n ≤ 122) <;> cases h3 : decide (n ≥ 48) <;> cases h4 : decide (n ≤ 57) <;> simp [h3, h4]
theorem tok1_eq (n : Int) : lex_reader_token_1 n = some (lowB n || n == 91 || signB n) := by
  unfold lex_reader_token_1 lex_lower
  rw [one_eq (by decide)]
  have e : (([61, 59, 47, 124, 42, 43, 63, 40, 41, 46, 126, 38, 45] : Str).any fun c => (c.toNat : Int) == n) = signB n := rfl
  rw [e]
  have e2 : (decide (n ≥ 97) && decide (n ≤ 122)) = lowB n := rfl
  rw [e2]
  cases lowB n <;> cases h : (n == 91) <;> cases signB n <;> simp [h]
def cutB (b : List UInt8) (lo hi : Int) : List UInt8 := List.drop (Int.toNat lo) (List.take (Int.toNat hi) b)
/-- One token, ahead. -/
def tokS (b : List UInt8) : List TUnit → Pr TToken
  | [] => .err 7 []
  | u :: us => if su u = 91 then match setS (us.length + 1) [] us with
      | .ok l r => .ok ⟨3, u.At, [], setOf l⟩ r
      | .err c r => .err c r
    else if lowB (su u) then .ok ⟨1, u.At, cutB b u.At (atU b.length (us.dropWhile fun u => goesB (su u))), []⟩ (us.dropWhile fun u => goesB (su u))
    else if signB (su u) then .ok ⟨2, u.At, cutB b u.At (atU b.length us), []⟩ us
    else .err 6 (u :: us)
def tkS (b : List UInt8) : Nat → List TUnit → Pr (List TToken)
  | 0, us => .err 6 us
  | k + 1, us => if us.isEmpty then .ok [] [] else match tokS b us with
    | .err c r => .err c r
    | .ok t r => match tkS b k (blk false r) with
      | .err c r => .err c r
      | .ok ts r => .ok (t :: ts) r
/-- A text's tokens; or the error, and where. -/
def Tk (b : List UInt8) : List TToken × Int × Int :=
  match tkS b (b.length + 1) (blk false (units b)) with
  | .ok ts _ => (ts ++ [⟨4, b.length, [], []⟩], 0, 0)
  | .err c r => ([], atU b.length r, c)
variable {b : List UInt8}
/-- Where a piece of the units begins. -/
theorem at_suf (h : us <:+ units b) : ∃ a : Nat, From b a us ∧ atU b.length us = a := by
  obtain ⟨a, _, h1⟩ := (from_all b).suf h
  exact ⟨a, h1, h1.at_eq⟩
theorem From.mono {a a' : Nat} {vs : List TUnit} (h : From b a us) (h2 : vs <:+ us) (h3 : From b a' vs) : a ≤ a' := by
  obtain ⟨a2, h4, h5⟩ := h.suf h2
  have : a2 = a' := by have e1 := h5.at_eq; have e2 := h3.at_eq; rw [e1] at e2; exact_mod_cast e2
  omega
theorem cut_ok {lo hi : Nat} (h1 : lo ≤ hi) (h2 : hi ≤ b.length) : cut b (lo : Int) (hi : Int) = some (cutB b lo hi) := by
  unfold cut cutB
  rw [if_pos ⟨by omega, by omega, by omega, by simp; omega⟩]
theorem token_spec (hF : Fine (units b)) {u : TUnit} (h : (u :: us) <:+ units b) : match tokS b (u :: us) with
    | .ok t r => lex_reader_token (rd (units b) b.length (u :: us) 0) b = some (t, rd (units b) b.length r 0) ∧ r <:+ us
    | .err c r => (∃ t, lex_reader_token (rd (units b) b.length (u :: us) 0) b = some (t, rd (units b) b.length r c)) ∧ r <:+ (u :: us) ∧ c ≠ 0 := by
  obtain ⟨a, hfr, hat⟩ := at_suf h
  have hua : u.At = a := hat
  have hs := suf_tail h
  -- a token's text
  have text : ∀ (k : Int) (r : List TUnit) (f : Int), r <:+ (u :: us) → lex_reader_token.k1 b u.At k (units b) (((units b).length - r.length : Nat) : Int) b.length f = some (⟨k, u.At, cutB b u.At (atU b.length r), []⟩, rd (units b) b.length r f) := fun k r f hr => by
    obtain ⟨a', hfr', hat'⟩ := at_suf (hr.trans h)
    have hle := hfr.mono hr hfr'
    unfold lex_reader_token.k1
    have := at_eq (w := b.length) (f := f) (hr.trans h)
    simp only [rd] at this ⊢
    rw [this, Option.bind_some, hat', hua, cut_ok hle hfr'.le]
    rfl
  have hat0 : lex_reader_at (rd (units b) b.length (u :: us) 0) = some u.At := at_eq h
  by_cases h91 : su u = 91
  · have ht := take_yes (w := b.length) (p := lex_reader_token_1) hF h (by rw [tok1_eq, h91]; rfl)
    have hset := set_spec (w := b.length) hF (us.length + 1) (us := us) [] hs (by omega) (by simp) (by have := suf_len hs; have := hF.1; simp; omega)
    have e : lex_reader_token (rd (units b) b.length (u :: us) 0) b = (Loop lex_reader_set.b1 ([], units b, (((units b).length - us.length : Nat) : Int), b.length, 0)).bind fun r4 => some (⟨3, u.At, [], r4.1⟩, r4.2) := by
      unfold lex_reader_token
      rw [hat0, Option.bind_some, ht, Option.bind_some, if_pos (by simp [h91])]
      rfl
    simp only [tokS, if_pos h91, e]
    cases hss : setS (us.length + 1) [] us with
    | ok l r =>
      rw [hss] at hset
      obtain ⟨g1, g2, g3, g4, g5⟩ := hset
      rw [g1, (setOf_make g4 g5).1]
      exact ⟨rfl, g2⟩
    | err c r =>
      rw [hss] at hset
      obtain ⟨g1, g2, g3⟩ := hset
      rw [g1]
      exact ⟨⟨_, rfl⟩, g2.trans (List.suffix_cons u us), g3⟩
  · simp only [tokS, if_neg h91]
    cases hlow : lowB (su u) with
    | true =>
      have ht := take_yes (w := b.length) (p := lex_reader_token_1) hF h (by rw [tok1_eq, hlow]; rfl)
      simp only [if_true]
      have hsk := skip_rd (w := (b.length : Int)) (f := 0) hF goes_eq (by rfl) hs
      refine ⟨?_, List.dropWhile_suffix _⟩
      unfold lex_reader_token
      rw [hat0, Option.bind_some, ht, Option.bind_some, if_neg (by simpa using h91)]
      have hl : lex_lower (su u) = some (lowB (su u)) := rfl
      rw [hl, Option.bind_some, hlow, if_pos rfl, hsk, Option.bind_some]
      exact text 1 _ 0 ((List.dropWhile_suffix _).trans (List.suffix_cons u us))
    | false =>
      simp only [Bool.false_eq_true, if_false]
      have hl : lex_lower (su u) = some (lowB (su u)) := rfl
      cases hsg : signB (su u) with
      | true =>
        have ht := take_yes (w := b.length) (p := lex_reader_token_1) hF h (by rw [tok1_eq, hlow, hsg]; simp)
        simp only [if_true]
        refine ⟨?_, List.suffix_rfl⟩
        unfold lex_reader_token
        rw [hat0, Option.bind_some, ht, Option.bind_some, if_neg (by simpa using h91), hl, Option.bind_some, hlow, if_neg (by simp)]
        exact text 2 us 0 (List.suffix_cons u us)
      | false =>
        have ht := take_no (w := b.length) (p := lex_reader_token_1) hF h (by rw [tok1_eq]; simp [sgn, hlow, hsg, h91])
        simp only [Bool.false_eq_true, if_false]
        refine ⟨⟨⟨2, u.At, cutB b u.At (atU b.length (u :: us)), []⟩, ?_⟩, List.suffix_rfl, by decide⟩
        unfold lex_reader_token
        rw [hat0, Option.bind_some, ht, Option.bind_some, if_neg (by simp)]
        have hl0 : lex_lower 0 = some false := rfl
        simp only [hl0, Option.bind_some, Bool.false_eq_true, if_false]
        exact text 2 (u :: us) 6 List.suffix_rfl
theorem blk_len (us : List TUnit) : (blk false us).length ≤ us.length := (blk_suf false us).length_le
theorem toks_spec (hF : Fine (units b)) : ∀ (k : Nat) {us : List TUnit} (out : List TToken), us <:+ units b → us.length < k → out.length + us.length ≤ 1048576 →
    Loop (lex_Tokens.b1 b) (out, units b, (((units b).length - us.length : Nat) : Int), b.length, 0) = some (match tkS b k us with
      | .ok ts _ => (out ++ ts ++ [⟨4, b.length, [], []⟩], 0, 0)
      | .err c r => ([], atU b.length r, c))
  | 0, us, out, _, hk, _ => absurd hk (Nat.not_lt_zero _)
  | k + 1, us, out, h, hk, hl => by
    have hn : lex_reader_now ⟨units b, (((units b).length - us.length : Nat) : Int), b.length, 0⟩ = some (sgn us) := now_eq h
    cases us with
    | nil =>
      simp only [tkS, List.isEmpty_nil, if_true, List.append_nil]
      refine Loop_done ?_
      simp only [lex_Tokens.b1]
      rw [hn, Option.bind_some, if_neg (by simp [sgn])]
      unfold lex_Tokens.k1
      rw [room_ok (by simp at hl; omega)]; rfl
    | cons u us =>
      have hne := su_ne hF h
      have hts := token_spec hF h
      simp only [tkS, List.isEmpty_cons, Bool.false_eq_true, if_false]
      have hb : ∀ y, lex_reader_token (rd (units b) b.length (u :: us) 0) b = some y → lex_Tokens.b1 b (out, units b, (((units b).length - (u :: us).length : Nat) : Int), b.length, 0) =
          if (y.2.fault != (0 : Int)) then (lex_reader_at y.2).bind fun r4 => some (Step.done (([] : List TToken), r4, y.2.fault)) else (lex_reader_blank y.2).bind fun r5 => some (Step.next ((out ++ ([y.1])), r5.units, r5.place, r5.whole, r5.fault)) := fun y hy => by
        simp only [lex_Tokens.b1]
        rw [hn, Option.bind_some, if_pos (by simpa [sgn] using hne)]
        simp only [rd] at hy
        rw [hy, Option.bind_some, room_ok (by simp at hl; omega)]; rfl
      cases htk : tokS b (u :: us) with
      | err c r =>
        rw [htk] at hts
        obtain ⟨⟨t, ht⟩, hr, hc⟩ := hts
        refine Loop_done ?_
        rw [hb _ ht, if_pos (by simpa [rd] using hc), at_eq (hr.trans h)]; rfl
      | ok t r =>
        rw [htk] at hts
        obtain ⟨ht, hr⟩ := hts
        have hr' := hr.trans (suf_tail h)
        have hlr := hr.length_le
        have hlb := blk_len r
        have hstep : Loop (lex_Tokens.b1 b) (out, units b, (((units b).length - (u :: us).length : Nat) : Int), b.length, 0) = Loop (lex_Tokens.b1 b) (out ++ [t], units b, (((units b).length - (blk false r).length : Nat) : Int), b.length, 0) := by
          refine Loop_next ?_
          rw [hb _ ht, if_neg (by simp [rd]), blank_eq hF hr']; rfl
        rw [hstep, toks_spec hF k (us := blk false r) (out ++ [t]) ((blk_suf false r).trans hr') (by simp at hk; omega) (by simp at hl ⊢; omega)]
        simp only
        cases htk2 : tkS b k (blk false r) with
        | err c r => rfl
        | ok ts r => simp
/-- The program's tokens. -/
theorem Tokens_eq (hl : b.length ≤ 65536) : lex_Tokens b = some (Tk b) := by
  have hF := fine_units (b := b) (by omega)
  unfold lex_Tokens
  rw [if_neg (by simp; omega)]
  have hd : utf_Decode b = some (units b) := by unfold utf_Decode; rw [if_pos (by omega)]
  have hul := (from_all b).len
  have hbl := blank_eq (w := (b.length : Int)) (f := 0) hF (us := units b) List.suffix_rfl
  simp only [rd, Nat.sub_self, Int.natCast_zero] at hbl
  have hz : ((0 : Nat) : Int) = 0 := rfl
  rw [hd, Option.bind_some, hbl, Option.bind_some]
  have hlb := blk_len (units b)
  rw [toks_spec hF (b.length + 1) (us := blk false (units b)) [] (blk_suf false _) (by omega) (by simp; omega)]
  unfold Tk
  cases tkS b (b.length + 1) (blk false (units b)) <;> simp
end
end Go.Val

/- part Q31l -/
/- Plain lemmas: units of bytes below 128; what a token is. -/
namespace Go.Val
noncomputable section
variable {us : List TUnit} {b : List UInt8}
/-- Signs that are bytes. -/
def asciiU : Nat → List UInt8 → List TUnit
  | _, [] => []
  | a, c :: l => ⟨c.toNat, a, 1, false⟩ :: asciiU (a + 1) l
theorem ascii_from : ∀ (k a : Nat), a ≤ b.length → b.length - a ≤ k → (∀ c ∈ b.drop a, c.toNat < 128) → From b a (asciiU a (b.drop a))
  | k, a, ha, hk, hc => by
    by_cases h : a = b.length
    · subst h; rw [List.drop_length]; exact .nil
    · obtain ⟨k, rfl⟩ : ∃ j, k = j + 1 := ⟨k - 1, by omega⟩
      have hlt : a < b.length := by omega
      have hd := List.drop_eq_getElem_cons hlt
      have h1 : b[a].toNat < 128 := hc b[a] (List.mem_of_getElem? (i := 0) (by rw [hd]; rfl))
      rw [hd]
      refine .cons a 1 _ _ hlt ?_ rfl (ascii_from k (a + 1) hlt (by omega) fun c hm => hc c (by rw [hd]; exact List.mem_cons_of_mem _ hm))
      rw [hd, uFirst_ascii a _ h1]
theorem units_ascii (hc : ∀ c ∈ b, c.toNat < 128) : units b = asciiU 0 b := by
  have := ascii_from (b := b) b.length 0 (Nat.zero_le _) (by omega) (by simpa using hc)
  rw [List.drop_zero] at this
  exact (from_all b).eq this
theorem low_goes {n : Int} (h : lowB n = true) : goesB n = true := by unfold goesB; rw [h]; rfl
theorem goes_lt {n : Int} (h : goesB n = true) : 48 ≤ n ∧ n < 128 := by
  simp [goesB, lowB] at h; omega
theorem ascii_su : ∀ (a : Nat) (l : List UInt8), (asciiU a l).map su = l.map fun c => (c.toNat : Int)
  | _, [] => rfl
  | a, c :: l => by simp only [asciiU, List.map_cons, ascii_su (a + 1) l]; rfl
theorem su_goes {u : TUnit} (h : goesB (su u) = true) : u.Bad = false ∧ u.Rune < 128 ∧ su u = u.Rune := by
  have h1 := goes_lt h
  cases hb : u.Bad with
  | true =>
    have : su u = -2 := by unfold su; rw [hb]; rfl
    omega
  | false =>
    have : su u = u.Rune := by unfold su; rw [hb]; rfl
    exact ⟨rfl, by omega, this⟩
/-- What a token is. -/
structure TokOk (b : List UInt8) (us : List TUnit) (t : TToken) (r : List TUnit) : Prop where
  suf : r <:+ us
  less : r.length < us.length
  norm : Norm t.Set
  at_ : t.At = atU b.length us
  kind : t.Kind = 1 ∧ lowB (sgn us) = true ∧ t.Text = cutB b t.At (atU b.length r) ∧ t.Set = [] ∧ r = us.tail.dropWhile (fun u => goesB (su u)) ∨ t.Kind = 2 ∧ signB (sgn us) = true ∧ t.Text = cutB b t.At (atU b.length r) ∧ t.Set = [] ∧ r = us.tail ∨ t.Kind = 3 ∧ sgn us = 91 ∧ t.Text = []
theorem norm_nil : Norm [] := ⟨by simp, List.Pairwise.nil⟩
theorem tok_ok (hl : b.length ≤ 1048576) (h : us <:+ units b) {t : TToken} {r : List TUnit} (e : tokS b us = .ok t r) : TokOk b us t r := by
  have hF := fine_units (b := b) hl
  cases us with
  | nil => simp [tokS] at e
  | cons u us =>
    have hs := suf_tail h
    simp only [tokS] at e
    by_cases h91 : su u = 91
    · rw [if_pos h91] at e
      have hset := set_spec (w := b.length) hF (us.length + 1) (us := us) [] hs (by omega) (by simp) (by have := suf_len hs; have := hF.1; simp; omega)
      cases hss : setS (us.length + 1) [] us with
      | err c r' => rw [hss] at e; cases e
      | ok l r' =>
        rw [hss] at e hset
        obtain ⟨g1, g2, g3, g4, g5⟩ := hset
        simp only [Pr.ok.injEq] at e
        obtain ⟨rfl, rfl⟩ := e
        exact ⟨g2.trans (List.suffix_cons u us), by simp; omega, (setOf_make g4 g5).2.1, rfl, .inr (.inr ⟨rfl, h91, rfl⟩)⟩
    · rw [if_neg h91] at e
      cases hlow : lowB (su u) with
      | true =>
        rw [hlow] at e
        simp only [if_true, Pr.ok.injEq] at e
        obtain ⟨rfl, rfl⟩ := e
        have hd := List.dropWhile_suffix (l := us) (fun u => goesB (su u))
        exact ⟨hd.trans (List.suffix_cons u us), by have := hd.length_le; simp; omega, norm_nil, rfl, .inl ⟨rfl, hlow, rfl, rfl, rfl⟩⟩
      | false =>
        rw [hlow] at e
        simp only [Bool.false_eq_true, if_false] at e
        cases hsg : signB (su u) with
        | true =>
          rw [hsg] at e
          simp only [if_true, Pr.ok.injEq] at e
          obtain ⟨rfl, rfl⟩ := e
          exact ⟨List.suffix_cons u us, by simp, norm_nil, rfl, .inr (.inl ⟨rfl, hsg, rfl, rfl, rfl⟩)⟩
        | false => rw [hsg] at e; cases e
end
end Go.Val

/- part Q32l -/
/- Plain lemmas: the tokens by the signs alone. -/
namespace Go.Val
noncomputable section
variable {us : List TUnit} {b : List UInt8}
def Pr.toC {α : Type} : Pr α → Option (α × List Int)
  | .ok v r => some (v, r.map su)
  | .err _ _ => none
def closeC (acc : Int) : List Int → Option (Int × List Int)
  | [] => none
  | n :: s => if n = 125 then some (acc, s) else none
def figC : Nat → Bool → Int → List Int → Option (Int × List Int)
  | 0, _, acc, s => closeC acc s
  | _ + 1, _, _, [] => none
  | k + 1, fst, acc, n :: s => match hexv n with
    | some d => figC k false (acc * 16 + d) s
    | none => if fst then none else closeC acc (n :: s)
def numC : List Int → Option (Int × List Int)
  | [] => none
  | n :: s => if n = 123 then figC 6 true 0 s else none
def letterC : List Int → Option (Int × List Int)
  | [] => none
  | n :: s => if plainL n then
      if n = 92 then match s with
        | [] => none
        | m :: s2 => if m = 120 then numC s2 else if spec m then some (m, s2) else none
      else some (n, s)
    else none
def hdC : List Int → Int
  | [] => -1
  | n :: _ => n
def highC (lo : Int) (r1 : List Int) : Option (Int × List Int) := if hdC r1 = 45 then letterC r1.tail else some (lo, r1)
def setC : Nat → List TRange → List Int → Option (List TRange × List Int)
  | 0, _, _ => none
  | k + 1, acc, s => if hdC s = 93 then some (acc, s.tail) else
    match letterC s with
    | none => none
    | some (lo, r1) => match highC lo r1 with
      | none => none
      | some (hi, r2) => if lo > hi ∨ hi > 1114111 then none else setC k (acc ++ [⟨lo, hi⟩]) r2
theorem hdC_eq (us : List TUnit) : hdC (us.map su) = sgn us := by cases us <;> rfl
theorem closeC_eq (acc : Int) : (closeS acc us).toC = closeC acc (us.map su) := by
  cases us with
  | nil => rfl
  | cons u us => simp only [closeS, closeC, List.map_cons]; split <;> rfl
theorem figC_eq : ∀ (k : Nat) (f : Bool) (acc : Int) (us : List TUnit), (figS k f acc us).toC = figC k f acc (us.map su)
  | 0, _, acc, us => closeC_eq acc
  | k + 1, f, acc, [] => rfl
  | k + 1, f, acc, u :: us => by
    simp only [figS, figC, List.map_cons]
    cases hexv (su u) with
    | some d => exact figC_eq k _ _ us
    | none =>
      simp only
      split
      · rfl
      · exact closeC_eq (us := u :: us) acc
theorem numC_eq : (numS us).toC = numC (us.map su) := by
  cases us with
  | nil => rfl
  | cons u us => simp only [numS, numC, List.map_cons]; split; exact figC_eq _ _ _ _; rfl
theorem letterC_eq : (letterS us).toC = letterC (us.map su) := by
  cases us with
  | nil => rfl
  | cons u us =>
    simp only [letterS, letterC, List.map_cons]
    split
    · split
      · cases us with
        | nil => rfl
        | cons u2 us2 =>
          simp only [List.map_cons]
          split
          · exact numC_eq
          · split <;> rfl
      · rfl
    · rfl
theorem setC_eq : ∀ (k : Nat) (acc : List TRange) (us : List TUnit), (setS k acc us).toC = setC k acc (us.map su)
  | 0, _, _ => rfl
  | k + 1, acc, us => by
    simp only [setS, setC, hdC_eq]
    split
    · simp only [Pr.toC, List.map_tail]
    · rw [← letterC_eq]
      cases letterS us with
      | err c r => rfl
      | ok lo r1 =>
        simp only [Pr.toC]
        have e : (if sgn r1 = 45 then letterS r1.tail else .ok lo r1).toC = highC lo (r1.map su) := by
          unfold highC
          rw [hdC_eq, ← List.map_tail, ← letterC_eq]
          split <;> rfl
        rw [← e]
        cases (if sgn r1 = 45 then letterS r1.tail else .ok lo r1) with
        | err c r => rfl
        | ok hi r2 =>
          show Pr.toC (if lo > hi ∨ hi > 1114111 then Pr.err 1 us else setS k (acc ++ [⟨lo, hi⟩]) r2) = if lo > hi ∨ hi > 1114111 then none else setC k (acc ++ [⟨lo, hi⟩]) (r2.map su)
          split
          · rfl
          · exact setC_eq k _ r2
/-! ### tokens -/
def byte (n : Int) : UInt8 := UInt8.ofNat n.toNat
theorem byte_nat (c : UInt8) : byte (c.toNat : Int) = c := by unfold byte; simp
abbrev Con : Type := Int × Str × List TRange
def tokC : List Int → Option (Con × List Int)
  | [] => none
  | n :: s => if n = 91 then (setC (s.length + 1) [] s).map fun x => ((3, [], setOf x.1), x.2)
    else if lowB n then some ((1, (n :: s.takeWhile goesB).map byte, []), s.dropWhile goesB)
    else if signB n then some ((2, [byte n], []), s)
    else none
def blkC : Bool → List Int → List Int
  | _, [] => []
  | false, n :: s => if isBl n then blkC false s else if n = 35 then blkC true s else n :: s
  | true, n :: s => if n = 10 then blkC false s else if n = -2 then n :: s else blkC true s
theorem blkC_eq : ∀ (m : Bool) (us : List TUnit), (blk m us).map su = blkC m (us.map su)
  | m, [] => by cases m <;> rfl
  | false, u :: us => by
    simp only [blk, blkC, List.map_cons]
    split
    · exact blkC_eq false us
    split
    · exact blkC_eq true us
    · rfl
  | true, u :: us => by
    simp only [blk, blkC, List.map_cons]
    split
    · exact blkC_eq false us
    split
    · rfl
    · exact blkC_eq true us
theorem blkC_len : ∀ (m : Bool) (s : List Int), (blkC m s).length ≤ s.length
  | m, [] => by cases m <;> simp [blkC]
  | false, n :: s => by
    simp only [blkC]
    have h1 := blkC_len false s
    have h2 := blkC_len true s
    split
    · simp; omega
    split
    · simp; omega
    · simp
  | true, n :: s => by
    simp only [blkC]
    have h1 := blkC_len false s
    have h2 := blkC_len true s
    split
    · simp; omega
    split
    · simp
    · simp; omega
def con (t : TToken) : Con := (t.Kind, t.Text, t.Set)
theorem From.pre : ∀ {p r : List TUnit} {a : Nat}, From b a (p ++ r) → (∀ u ∈ p, u.Bad = false ∧ u.Rune < 128) → From b (a + p.length) r ∧ (b.drop a).take p.length = p.map fun u => byte u.Rune
  | [], r, a, h, _ => ⟨h, by simp⟩
  | u :: p, r, a, h, hu => by
    obtain ⟨hlt, hun, w, hw, _, hf⟩ := From.head h
    obtain ⟨h1, h2⟩ := hu u (by simp)
    obtain ⟨h3, h4⟩ := hun.ascii h1 h2
    obtain rfl : w = 1 := by rw [hw] at h3; omega
    obtain ⟨g1, g2⟩ := From.pre hf fun v hv => hu v (List.mem_cons_of_mem _ hv)
    refine ⟨by rw [List.length_cons, show a + (p.length + 1) = a + 1 + p.length by omega]; exact g1, ?_⟩
    rw [List.drop_eq_getElem_cons hlt, List.length_cons, List.take_succ_cons, List.map_cons, g2, h4, byte_nat]
theorem cut_pre {p r : List TUnit} {a : Nat} (h : From b a (p ++ r)) (hu : ∀ u ∈ p, u.Bad = false ∧ u.Rune < 128) : cutB b a (atU b.length r) = p.map fun u => byte u.Rune := by
  obtain ⟨h1, h2⟩ := h.pre hu
  rw [h1.at_eq, ← h2]
  unfold cutB
  simp only [Int.toNat_natCast]
  rw [List.drop_take, Nat.add_sub_cancel_left]
theorem sign_lt {n : Int} (h : signB n = true) : 38 ≤ n ∧ n < 128 := by
  obtain ⟨c, hc, he⟩ := List.any_eq_true.1 h
  have := eq_of_beq he
  simp only [List.mem_cons, List.not_mem_nil, or_false] at hc
  omega
theorem su_lt {u : TUnit} (h0 : 0 ≤ su u) (h1 : su u < 128) : u.Bad = false ∧ u.Rune < 128 ∧ u.Rune = su u := by
  cases hb : u.Bad with
  | true =>
    have : su u = -2 := by unfold su; rw [hb]; rfl
    omega
  | false =>
    have : su u = u.Rune := by unfold su; rw [hb]; rfl
    exact ⟨rfl, by omega, this.symm⟩
theorem tokC_eq (h : us <:+ units b) : match tokS b us with
    | .ok t r => tokC (us.map su) = some (con t, r.map su)
    | .err c r => tokC (us.map su) = none := by
  cases us with
  | nil => rfl
  | cons u us =>
    obtain ⟨a, hfr, hat⟩ := at_suf h
    have hua : u.At = a := hat
    simp only [tokS, tokC, List.map_cons]
    by_cases h91 : su u = 91
    · rw [if_pos h91, if_pos h91, List.length_map, ← setC_eq]
      cases setS (us.length + 1) [] us <;> rfl
    · rw [if_neg h91, if_neg h91]
      cases hlow : lowB (su u) with
      | true =>
        simp only [if_true, con, Option.some.injEq, Prod.mk.injEq, true_and, and_true]
        have hdw : ∀ l : List TUnit, (l.dropWhile fun u => goesB (su u)).map su = (l.map su).dropWhile goesB := fun l => by
          induction l with
          | nil => rfl
          | cons v l ih =>
            rw [List.dropWhile_cons, List.map_cons, List.dropWhile_cons]
            split
            · exact ih
            · rfl
        have htw : ∀ l : List TUnit, (l.takeWhile fun u => goesB (su u)).map su = (l.map su).takeWhile goesB := fun l => by
          induction l with
          | nil => rfl
          | cons v l ih =>
            rw [List.takeWhile_cons, List.map_cons, List.takeWhile_cons]
            split
            · rw [List.map_cons, ih]
            · rfl
        refine ⟨?_, (hdw us).symm⟩
        have hall : ∀ v ∈ u :: us.takeWhile fun u => goesB (su u), goesB (su v) = true := fun v hv => by
          rcases List.mem_cons.1 hv with rfl | hv
          · exact low_goes hlow
          · exact List.all_eq_true.1 (List.all_takeWhile (p := fun u => goesB (su u)) (l := us)) v hv
        have hsp : u :: us = (u :: us.takeWhile fun u => goesB (su u)) ++ us.dropWhile fun u => goesB (su u) := by rw [List.cons_append, List.takeWhile_append_dropWhile]
        rw [hsp] at hfr
        rw [hua, cut_pre hfr fun v hv => ⟨(su_goes (hall v hv)).1, (su_goes (hall v hv)).2.1⟩, ← htw]
        have hm := List.map_congr_left (f := fun v : TUnit => byte v.Rune) (g := fun v => byte (su v)) (l := u :: us.takeWhile fun u => goesB (su u)) fun v hv => by rw [(su_goes (hall v hv)).2.2]
        rw [hm]; simp [Function.comp_def]
      | false =>
        simp only [Bool.false_eq_true, if_false]
        cases hsg : signB (su u) with
        | true =>
          simp only [if_true, con, Option.some.injEq, Prod.mk.injEq, true_and, and_true]
          have h1 := sign_lt hsg
          obtain ⟨g1, g2, g3⟩ := su_lt (u := u) (by omega) (by omega)
          have hfr' : From b a ([u] ++ us) := hfr
          rw [hua, cut_pre hfr' fun v hv => by rw [List.mem_singleton.1 hv]; exact ⟨g1, g2⟩]
          simp only [List.map_cons, List.map_nil, g3]
        | false => rfl
/-! ### what is read tells where it ends -/
theorem nn {n : Int} {p : List Int} (h : 0 ≤ n) (hp : ∀ x ∈ p, 0 ≤ x) : ∀ x ∈ n :: p, 0 ≤ x := fun x hx => by
  rcases List.mem_cons.1 hx with rfl | hx
  · exact h
  · exact hp x hx
theorem closeC_del {acc v : Int} {s r : List Int} (h : closeC acc s = some (v, r)) : ∃ p, p ≠ [] ∧ s = p ++ r ∧ (∀ x ∈ p, 0 ≤ x) ∧ ∀ r', closeC acc (p ++ r') = some (v, r') := by
  cases s with
  | nil => cases h
  | cons n s =>
    simp only [closeC] at h
    split at h
    · rename_i hn
      simp only [Option.some.injEq, Prod.mk.injEq] at h
      obtain ⟨rfl, rfl⟩ := h
      exact ⟨[n], by simp, rfl, by simp; omega, fun r' => by simp [closeC, hn]⟩
    · cases h
theorem figC_del : ∀ (k : Nat) (f : Bool) (acc : Int) {v : Int} {s r : List Int}, figC k f acc s = some (v, r) → ∃ p, p ≠ [] ∧ s = p ++ r ∧ (∀ x ∈ p, 0 ≤ x) ∧ ∀ r', figC k f acc (p ++ r') = some (v, r')
  | 0, _, acc, _, _, _, h => closeC_del h
  | k + 1, f, acc, v, [], r, h => by cases h
  | k + 1, f, acc, v, n :: s, r, h => by
    simp only [figC] at h
    cases hx : hexv n with
    | some d =>
      rw [hx] at h
      obtain ⟨p, h1, h2, h0, h3⟩ := figC_del k _ _ h
      exact ⟨n :: p, by simp, by rw [h2]; rfl, nn (by have := hexv_lt hx; omega) h0, fun r' => by simp only [List.cons_append, figC, hx]; exact h3 r'⟩
    | none =>
      rw [hx] at h
      simp only at h
      split at h
      · cases h
      · rename_i hf
        obtain ⟨p, h1, h2, h0, h3⟩ := closeC_del h
        cases p with
        | nil => exact absurd rfl h1
        | cons m p =>
          simp only [List.cons_append, List.cons.injEq] at h2
          obtain ⟨rfl, h2⟩ := h2
          refine ⟨n :: p, by simp, by rw [h2]; rfl, h0, fun r' => ?_⟩
          have := h3 r'
          simp only [List.cons_append, figC, hx] at this ⊢
          rw [if_neg hf]; exact this
theorem numC_del {v : Int} {s r : List Int} (h : numC s = some (v, r)) : ∃ p, p ≠ [] ∧ s = p ++ r ∧ (∀ x ∈ p, 0 ≤ x) ∧ ∀ r', numC (p ++ r') = some (v, r') := by
  cases s with
  | nil => cases h
  | cons n s =>
    simp only [numC] at h
    split at h
    · rename_i hn
      obtain ⟨p, h1, h2, h0, h3⟩ := figC_del 6 true 0 h
      exact ⟨n :: p, by simp, by rw [h2]; rfl, nn (by omega) h0, fun r' => by simp only [List.cons_append, numC, if_pos hn]; exact h3 r'⟩
    · cases h
theorem letterC_del {v : Int} {s r : List Int} (h : letterC s = some (v, r)) : ∃ p, p ≠ [] ∧ s = p ++ r ∧ (∀ x ∈ p, 0 ≤ x) ∧ ∀ r', letterC (p ++ r') = some (v, r') := by
  cases s with
  | nil => cases h
  | cons n s =>
    simp only [letterC] at h
    split at h
    · rename_i hp
      split at h
      · rename_i h92
        cases s with
        | nil => cases h
        | cons m s =>
          simp only at h
          split at h
          · rename_i h120
            obtain ⟨p, h1, h2, h0, h3⟩ := numC_del h
            exact ⟨n :: m :: p, by simp, by rw [h2]; rfl, nn (by omega) (nn (by omega) h0), fun r' => by simp only [List.cons_append, letterC, if_pos hp, if_pos h92, if_pos h120]; exact h3 r'⟩
          · rename_i h120
            split at h
            · rename_i hs
              simp only [Option.some.injEq, Prod.mk.injEq] at h
              obtain ⟨rfl, rfl⟩ := h
              exact ⟨[n, m], by simp, rfl, nn (by omega) (nn (by simp [spec] at hs; omega) (by simp)), fun r' => by simp only [List.cons_append, List.nil_append, letterC, if_pos hp, if_pos h92, if_neg h120, if_pos hs]⟩
            · cases h
      · rename_i h92
        simp only [Option.some.injEq, Prod.mk.injEq] at h
        obtain ⟨rfl, rfl⟩ := h
        exact ⟨[n], by simp, rfl, nn (by simp [plainL] at hp; omega) (by simp), fun r' => by simp only [List.cons_append, List.nil_append, letterC, if_pos hp, if_neg h92]⟩
    · cases h
theorem hdC_app {p : List Int} (h : p ≠ []) (r : List Int) : hdC (p ++ r) = hdC p := by
  cases p with
  | nil => exact absurd rfl h
  | cons n p => rfl
theorem setC_del : ∀ (k : Nat) (acc : List TRange) {l : List TRange} {s r : List Int}, setC k acc s = some (l, r) → ∃ p, p ≠ [] ∧ s = p ++ r ∧ (∀ x ∈ p, 0 ≤ x) ∧ ∀ r' k', p.length ≤ k' → setC k' acc (p ++ r') = some (l, r')
  | 0, _, _, _, _, h => by cases h
  | k + 1, acc, l, s, r, h => by
    simp only [setC] at h
    split at h
    · rename_i h93
      simp only [Option.some.injEq, Prod.mk.injEq] at h
      obtain ⟨rfl, rfl⟩ := h
      cases s with
      | nil => simp [hdC] at h93
      | cons n s =>
        refine ⟨[n], by simp, rfl, nn (by have h93' : n = 93 := h93; omega) (by simp), fun r' k' hk' => ?_⟩
        obtain ⟨k', rfl⟩ : ∃ j, k' = j + 1 := ⟨k' - 1, by simp at hk'; omega⟩
        have : hdC (n :: r') = 93 := h93
        simp only [List.cons_append, List.nil_append, setC, this, if_true, List.tail_cons]
    · rename_i h93
      cases h1 : letterC s with
      | none => rw [h1] at h; cases h
      | some x =>
        obtain ⟨lo, r1⟩ := x
        rw [h1] at h
        simp only at h
        obtain ⟨p1, g1, rfl, g0, g3⟩ := letterC_del h1
        cases h2 : highC lo r1 with
        | none => rw [h2] at h; cases h
        | some y =>
          obtain ⟨hi, r2⟩ := y
          rw [h2] at h
          simp only at h
          split at h
          · cases h
          · rename_i hbad
            obtain ⟨p3, e1, rfl, e0, e3⟩ := setC_del k _ h
            have key : ∃ p2, r1 = p2 ++ (p3 ++ r) ∧ (∀ x ∈ p2, 0 ≤ x) ∧ ∀ r', highC lo (p2 ++ (p3 ++ r')) = some (hi, p3 ++ r') := by
              unfold highC at h2
              split at h2
              · rename_i h45
                cases r1 with
                | nil => simp [hdC] at h45
                | cons n t =>
                  obtain ⟨p2, f1, f2, f0, f3⟩ := letterC_del h2
                  simp only [List.tail_cons] at f2
                  refine ⟨n :: p2, by rw [f2]; rfl, nn (by have h45' : n = 45 := h45; omega) f0, fun r' => ?_⟩
                  unfold highC
                  have : hdC (n :: p2 ++ (p3 ++ r')) = 45 := h45
                  rw [if_pos this]
                  exact f3 _
              · rename_i h45
                simp only [Option.some.injEq, Prod.mk.injEq] at h2
                obtain ⟨rfl, rfl⟩ := h2
                refine ⟨[], rfl, by simp, fun r' => ?_⟩
                unfold highC
                rw [hdC_app e1] at h45
                rw [List.nil_append, if_neg (by rw [hdC_app e1]; exact h45)]
            obtain ⟨p2, f1, f0, f2⟩ := key
            subst f1
            refine ⟨p1 ++ (p2 ++ p3), by simp [g1], by simp, fun x hx => ?_, fun r' k' hk' => ?_⟩
            · rcases List.mem_append.1 hx with hx | hx
              · exact g0 x hx
              · rcases List.mem_append.1 hx with hx | hx
                · exact f0 x hx
                · exact e0 x hx
            obtain ⟨k', rfl⟩ : ∃ j, k' = j + 1 := ⟨k' - 1, by have := List.length_pos_iff.2 g1; simp at hk'; omega⟩
            have ee : p1 ++ (p2 ++ p3) ++ r' = p1 ++ (p2 ++ (p3 ++ r')) := by simp
            rw [hdC_app g1] at h93
            rw [ee]
            simp only [setC]
            rw [if_neg (by rw [hdC_app g1]; exact h93), g3]
            simp only
            rw [f2]
            simp only
            rw [if_neg hbad]
            exact e3 r' k' (by have := List.length_pos_iff.2 g1; simp at hk'; omega)
theorem tokC_del {t : Con} {s r : List Int} (h : tokC s = some (t, r)) : ∃ p, p ≠ [] ∧ s = p ++ r ∧ (∀ x ∈ p, 0 ≤ x) ∧ (t.1 = 1 → goesB (hdC r) = false) ∧ (∀ r', (t.1 = 1 → goesB (hdC r') = false) → tokC (p ++ r') = some (t, r')) ∧ isBl (hdC p) = false ∧ hdC p ≠ 35 := by
  cases s with
  | nil => cases h
  | cons n s =>
    simp only [tokC] at h
    split at h
    · rename_i h91
      cases hs : setC (s.length + 1) [] s with
      | none => rw [hs] at h; cases h
      | some x =>
        obtain ⟨l, r2⟩ := x
        rw [hs] at h
        simp only [Option.map_some, Option.some.injEq, Prod.mk.injEq] at h
        obtain ⟨rfl, rfl⟩ := h
        obtain ⟨p, h1, h2, h0, h3⟩ := setC_del _ _ hs
        refine ⟨n :: p, by simp, by rw [h2]; rfl, nn (by omega) h0, fun h => by simp at h, fun r' _ => ?_, ?_, ?_⟩
        · simp only [List.cons_append, tokC, if_pos h91]
          rw [h3 r' _ (by simp; omega)]; rfl
        · show isBl n = false
          rw [h91]; rfl
        · show n ≠ 35
          omega
    · rename_i h91
      split at h
      · rename_i hlow
        simp only [Option.some.injEq, Prod.mk.injEq] at h
        obtain ⟨rfl, rfl⟩ := h
        have hgo := goes_lt (low_goes hlow)
        refine ⟨n :: s.takeWhile goesB, by simp, by rw [List.cons_append, List.takeWhile_append_dropWhile], nn (by omega) (fun x hx => by have := goes_lt (List.all_eq_true.1 (List.all_takeWhile (p := goesB) (l := s)) x hx); omega), fun _ => ?_, fun r' hr => ?_, by show isBl n = false; simp [isBl]; omega, by show n ≠ 35; omega⟩
        · cases hd : s.dropWhile goesB with
          | nil => rfl
          | cons m l =>
            have := List.head_dropWhile_not (p := goesB) (l := s) (by rw [hd]; simp)
            simp only [hd, List.head_cons] at this
            exact this
        · have hall : ∀ a ∈ s.takeWhile goesB, goesB a = true := fun a ha => List.all_eq_true.1 (List.all_takeWhile (p := goesB) (l := s)) a ha
          have hr' := hr rfl
          have e1 : r'.takeWhile goesB = [] ∧ r'.dropWhile goesB = r' := by
            cases r' with
            | nil => exact ⟨rfl, rfl⟩
            | cons m l =>
              have hm : goesB m = false := hr'
              rw [List.takeWhile_cons, List.dropWhile_cons, hm]; exact ⟨rfl, rfl⟩
          simp only [List.cons_append, tokC, if_neg h91, if_pos hlow]
          rw [List.takeWhile_append_of_pos hall, List.dropWhile_append_of_pos hall, e1.1, e1.2, List.append_nil]
      · rename_i hlow
        split at h
        · rename_i hsg
          simp only [Option.some.injEq, Prod.mk.injEq] at h
          obtain ⟨rfl, rfl⟩ := h
          have := sign_lt hsg
          refine ⟨[n], by simp, rfl, nn (by omega) (by simp), fun h => by simp at h, fun r' _ => ?_, by show isBl n = false; simp [isBl]; omega, by show n ≠ 35; omega⟩
          simp only [List.cons_append, List.nil_append, tokC, if_neg h91, if_neg hlow, if_pos hsg]
        · cases h
def tksC : Nat → List Int → Option (List (Con × Nat))
  | 0, _ => none
  | k + 1, s => if s.isEmpty then some [] else match tokC s with
    | none => none
    | some (t, r) => match tksC k (blkC false r) with
      | none => none
      | some l => some ((t, s.length) :: l)
/-- Where so many units before the end begin. -/
def posU (b : List UInt8) (n : Nat) : Int := atU b.length ((units b).drop ((units b).length - n))
def mkT (b : List UInt8) (x : Con × Nat) : TToken := ⟨x.1.1, posU b x.2, x.1.2.1, x.1.2.2⟩
theorem posU_suf (h : us <:+ units b) : posU b us.length = atU b.length us := by
  unfold posU
  obtain ⟨p, hp⟩ := h
  rw [← hp, List.length_append, Nat.add_sub_cancel, List.drop_left]
theorem tksC_eq (hl : b.length ≤ 1048576) : ∀ (k : Nat) {us : List TUnit}, us <:+ units b → match tkS b k us with
    | .ok ts r => ∃ l, tksC k (us.map su) = some l ∧ ts = l.map (mkT b)
    | .err c r => tksC k (us.map su) = none
  | 0, us, h => rfl
  | k + 1, us, h => by
    cases us with
    | nil => exact ⟨[], rfl, rfl⟩
    | cons u us =>
      have ht := tokC_eq h
      simp only [tkS, tksC, List.map_cons, List.isEmpty_cons, Bool.false_eq_true, if_false]
      rw [List.map_cons] at ht
      cases e : tokS b (u :: us) with
      | err c r => rw [e] at ht; simp only at ht; rw [ht]
      | ok t r =>
        rw [e] at ht
        simp only at ht
        rw [ht]
        have hk := tok_ok hl h e
        have hr := (blk_suf false r).trans (hk.suf.trans h)
        have ih := tksC_eq hl k hr
        rw [blkC_eq] at ih
        simp only
        cases e2 : tkS b k (blk false r) with
        | err c r2 => rw [e2] at ih; simp only at ih; rw [ih]
        | ok ts r2 =>
          rw [e2] at ih
          obtain ⟨l, h1, h2⟩ := ih
          rw [h1]
          refine ⟨_, rfl, ?_⟩
          rw [List.map_cons, ← h2]
          congr 1
          unfold mkT con
          have := posU_suf h
          simp only [List.length_cons, List.length_map] at this ⊢
          rw [this, ← hk.at_]
/-- A text's signs. -/
def sg (b : List UInt8) : List Int := (units b).map su
theorem sg_len : (sg b).length ≤ b.length := by have := (from_all b).len; unfold sg; simp; omega
theorem tksC_fuel : ∀ (k k' : Nat) (s : List Int), s.length < k → s.length < k' → tksC k s = tksC k' s
  | 0, _, s, h, _ => absurd h (Nat.not_lt_zero _)
  | _, 0, s, _, h => absurd h (Nat.not_lt_zero _)
  | k + 1, k' + 1, [], _, _ => rfl
  | k + 1, k' + 1, n :: s, h1, h2 => by
    simp only [tksC, List.isEmpty_cons, Bool.false_eq_true, if_false]
    cases ht : tokC (n :: s) with
    | none => rfl
    | some x =>
      obtain ⟨t, r⟩ := x
      obtain ⟨p, g1, g2, _⟩ := tokC_del ht
      have hlen := congrArg List.length g2
      have hp := List.length_pos_iff.2 g1
      have hb := blkC_len false r
      simp only [List.length_append] at hlen
      simp only
      rw [tksC_fuel k k' (blkC false r) (by omega) (by omega)]
/-- A text's tokens by its signs. -/
theorem Tk_C (hl : b.length ≤ 1048576) {l : List (Con × Nat)} (hs : tksC (b.length + 1) (blkC false (sg b)) = some l) : Tk b = (l.map (mkT b) ++ [⟨4, b.length, [], []⟩], 0, 0) := by
  have h := tksC_eq hl (b.length + 1) (blk_suf false (units b))
  rw [blkC_eq] at h
  unfold sg at hs
  cases e : tkS b (b.length + 1) (blk false (units b)) with
  | ok ts r =>
    rw [e] at h
    obtain ⟨l', h1, h2⟩ := h
    rw [hs] at h1
    obtain rfl := Option.some.inj h1
    unfold Tk; rw [e, h2]
  | err c r =>
    rw [e] at h
    simp only at h
    rw [hs] at h; cases h
end
end Go.Val

/- part Q34l -/
/- Plain lemmas: the tokens of signs. -/
namespace Go.Val
noncomputable section
variable {us : List TUnit} {b : List UInt8}
/-- The tokens, of whatever fuel. -/
def tksA (s : List Int) : Option (List (Con × Nat)) := tksC (s.length + 1) s
theorem tksA_of {k : Nat} {s : List Int} (h : s.length < k) : tksC k s = tksA s := tksC_fuel k _ s h (by omega)
theorem tksA_cons {s r : List Int} {t : Con} (h : tokC s = some (t, r)) : tksA s = (tksA (blkC false r)).map fun l => (t, s.length) :: l := by
  cases s with
  | nil => cases h
  | cons n s =>
    obtain ⟨p, g1, g2, _⟩ := tokC_del h
    have hlen := congrArg List.length g2
    have hp := List.length_pos_iff.2 g1
    have hb := blkC_len false r
    simp only [List.length_append] at hlen
    have e : tksA (n :: s) = match tokC (n :: s) with
      | none => none
      | some (t, r) => match tksC (n :: s).length (blkC false r) with
        | none => none
        | some l => some ((t, (n :: s).length) :: l) := rfl
    rw [e, h]
    simp only
    rw [tksA_of (k := (n :: s).length) (by omega)]
    cases tksA (blkC false r) <;> rfl
/-- The tokens' texts and sets. -/
def cons7 (s : List Int) : Option (List Con) := (tksA s).map fun l => l.map Prod.fst
theorem cons7_tok {p : List Int} {t : Con} {r : List Int} (h : tokC (p ++ r) = some (t, r)) : cons7 (p ++ r) = (cons7 (blkC false r)).map fun l => t :: l := by
  unfold cons7
  rw [tksA_cons h]
  cases tksA (blkC false r) <;> rfl
/-- A text's tokens, without their places. -/
theorem Tk_cons (hl : b.length ≤ 1048576) {D : List Con} (h : cons7 (blkC false (sg b)) = some D) : ∃ l : List (Con × Nat), l.map Prod.fst = D ∧ Tk b = (l.map (mkT b) ++ [⟨4, b.length, [], []⟩], 0, 0) := by
  unfold cons7 at h
  cases e : tksA (blkC false (sg b)) with
  | none => rw [e] at h; cases h
  | some l =>
    rw [e] at h
    have hlen := blkC_len false (sg b)
    have hsg := sg_len (b := b)
    exact ⟨l, Option.some.inj h, Tk_C hl (by rw [tksA_of (by omega)]; exact e)⟩
end
end Go.Val

/- part Q33l -/
/- Plain lemmas: a set's text tells the set. -/
namespace Go.Val
noncomputable section
variable {us : List TUnit} {b : List UInt8}
theorem dig7h : ∀ d : Fin 16, hexv ((dig7 d.1).toNat : Int) = some (d.1 : Int) ∧ (dig7 d.1).toNat < 128 ∧ ([48, 49, 50, 51, 52, 53, 54, 55, 56, 57, 65, 66, 67, 68, 69, 70] : Str)[d.1]? = some (dig7 d.1) := by decide
def valI : Int → List UInt8 → Int
  | acc, [] => acc
  | acc, c :: l => valI (acc * 16 + (hexv (c.toNat : Int)).getD 0) l
theorem valI_app : ∀ (l m : List UInt8) (acc : Int), valI acc (l ++ m) = valI (valI acc l) m
  | [], _, _ => rfl
  | c :: l, m, acc => valI_app l m _
theorem hexU_factsI : ∀ (k n : Nat), n < 16 ^ (k + 1) → (hexU n).length ≤ k + 1 ∧ hexU n ≠ [] ∧ (∀ c ∈ hexU n, (hexv (c.toNat : Int)).isSome ∧ c.toNat < 128) ∧ valI 0 (hexU n) = n
  | k, n, h => by
    by_cases h16 : n < 16
    · obtain ⟨h1, h2, _⟩ := dig7h ⟨n, h16⟩
      simp only at h1 h2
      rw [hexU_small h16]
      refine ⟨by simp, by simp, fun c hc => by rw [List.mem_singleton.1 hc, h1]; exact ⟨rfl, h2⟩, ?_⟩
      simp [valI, h1]
    · cases k with
      | zero => omega
      | succ k =>
        have hp : n / 16 < 16 ^ (k + 1) := by rw [Nat.pow_succ] at h; omega
        obtain ⟨g1, g2, g3, g4⟩ := hexU_factsI k (n / 16) hp
        obtain ⟨h1, h2, _⟩ := dig7h ⟨n % 16, by omega⟩
        simp only at h1 h2
        rw [hexU_step h16]
        refine ⟨by simp; omega, by simp, fun c hc => ?_, ?_⟩
        · rcases List.mem_append.1 hc with hc | hc
          · exact g3 c hc
          · rw [List.mem_singleton.1 hc, h1]; exact ⟨rfl, h2⟩
        · rw [valI_app, g4]; simp only [valI, h1, Option.getD_some]; omega
def sgs (l : List UInt8) : List Int := l.map fun c => (c.toNat : Int)
theorem sgs_app (l m : List UInt8) : sgs (l ++ m) = sgs l ++ sgs m := List.map_append
theorem figC_dig : ∀ (k : Nat) (f : Bool) (acc : Int) (l : List UInt8) (r : List Int), (∀ c ∈ l, (hexv (c.toNat : Int)).isSome) → l.length ≤ k → (f = true → l ≠ []) → figC k f acc (sgs l ++ 125 :: r) = some (valI acc l, r)
  | 0, f, acc, [], r, _, _, _ => rfl
  | 0, f, acc, c :: l, r, _, h, _ => by simp at h
  | k + 1, f, acc, [], r, _, _, hf => by
    cases f with
    | true => exact absurd rfl (hf rfl)
    | false => rfl
  | k + 1, f, acc, c :: l, r, hh, hl, _ => by
    obtain ⟨d, hd⟩ := Option.isSome_iff_exists.1 (hh c (by simp))
    simp only [sgs, List.map_cons, List.cons_append, figC, hd]
    have := figC_dig k false (acc * 16 + d) l r (fun x hx => hh x (List.mem_cons_of_mem _ hx)) (by simp at hl; omega) (by simp)
    simp only [sgs] at this
    rw [this]
    simp only [valI, hd, Option.getD_some]
theorem letterC_hex {n : Int} (h0 : 0 ≤ n) (h1 : n ≤ 1114111) (r : List Int) : letterC (sgs (hexX n) ++ r) = some (n, r) := by
  obtain ⟨g1, g2, g3, g4⟩ := hexU_factsI 5 n.toNat (by omega)
  have e : sgs (hexX n) ++ r = 92 :: 120 :: 123 :: (sgs (hexU n.toNat) ++ 125 :: r) := by
    unfold hexX; simp [sgs]
  rw [e]
  have hp : plainL 92 = true := by decide
  simp only [letterC, hp, if_true, numC]
  rw [figC_dig 6 true 0 _ r (fun c hc => (g3 c hc).1) g1 (fun _ => g2), g4]
  congr 2
  omega
theorem hexX_head (n : Int) (r : List Int) : ∃ s, sgs (hexX n) ++ r = 92 :: s := by unfold hexX; exact ⟨_, rfl⟩
theorem enc_head (l : List TRange) (r : List Int) : hdC (sgs (l.flatMap encR) ++ 93 :: r) = 93 ∧ l = [] ∨ hdC (sgs (l.flatMap encR) ++ 93 :: r) = 92 := by
  cases l with
  | nil => exact .inl ⟨rfl, rfl⟩
  | cons x l =>
    right
    rw [List.flatMap_cons, sgs_app]
    unfold encR
    rw [sgs_app, List.append_assoc, List.append_assoc]
    obtain ⟨s, hs⟩ := hexX_head x.Low (sgs (if x.High = x.Low then [] else 45 :: hexX x.High) ++ (sgs (l.flatMap encR) ++ 93 :: r))
    show hdC (sgs (hexX x.Low) ++ (sgs (if x.High = x.Low then [] else 45 :: hexX x.High) ++ (sgs (l.flatMap encR) ++ 93 :: r))) = 92
    rw [hs]; rfl
theorem setC_enc : ∀ (l acc : List TRange) (k : Nat) (r : List Int), l.length < k → (∀ x ∈ l, Ok x) → setC k acc (sgs (l.flatMap encR) ++ 93 :: r) = some (acc ++ l, r)
  | _, _, 0, _, h, _ => absurd h (Nat.not_lt_zero _)
  | [], acc, k + 1, r, _, _ => by
    simp only [setC]
    have : hdC (sgs (([] : List TRange).flatMap encR) ++ 93 :: r) = 93 := rfl
    rw [if_pos this, List.append_nil]; rfl
  | x :: l, acc, k + 1, r, hk, ho => by
    have hx := ho x (by simp)
    unfold Ok at hx
    have ih := setC_enc l (acc ++ [x]) k r (by simp at hk; omega) fun y hy => ho y (List.mem_cons_of_mem _ hy)
    have e : sgs ((x :: l).flatMap encR) ++ 93 :: r = sgs (hexX x.Low) ++ (sgs (if x.High = x.Low then [] else 45 :: hexX x.High) ++ (sgs (l.flatMap encR) ++ 93 :: r)) := by
      rw [List.flatMap_cons, sgs_app]; unfold encR; rw [sgs_app, List.append_assoc, List.append_assoc]
    have hh := enc_head (x :: l) r
    rw [e] at hh ⊢
    simp only [setC]
    rw [if_neg (by rcases hh with h | h; exact absurd h.2 (by simp); omega), letterC_hex hx.1 (by omega)]
    simp only
    have hhi : highC x.Low (sgs (if x.High = x.Low then [] else 45 :: hexX x.High) ++ (sgs (l.flatMap encR) ++ 93 :: r)) = some (x.High, sgs (l.flatMap encR) ++ 93 :: r) := by
      by_cases heq : x.High = x.Low
      · rw [if_pos heq]
        unfold highC
        have h2 := enc_head l r
        rw [show sgs ([] : List UInt8) = [] from rfl, List.nil_append, if_neg (by omega), heq]
      · rw [if_neg heq]
        unfold highC
        rw [show sgs (45 :: hexX x.High) = 45 :: sgs (hexX x.High) from rfl, List.cons_append, if_pos (show hdC _ = 45 from rfl), List.tail_cons]
        exact letterC_hex (by omega) (by omega) _
    rw [hhi]
    simp only
    rw [if_neg (by omega), ih, List.append_assoc]; rfl
theorem hexX_ascii {n : Int} (h0 : 0 ≤ n) (h1 : n ≤ 1114111) : (∀ c ∈ hexX n, c.toNat < 128) ∧ (hexX n).length ≤ 10 := by
  obtain ⟨g1, g2, g3, g4⟩ := hexU_factsI 5 n.toNat (by omega)
  unfold hexX
  refine ⟨fun c hc => ?_, by simp; omega⟩
  rcases List.mem_append.1 hc with hc | hc
  · rcases List.mem_append.1 hc with hc | hc
    · simp at hc; rcases hc with rfl | rfl | rfl <;> decide
    · exact (g3 c hc).2
  · rw [List.mem_singleton.1 hc]; decide
theorem enc_ascii {x : TRange} (h : Ok x) : (∀ c ∈ encR x, c.toNat < 128) ∧ (encR x).length ≤ 21 := by
  unfold Ok at h
  obtain ⟨a1, a2⟩ := hexX_ascii (n := x.Low) h.1 (by omega)
  obtain ⟨b1, b2⟩ := hexX_ascii (n := x.High) (by omega) (by omega)
  unfold encR
  refine ⟨fun c hc => ?_, by split <;> simp <;> omega⟩
  rcases List.mem_append.1 hc with hc | hc
  · exact a1 c hc
  · split at hc
    · cases hc
    · rcases List.mem_cons.1 hc with rfl | hc
      · decide
      · exact b1 c hc
theorem flat_ascii : ∀ {l : List TRange}, (∀ x ∈ l, Ok x) → (∀ c ∈ l.flatMap encR, c.toNat < 128) ∧ (l.flatMap encR).length ≤ 21 * l.length
  | [], _ => ⟨by simp, by simp⟩
  | x :: l, h => by
    obtain ⟨h1, h2⟩ := flat_ascii (l := l) fun y hy => h y (List.mem_cons_of_mem _ hy)
    obtain ⟨g1, g2⟩ := enc_ascii (h x (by simp))
    rw [List.flatMap_cons]
    refine ⟨fun c hc => ?_, by rw [List.length_append, List.length_cons]; omega⟩
    rcases List.mem_append.1 hc with hc | hc
    · exact g1 c hc
    · exact h1 c hc
theorem sg_ascii (hc : ∀ c ∈ b, c.toNat < 128) : sg b = sgs b := by unfold sg; rw [units_ascii hc, ascii_su]; rfl
end
end Go.Val

/- part S7l -/
/- Plain lemmas: a printed program's text, as tokens. -/
namespace Go.Val
noncomputable section
def conSet (s : List TRange) : Con := (3, [], s)
def conSg (c : UInt8) : Con := (2, [c], [])
/-- A text is read as these tokens, whatever follows. -/
def Lx (t : Str) (D : List Con) : Prop := ∀ R, cons7 (blkC false (sgs t ++ R)) = (cons7 (blkC false R)).map (D ++ ·)
theorem Lx_nil : Lx [] [] := fun R => by
  simp only [sgs, List.map_nil, List.nil_append]
  cases cons7 (blkC false R) <;> rfl
theorem Lx_app {t u : Str} {D E : List Con} (h1 : Lx t D) (h2 : Lx u E) : Lx (t ++ u) (D ++ E) := fun R => by
  rw [sgs_app, List.append_assoc, h1, h2, Option.map_map]
  congr 1
  funext l
  simp [Function.comp_def]
theorem Lx_tok {t : Str} {c : Con} (hne : ∀ R, blkC false (sgs t ++ R) = sgs t ++ R) (h : ∀ R, tokC (sgs t ++ R) = some (c, R)) : Lx t [c] := fun R => by
  rw [hne, cons7_tok (h R)]
  rfl
theorem sg_no {n : Int} (h : signB n = true) : isBl n = false ∧ n ≠ 35 ∧ n ≠ 91 ∧ lowB n = false := by
  obtain ⟨c, hc, he⟩ := List.any_eq_true.1 h
  have := eq_of_beq he
  subst this
  simp only [List.mem_cons, List.not_mem_nil, or_false] at hc
  rcases hc with rfl | rfl | rfl | rfl | rfl | rfl | rfl | rfl | rfl | rfl | rfl | rfl | rfl <;> decide
theorem Lx_sign {c : UInt8} (h : signB (c.toNat : Int) = true) : Lx [c] [conSg c] := by
  obtain ⟨h1, h2, h3, h4⟩ := sg_no h
  refine Lx_tok (fun R => ?_) (fun R => ?_)
  · show blkC false ((c.toNat : Int) :: R) = _
    rw [blkC, if_neg (by rw [h1]; simp), if_neg h2]; rfl
  · show tokC ((c.toNat : Int) :: R) = _
    rw [tokC, if_neg h3, if_neg (by rw [h4]; simp), if_pos h, byte_nat]; rfl
theorem flat_long : ∀ (l : List TRange), l.length ≤ (l.flatMap encR).length
  | [] => Nat.zero_le _
  | x :: l => by
    have := flat_long l
    have h : 1 ≤ (encR x).length := by unfold encR hexX; simp
    simp only [List.flatMap_cons, List.length_append, List.length_cons]; omega
theorem Lx_set {s : List TRange} (h : Norm s) (hl : s.length ≤ 40) : Lx (setText s) [conSet s] := by
  refine Lx_tok (fun R => ?_) (fun R => ?_)
  · rw [setText_eq]
    show blkC false ((91 : Int) :: (sgs (s.flatMap encR ++ [93]) ++ R)) = _
    rw [blkC, if_neg (by decide), if_neg (by decide)]; rfl
  · rw [setText_eq]
    have e : sgs (91 :: (s.flatMap encR ++ [93])) ++ R = (91 : Int) :: (sgs (s.flatMap encR) ++ 93 :: R) := by simp [sgs]
    rw [e, tokC, if_pos rfl, setC_enc s [] _ R (by have := flat_long s; simp only [sgs, List.length_append, List.length_map, List.length_cons]; omega) h.1]
    simp only [Option.map_some, List.nil_append, setOf_norm h (by omega)]
    rfl
theorem Lx_keep : Lx [107, 101, 101, 112, 32] [(1, [107, 101, 101, 112], [])] := fun R => by
  have e : sgs [107, 101, 101, 112, 32] ++ R = (107 : Int) :: 101 :: 101 :: 112 :: 32 :: R := rfl
  have h : tokC ([107, 101, 101, 112] ++ (32 :: R)) = some ((1, [107, 101, 101, 112], []), 32 :: R) := by
    show tokC ((107 : Int) :: 101 :: 101 :: 112 :: 32 :: R) = _
    rw [tokC, if_neg (by decide), if_pos (by decide)]
    have h1 : goesB 101 = true := by decide
    have h2 : goesB 112 = true := by decide
    have h3 : goesB 32 = false := by decide
    simp only [List.takeWhile_cons, List.dropWhile_cons, h1, h2, h3, if_true, Bool.false_eq_true, if_false]
    rfl
  rw [e, blkC, if_neg (by decide), if_neg (by decide)]
  have := cons7_tok h
  rw [show (107 : Int) :: 101 :: 101 :: 112 :: 32 :: R = [107, 101, 101, 112] ++ (32 :: R) from rfl, this]
  rw [show blkC false ((32 : Int) :: R) = blkC false R from by rw [blkC, if_pos (by decide)]]
  rfl
theorem Lx_break : Lx [98, 114, 101, 97, 107, 32] [(1, [98, 114, 101, 97, 107], [])] := fun R => by
  have e : sgs [98, 114, 101, 97, 107, 32] ++ R = (98 : Int) :: 114 :: 101 :: 97 :: 107 :: 32 :: R := rfl
  have h : tokC ([98, 114, 101, 97, 107] ++ (32 :: R)) = some ((1, [98, 114, 101, 97, 107], []), 32 :: R) := by
    show tokC ((98 : Int) :: 114 :: 101 :: 97 :: 107 :: 32 :: R) = _
    rw [tokC, if_neg (by decide), if_pos (by decide)]
    have h1 : goesB 114 = true := by decide
    have h2 : goesB 101 = true := by decide
    have h4 : goesB 97 = true := by decide
    have h5 : goesB 107 = true := by decide
    have h3 : goesB 32 = false := by decide
    simp only [List.takeWhile_cons, List.dropWhile_cons, h1, h2, h3, h4, h5, if_true, Bool.false_eq_true, if_false]
    rfl
  rw [e, blkC, if_neg (by decide), if_neg (by decide)]
  have := cons7_tok h
  rw [show (98 : Int) :: 114 :: 101 :: 97 :: 107 :: 32 :: R = [98, 114, 101, 97, 107] ++ (32 :: R) from rfl, this]
  rw [show blkC false ((32 : Int) :: R) = blkC false R from by rw [blkC, if_pos (by decide)]]
  rfl
theorem Lx_nl : Lx [10] [] := fun R => by
  show cons7 (blkC false ((10 : Int) :: R)) = _
  rw [blkC, if_pos (by decide)]
  cases cons7 (blkC false R) <;> rfl
theorem Lx_flat {α : Type} {f : α → Str} {g : α → List Con} : ∀ {l : List α}, (∀ x ∈ l, Lx (f x) (g x)) → Lx (l.map f).flatten (l.map g).flatten
  | [], _ => Lx_nil
  | x :: l, h => by
    rw [List.map_cons, List.map_cons, List.flatten_cons, List.flatten_cons]
    exact Lx_app (h x (by simp)) (Lx_flat fun y hy => h y (List.mem_cons_of_mem _ hy))
/-! ### expressions -/
def wrapC (k : Int) (x : TNode) (D : List Con) : List Con := if openB k x then conSg 40 :: (D ++ [conSg 41]) else D
def barC : List (List Con) → List Con
  | [] => []
  | x :: r => x ++ (r.map (conSg 124 :: ·)).flatten
def joinC (k : Int) (l : List (List Con)) : List Con := if k = 2 then barC l else l.flatten
def sigC (k : Int) : List Con := if k = 3 then [conSg 42] else if k = 4 then [conSg 43] else if k = 5 then [conSg 63] else []
mutual
/-- An expression's tokens. -/
def tokN (S : List (List TRange)) : TNode → List Con
  | ⟨k, s, ks⟩ => if k = 1 then [conSet (S.getD s.toNat [])] else joinC k (tokL S k ks) ++ sigC k
def tokL (S : List (List TRange)) (k : Int) : List TNode → List (List Con)
  | [] => []
  | x :: xs => wrapC k x (tokN S x) :: tokL S k xs
end
variable {S : List (List TRange)}
theorem tokN_eq (n : TNode) : tokN S n = if n.Kind = 1 then [conSet (S.getD n.Set.toNat [])] else joinC n.Kind (tokL S n.Kind n.Kids) ++ sigC n.Kind := by
  cases n; rw [tokN]
theorem tokL_map (k : Int) : ∀ l : List TNode, tokL S k l = l.map fun x => wrapC k x (tokN S x)
  | [] => rfl
  | x :: l => by rw [tokL, tokL_map k l]; rfl
/-- Sets that are right, and few. -/
def NormS (S : List (List TRange)) : Prop := ∀ s ∈ S, Norm s ∧ s.length ≤ 40
theorem norm_at (h : NormS S) {i : Int} (h0 : 0 ≤ i) (h1 : i < (S.length : Int)) : S[i.toNat]? = some (S.getD i.toNat []) ∧ Norm (S.getD i.toNat []) ∧ (S.getD i.toNat []).length ≤ 40 := by
  have hlt : i.toNat < S.length := by omega
  have e : S.getD i.toNat [] = S[i.toNat] := by simp [List.getD_eq_getElem?_getD, List.getElem?_eq_getElem hlt]
  rw [e]
  exact ⟨List.getElem?_eq_getElem hlt, h _ (List.getElem_mem hlt)⟩
theorem Lx_sig (k : Int) : Lx (signT k) (sigC k) := by
  unfold signT sigC
  split
  · exact Lx_sign (by decide)
  · split
    · exact Lx_sign (by decide)
    · split
      · exact Lx_sign (by decide)
      · exact Lx_nil
theorem Lx_wrap {k : Int} {x : TNode} {t : Str} {D : List Con} (h : Lx t D) : Lx (wrapB k x t) (wrapC k x D) := by
  unfold wrapB wrapC
  split
  · have := Lx_app (Lx_sign (c := 40) (by decide)) (Lx_app h (Lx_sign (c := 41) (by decide)))
    exact this
  · exact h
theorem Lx_tree (hS : NormS S) : ∀ (n : TNode) (d g : Nat), formB S.length n d g = true → Lx (txt S n) (tokN S n) := by
  intro n
  induction n using TNode.ind with
  | h n ih =>
    intro d g hf
    rw [formB_eq] at hf
    rw [txt_eq, tokN_eq]
    by_cases hk : n.Kind = 1
    · rw [if_pos hk] at hf ⊢
      rw [if_pos hk]
      simp only [Bool.and_eq_true, decide_eq_true_eq] at hf
      obtain ⟨_, h1, h2⟩ := norm_at hS hf.2.1 hf.2.2
      exact Lx_set h1 h2
    · rw [if_neg hk] at hf ⊢
      rw [if_neg hk]
      simp only [Bool.and_eq_true, decide_eq_true_eq] at hf
      have hkid : ∀ x ∈ n.Kids, Lx (wrapB n.Kind x (txt S x)) (wrapC n.Kind x (tokN S x)) := fun x hx => Lx_wrap (ih x hx _ _ (formL_mem hf.2.2.2 hx))
      refine Lx_app ?_ (Lx_sig _)
      rw [txtL_map, tokL_map]
      unfold joinK joinC
      split
      · cases hl : n.Kids with
        | nil => exact Lx_nil
        | cons x l =>
          rw [hl] at hkid
          rw [List.map_cons, List.map_cons, Go.Lib.join_cons]
          unfold Go.Lib.joinTail barC
          refine Lx_app (hkid x (by simp)) ?_
          rw [List.map_map, List.map_map]
          exact Lx_flat fun y hy => Lx_app (Lx_sign (c := 124) (by decide)) (hkid y (List.mem_cons_of_mem _ hy))
      · exact Lx_flat hkid
/-! ### rules -/
def wordC (r : TRule) : Con := (1, if r.Break then [98, 114, 101, 97, 107] else [107, 101, 101, 112], [])
def ruleC (S : List (List TRange)) (r : TRule) : List Con := wordC r :: (tokN S r.Left ++ conSg 47 :: (tokN S r.Right ++ [conSg 59]))
theorem Lx_rule (hS : NormS S) {r : TRule} (h1 : formB S.length r.Left 0 0 = true) (h2 : formB S.length r.Right 0 0 = true) : Lx (ruleT S r) (ruleC S r) := by
  have hw : Lx (wordR r) [wordC r] := by
    unfold wordR wordC
    cases r.Break
    · exact Lx_keep
    · exact Lx_break
  have h := Lx_app hw (Lx_app (Lx_tree hS _ _ _ h1) (Lx_app (Lx_sign (c := 47) (by decide)) (Lx_app (Lx_tree hS _ _ _ h2) (Lx_app (Lx_sign (c := 59) (by decide)) Lx_nl))))
  simpa [ruleT, ruleC, List.append_assoc] using h
theorem ascii_tree (hS : NormS S) : ∀ (n : TNode) (d g : Nat), formB S.length n d g = true → ∀ c ∈ txt S n, c.toNat < 128 := by
  intro n
  induction n using TNode.ind with
  | h n ih =>
    intro d g hf
    rw [formB_eq] at hf
    rw [txt_eq]
    by_cases hk : n.Kind = 1
    · rw [if_pos hk] at hf ⊢
      simp only [Bool.and_eq_true, decide_eq_true_eq] at hf
      obtain ⟨_, h1, h2⟩ := norm_at hS hf.2.1 hf.2.2
      intro c hc
      rw [setText_eq] at hc
      simp only [List.mem_cons, List.mem_append, List.not_mem_nil, or_false] at hc
      rcases hc with rfl | hc | rfl
      · decide
      · exact (flat_ascii h1.1).1 c hc
      · decide
    · rw [if_neg hk] at hf ⊢
      simp only [Bool.and_eq_true, decide_eq_true_eq] at hf
      have hkid : ∀ x ∈ n.Kids, ∀ c ∈ wrapB n.Kind x (txt S x), c.toNat < 128 := fun x hx c hc => by
        have h1 := ih x hx _ _ (formL_mem hf.2.2.2 hx)
        unfold wrapB at hc
        split at hc
        · simp only [List.mem_cons, List.mem_append, List.not_mem_nil, or_false] at hc
          rcases hc with rfl | hc | rfl
          · decide
          · exact h1 c hc
          · decide
        · exact h1 c hc
      intro c hc
      rcases List.mem_append.1 hc with hc | hc
      · rw [txtL_map] at hc
        unfold joinK at hc
        split at hc
        · cases hl : n.Kids with
          | nil => rw [hl] at hc; cases hc
          | cons x l =>
            rw [hl] at hc hkid
            rw [List.map_cons, Go.Lib.join_cons] at hc
            unfold Go.Lib.joinTail at hc
            rcases List.mem_append.1 hc with hc | hc
            · exact hkid x (by simp) c hc
            · obtain ⟨t, ht, hc⟩ := List.mem_flatten.1 hc
              obtain ⟨u, hu, rfl⟩ := List.mem_map.1 ht
              obtain ⟨y, hy, rfl⟩ := List.mem_map.1 hu
              rcases List.mem_append.1 hc with hc | hc
              · rw [List.mem_singleton.1 hc]; decide
              · exact hkid y (List.mem_cons_of_mem _ hy) c hc
        · obtain ⟨t, ht, hc⟩ := List.mem_flatten.1 hc
          obtain ⟨y, hy, rfl⟩ := List.mem_map.1 ht
          exact hkid y hy c hc
      · unfold signT at hc
        repeat' split at hc
        all_goals simp at hc
        all_goals (subst hc; decide)
theorem ascii_rule (hS : NormS S) {r : TRule} (h1 : formB S.length r.Left 0 0 = true) (h2 : formB S.length r.Right 0 0 = true) : ∀ c ∈ ruleT S r, c.toNat < 128 := by
  intro c hc
  unfold ruleT wordR at hc
  simp only [List.mem_append, List.mem_cons, List.not_mem_nil, or_false] at hc
  rcases hc with hc | hc | rfl | hc | rfl | rfl
  · split at hc <;> simp at hc <;> rcases hc with rfl | rfl | rfl | rfl | rfl | rfl <;> decide
  · exact ascii_tree hS _ _ _ h1 c hc
  · decide
  · exact ascii_tree hS _ _ _ h2 c hc
  · decide
  · decide
/-- The tokens of a printed program. -/
theorem Tk_prog {b : List UInt8} {l : List TRule} (hS : NormS S) (hl : ∀ r ∈ l, formB S.length r.Left 0 0 = true ∧ formB S.length r.Right 0 0 = true) (hb : b = l.flatMap (ruleT S)) (hbl : b.length ≤ 60000) :
    ∃ ts : List TToken, ts.map con = l.flatMap (ruleC S) ∧ Tk b = (ts ++ [⟨4, b.length, [], []⟩], 0, 0) := by
  have hasc : ∀ c ∈ b, c.toNat < 128 := fun c hc => by
    rw [hb] at hc
    obtain ⟨r, hr, hc⟩ := List.mem_flatMap.1 hc
    exact ascii_rule hS (hl r hr).1 (hl r hr).2 c hc
  have hlx : Lx b (l.flatMap (ruleC S)) := by
    rw [hb, List.flatMap_def, List.flatMap_def]
    exact Lx_flat fun r hr => Lx_rule hS (hl r hr).1 (hl r hr).2
  have h := hlx []
  rw [List.append_nil, ← sg_ascii hasc] at h
  have h0 : cons7 (blkC false []) = some [] := rfl
  rw [h0, Option.map_some, List.append_nil] at h
  obtain ⟨ts, h1, h2⟩ := Tk_cons (b := b) (by omega) h
  refine ⟨ts.map (mkT b), ?_, h2⟩
  rw [← h1, List.map_map]
  rfl
end
end Go.Val

/- part S8l -/
/- Plain lemmas: the parser on a printed program's tokens: what it looks at; sets; signs. -/
namespace Go.Val
noncomputable section
/-- The parser, at a token, without a fault. -/
def stP (L : List TToken) (i : Nat) (S : List (List TRange)) (R : List TRule) : Tsyntax_parser := ⟨⟨L, (i : Int), 0⟩, [], ⟨S, R⟩⟩
/-- The tokens that are not gone through. -/
def ahead (L : List TToken) (i : Nat) : List Con := (L.drop i).map con
variable {L : List TToken} {S : List (List TRange)} {R : List TRule} {i : Nat} {c : Con} {D E : List Con}
theorem ahead_cons (h : ahead L i = c :: D) : ∃ t, L[i]? = some t ∧ con t = c ∧ ahead L (i + 1) = D ∧ i < L.length := by
  unfold ahead at h
  cases hd : L.drop i with
  | nil => rw [hd] at h; cases h
  | cons t l =>
    obtain ⟨hi, h1, h2⟩ := drop_consR hd
    rw [hd, List.map_cons, List.cons.injEq] at h
    exact ⟨t, by rw [List.getElem?_eq_getElem hi, h1], h.1, by unfold ahead; rw [h2]; exact h.2, hi⟩
theorem ahead_app : ∀ {A : List Con} {i : Nat}, ahead L i = A ++ D → ahead L (i + A.length) = D
  | [], i, h => h
  | c :: A, i, h => by
    obtain ⟨_, _, _, h1, _⟩ := ahead_cons h
    have := ahead_app (A := A) h1
    rw [List.length_cons, show i + (A.length + 1) = i + 1 + A.length by omega]; exact this
theorem nowP (h : ahead L i = c :: D) : ∃ t, syntax_tokens_now (stP L i S R) = some t ∧ con t = c := by
  obtain ⟨t, h1, h2, _, _⟩ := ahead_cons h
  refine ⟨t, ?_, h2⟩
  unfold syntax_tokens_now stP
  simp only
  rw [idx_nat, h1]; rfl
def isC (c : Con) (g : Str) : Bool := (c.1 == 2) && (c.2.1 == g)
theorem isP (h : ahead L i = c :: D) (g : Str) : syntax_tokens_is (stP L i S R) g = some (isC c g) := by
  obtain ⟨t, h1, h2⟩ := nowP (S := S) (R := R) h
  unfold syntax_tokens_is
  rw [h1, Option.bind_some]
  subst h2
  simp [stP, isC, con]
theorem wrapI {n : Nat} (h : n < 1000000000) : IntKind.i64.wrap ((n : Int) + 1) = ((n + 1 : Nat) : Int) := by rw [w64 (by omega) (by omega)]; omega
theorem takeP (hL : L.length ≤ 1000000) (h : ahead L i = c :: D) {g : Str} (hc : isC c g = true) : syntax_tokens_take (stP L i S R) g = some (stP L (i + 1) S R) := by
  obtain ⟨_, _, _, _, hi⟩ := ahead_cons h
  unfold syntax_tokens_take
  rw [isP h, Option.bind_some, hc, if_neg (by simp)]
  simp only [stP]
  rw [wrapI (by omega)]
theorem isC_set (s : List TRange) (g : Str) : isC (conSet s) g = false := rfl
/-! ### sets -/
theorem find_from {s : List TRange} : ∀ (l : List (List TRange)) (j : Nat) (k : Nat), l.Nodup → l[k]? = some s → findI s l (j : Int) = ((j + k : Nat) : Int)
  | [], j, k, _, h => by simp at h
  | x :: l, j, 0, _, h => by
    simp only [List.getElem?_cons_zero, Option.some.injEq] at h
    simp [findI, h]
  | x :: l, j, k + 1, hn, h => by
    obtain ⟨h1, h2⟩ := List.nodup_cons.1 hn
    rw [List.getElem?_cons_succ] at h
    have hne : x ≠ s := fun e => h1 (e ▸ List.mem_of_getElem? h)
    rw [findI, if_neg hne, show ((j : Int) + 1) = ((j + 1 : Nat) : Int) by omega, find_from l (j + 1) k h2 h]
    omega
theorem find_none {s : List TRange} : ∀ (l : List (List TRange)) (j : Int), s ∉ l → findI s l j = -1
  | [], _, _ => rfl
  | x :: l, j, h => by
    rw [List.mem_cons, not_or] at h
    rw [findI, if_neg (Ne.symm h.1), find_none l (j + 1) h.2]
theorem take_get {α : Type} {l : List α} {m k : Nat} (h : k < m) : (l.take m)[k]? = l[k]? := by rw [List.getElem?_take, if_pos h]
theorem numberP (hS : S.length ≤ 60) (hb : ∀ x ∈ S, x.length ≤ 40) (hn : S.Nodup) {m k : Nat} {s : List TRange} (hk : S[k]? = some s) (hm : k ≤ m) (hmS : m ≤ S.length) :
    syntax_parser_number (stP L i (S.take m) R) s = some ((k : Int), stP L i (S.take (max m (k + 1))) R) := by
  have hkS := (List.getElem?_eq_some_iff.1 hk).1
  have hlen : (S.take m).length = m := by simp; omega
  have hf : findR (S.take m) s = some (findI s (S.take m) 0) := by unfold findR; rw [if_pos ⟨by omega, by have := hb s (List.mem_of_getElem? hk); omega, fun x hx => by have := hb x (List.mem_of_mem_take hx); omega⟩]
  unfold syntax_parser_number
  show (findR (S.take m) s).bind _ = _
  rw [hf, Option.bind_some]
  simp only [stP]
  by_cases h : k < m
  · have e := find_from (s := s) (S.take m) 0 k (hn.sublist (List.take_sublist _ _)) (by rw [take_get h]; exact hk)
    rw [Nat.zero_add] at e
    have e0 : ((0 : Nat) : Int) = 0 := rfl
    rw [e0] at e
    rw [e, if_pos (by simp), Nat.max_eq_left (by omega)]
  · have hkm : k = m := by omega
    subst hkm
    have hno : s ∉ S.take k := fun hmem => by
      obtain ⟨j, hj⟩ := List.mem_iff_getElem?.1 hmem
      have hjk : j < k := by have := (List.getElem?_eq_some_iff.1 hj).1; omega
      rw [take_get hjk] at hj
      have h1 := (List.getElem?_eq_some_iff.1 hj)
      have h2 := (List.getElem?_eq_some_iff.1 hk)
      have := (List.getElem_inj hn (i := j) (j := k)).1 (h1.2.trans h2.2.symm)
      omega
    rw [find_none _ _ hno, if_neg (by simp)]
    refine (if_neg (by simp; omega)).trans ?_
    rw [room_ok (by omega), Option.bind_some]
    have h2 := (List.getElem?_eq_some_iff.1 hk)
    have et : S.take k ++ [s] = S.take (k + 1) := by rw [List.take_add_one, hk]; rfl
    rw [et, Nat.max_eq_right (by omega)]
    have hl2 : (S.take (k + 1)).length = k + 1 := by simp; omega
    rw [hl2, w64 (by omega) (by omega)]
    congr 2
    omega
theorem setP {s : List TRange} (h : ahead L i = conSet s :: D) : syntax_parser_set (stP L i S R) = some (s, true, stP L i S R) := by
  obtain ⟨t, h1, h2⟩ := nowP (S := S) (R := R) h
  unfold syntax_parser_set
  rw [h1, Option.bind_some]
  have hk : t.Kind = 3 ∧ t.Set = s := by
    simp only [con, conSet, Prod.mk.injEq] at h2
    exact ⟨h2.1, h2.2.2⟩
  rw [if_neg (by simp [stP]), if_pos (by rw [hk.1]; rfl), hk.2]
/-! ### signs -/
theorem sign_eq (g : Str) : syntax_sign g = some (if g = [42] then 3 else if g = [43] then 4 else if g = [63] then 5 else 0) := by
  unfold syntax_sign
  by_cases h1 : g = [42]
  · simp [h1]
  · by_cases h2 : g = [43]
    · simp [h2]
    · by_cases h3 : g = [63] <;> simp [h1, h2, h3]
/-- What signs make of an expression. -/
def appS (y : TNode) : List Int → TNode
  | [] => y
  | k :: js => appS ⟨k, 0, [y]⟩ js
theorem appS_snoc : ∀ (js : List Int) (y : TNode) (k : Int), appS y (js ++ [k]) = ⟨k, 0, [appS y js]⟩
  | [], y, k => rfl
  | j :: js, y, k => by rw [List.cons_append, appS, appS_snoc js]; rfl
/-- No sign that turns what is ahead. -/
def plainC (c : Con) : Bool := !(c.1 == 2 && (c.2.1 == [42] || c.2.1 == [43] || c.2.1 == [63]))
theorem ends_eq {n : TNode} (h : signK n.Kind = false) : syntax_ends n = some 0 := by
  refine lim_eq 1 fun k hk => ?_
  obtain ⟨k, rfl⟩ : ∃ j, k = j + 1 := ⟨k - 1, by omega⟩
  show (syntax_signed n).bind _ = _
  rw [pSigned, h]; rfl
theorem signsP (hL : L.length ≤ 1000000) : ∀ (js : List Int) (k : Nat) (y : TNode) (i : Nat), (∀ j ∈ js, signK j = true) → k + js.length ≤ 3 → ahead L i = js.flatMap sigC ++ c :: E → plainC c = true →
    Loop (syntax_parser_part.b1 L 0 S R []) ((k : Int), y.Kind, y.Set, y.Kids, (i : Int)) = some (appS y js, stP L (i + js.length) S R)
  | [], k, y, i, _, _, h, hc => by
    obtain ⟨t, h1, h2⟩ := nowP (S := S) (R := R) (D := E) (c := c) h
    refine Loop_done ?_
    simp only [syntax_parser_part.b1]
    have h1' : syntax_tokens_now ⟨⟨L, (i : Int), 0⟩, [], ⟨S, R⟩⟩ = some t := h1
    rw [if_pos (by rfl), h1', Option.bind_some, sign_eq, Option.bind_some]
    have hp : ((t.Kind != (2 : Int)) || ((if t.Text = [42] then (3 : Int) else if t.Text = [43] then 4 else if t.Text = [63] then 5 else 0) == (0 : Int))) = true := by
      rw [← h2] at hc
      simp only [plainC, con] at hc
      by_cases hk : t.Kind = 2
      · rw [hk] at hc
        by_cases e1 : t.Text = [42]
        · rw [e1] at hc; cases hc
        · by_cases e2 : t.Text = [43]
          · rw [e2] at hc; cases hc
          · by_cases e3 : t.Text = [63]
            · rw [e3] at hc; cases hc
            · simp [e1, e2, e3]
      · simp [hk]
    rw [if_pos hp]
    cases y
    rfl
  | j :: js, k, y, i, hj, hk, h, hc => by
    have hj0 := hj j (by simp)
    have hs : ∃ ch : UInt8, sigC j = [conSg ch] ∧ (if [ch] = ([42] : Str) then (3 : Int) else if [ch] = ([43] : Str) then 4 else if [ch] = ([63] : Str) then 5 else 0) = j := by
      unfold signK at hj0
      simp only [Bool.and_eq_true, decide_eq_true_eq] at hj0
      have : j = 3 ∨ j = 4 ∨ j = 5 := by omega
      rcases this with rfl | rfl | rfl
      · exact ⟨42, rfl, by decide⟩
      · exact ⟨43, rfl, by decide⟩
      · exact ⟨63, rfl, by decide⟩
    obtain ⟨ch, e1, e2⟩ := hs
    rw [List.flatMap_cons, e1, List.cons_append, List.nil_append, List.cons_append] at h
    obtain ⟨t, h1, h2⟩ := nowP (S := S) (R := R) h
    obtain ⟨_, _, _, h3, hi⟩ := ahead_cons h
    have hstep : Loop (syntax_parser_part.b1 L 0 S R []) ((k : Int), y.Kind, y.Set, y.Kids, (i : Int)) = Loop (syntax_parser_part.b1 L 0 S R []) (((k + 1 : Nat) : Int), j, 0, [y], ((i + 1 : Nat) : Int)) := by
      refine Loop_next ?_
      simp only [syntax_parser_part.b1]
      have h1' : syntax_tokens_now ⟨⟨L, (i : Int), 0⟩, [], ⟨S, R⟩⟩ = some t := h1
      have ht : t.Kind = 2 ∧ t.Text = [ch] := by
        simp only [con, conSg, Prod.mk.injEq] at h2
        exact ⟨h2.1, h2.2.1⟩
      rw [if_pos (by rfl), h1', Option.bind_some, sign_eq, Option.bind_some, ht.1, ht.2, e2]
      have hj1 : j ≠ 0 := by intro e; rw [e] at hj0; cases hj0
      rw [if_neg (by simp [hj1]), if_neg (by simp at hk ⊢; omega), wrapI (by simp at hk; omega), wrapI (by omega)]
      cases y; rfl
    rw [hstep]
    have ih := signsP hL js (k + 1) ⟨j, 0, [y]⟩ (i + 1) (fun x hx => hj x (List.mem_cons_of_mem _ hx)) (by simp at hk; omega) h3 hc
    rw [ih, appS, List.length_cons, show i + 1 + js.length = i + (js.length + 1) by omega]
end
end Go.Val

/- part S9l -/
/- Plain lemmas: the parser on a printed expression's tokens. -/
namespace Go.Val
noncomputable section
variable {L : List TToken} {S : List (List TRange)} {R : List TRule} {i : Nat} {c : Con} {D E : List Con}
/-- The tokens of a part, in brackets or not. -/
def item (S : List (List TRange)) (x : TNode) : List Con := wrapC 0 x (tokN S x)
theorem wrap_item {k : Int} (hk : k ≠ 2) (x : TNode) : wrapC k x (tokN S x) = item S x := by
  unfold item wrapC openB
  simp [hk]
theorem more_item {k : Int} (hk : k ≠ 2) (x : TNode) (d : Nat) : moreN k x d = moreN 0 x d := by
  unfold moreN openB
  simp [hk]
theorem one_kid {l : List TNode} (h : l.length = 1) : ∃ y, l = [y] := by
  match l, h with
  | [y], _ => exact ⟨y, rfl⟩
/-- A part is what it begins with, and its signs. -/
theorem unroll : ∀ (x : TNode) (d g : Nat), formB S.length x (moreN 0 x d) g = true → moreN 0 x d ≤ 20 →
    ∃ y js, x = appS y js ∧ signK y.Kind = false ∧ (js = [] ∨ js.length + g ≤ 3) ∧ (∀ j ∈ js, signK j = true) ∧ item S x = item S y ++ js.flatMap sigC ∧ (∃ g', formB S.length y (moreN 0 y d) g' = true) ∧ moreN 0 y d ≤ 20 ∧
      (js = [] ∧ x = y ∨ nsize y < nsize x) ∧ ∀ a, metS x a = metS y a := by
  intro x
  induction x using TNode.ind with
  | h x ih =>
    intro d g hf hd
    cases hsg : signK x.Kind with
    | false => exact ⟨x, [], rfl, hsg, .inl rfl, by simp, by simp, ⟨g, hf⟩, hd, .inl ⟨rfl, rfl⟩, fun _ => rfl⟩
    | true =>
      have hk : x.Kind = 3 ∨ x.Kind = 4 ∨ x.Kind = 5 := by
        unfold signK at hsg; simp only [Bool.and_eq_true, decide_eq_true_eq] at hsg; omega
      have h1 : x.Kind ≠ 1 := by omega
      have h2 : x.Kind ≠ 2 := by omega
      have h0 : x.Kind ≠ 0 := by omega
      have hmore : moreN 0 x d = d := by unfold moreN openB; simp [h2, h0]
      rw [formB_eq, if_neg h1] at hf
      simp only [Bool.and_eq_true, decide_eq_true_eq] at hf
      obtain ⟨hset, hfit, hg3, hfl⟩ := hf
      have hlen : x.Kids.length = 1 := by
        unfold fitsB at hfit
        rw [if_neg h0, if_neg h2, hsg] at hfit
        simpa using hfit
      obtain ⟨y, hy⟩ := one_kid hlen
      have hmem : y ∈ x.Kids := by rw [hy]; simp
      have hfy := formL_mem hfl hmem
      rw [hmore, more_item h2] at hfy
      have hdy : moreN 0 y d ≤ 20 := by
        rw [hy, formL] at hfl
        simp only [Bool.and_eq_true, decide_eq_true_eq] at hfl
        rw [hmore, more_item h2] at hfl
        exact hfl.1
      have hsN : signsN x.Kind g = g + 1 := by unfold signsN; rw [if_pos hsg]
      rw [hsN] at hfy hg3
      obtain ⟨z, js, e1, e2, e3, e4, e5, e6, e7, e8, e9⟩ := ih y hmem d (g + 1) hfy hdy
      have hx : x = ⟨x.Kind, 0, [y]⟩ := by
        have : x = ⟨x.Kind, x.Set, x.Kids⟩ := by cases x; rfl
        rw [hset, hy] at this; exact this
      have hsz : nsize y < nsize x := nsize_kid hmem
      refine ⟨z, js ++ [x.Kind], ?_, e2, .inr ?_, ?_, ?_, e6, e7, .inr ?_, ?_⟩
      · rw [appS_snoc, ← e1]; exact hx
      · rw [List.length_append, List.length_singleton]
        rcases e3 with rfl | e3
        · simp; omega
        · omega
      · intro j hj
        rcases List.mem_append.1 hj with hj | hj
        · exact e4 j hj
        · rw [List.mem_singleton.1 hj]; exact hsg
      · have hit : item S x = tokN S x := by unfold item wrapC openB; simp [h2, h0]
        rw [hit, tokN_eq, if_neg h1, hy]
        unfold joinC
        rw [if_neg h2, tokL, tokL, List.flatten_cons, List.flatten_nil, List.append_nil, wrap_item h2, e5, List.flatMap_append, List.append_assoc]
        simp
      · rcases e8 with ⟨_, e8⟩ | e8
        · rw [← e8]; exact hsz
        · omega
      · intro a
        rw [metS_eq, if_neg h1, hy, metL, e9 a]
        cases metS z a with
        | none => rfl
        | some m => simp [metL]
/-- What ends an expression. -/
def stopC (c : Con) : Prop := c = conSg 41 ∨ c = conSg 47 ∨ c = conSg 59
/-- The expression is read, and all its tokens. -/
def ReadsN (L : List TToken) (S : List (List TRange)) (R : List TRule) (self : Tsyntax_parser → Int → Option (TNode × Tsyntax_parser)) (y : TNode) : Prop :=
  ∀ (d g m m' i : Nat) (c : Con) (E : List Con), formB S.length y d g = true → d ≤ 20 → metS y m = some m' → m ≤ S.length → ahead L i = tokN S y ++ c :: E → stopC c →
    self (stP L i (S.take m) R) (d : Int) = some (y, stP L (i + (tokN S y).length) (S.take m') R)
theorem partP {self : Tsyntax_parser → Int → Option (TNode × Tsyntax_parser)} {F : Nat} (hself : ∀ y, nsize y ≤ F → ReadsN L S R self y) (hL : L.length ≤ 1000000) (hS : NormS S) (hS60 : S.length ≤ 60) (hn : S.Nodup)
    {x : TNode} {d g m m' i : Nat} (hsz : nsize x ≤ F + 1) (hop : openB 0 x = true → nsize x ≤ F) (hf : formB S.length x (moreN 0 x d) g = true) (hd : moreN 0 x d ≤ 20) (hm : metS x m = some m') (hmS : m ≤ S.length)
    (h : ahead L i = item S x ++ c :: E) (hc : plainC c = true) :
    syntax_parser_part self (stP L i (S.take m) R) (d : Int) = some (x, stP L (i + (item S x).length) (S.take m') R) := by
  obtain ⟨y, js, e1, e2, e3, e4, e5, ⟨g', e6⟩, e7, e8, e9⟩ := unroll x d g hf hd
  have hjs : 0 + js.length ≤ 3 := by
    rcases e3 with rfl | e3
    · simp
    · omega
  rw [e9] at hm
  have hky : y.Kind = 1 ∨ openB 0 y = true := by
    by_cases h1 : y.Kind = 1
    · exact .inl h1
    · right
      rw [formB_eq, if_neg h1] at e6
      simp only [Bool.and_eq_true, decide_eq_true_eq] at e6
      have hfit := e6.2.1
      unfold fitsB at hfit
      unfold openB
      by_cases h0 : y.Kind = 0
      · simp [h0]
      · by_cases h2 : y.Kind = 2
        · simp [h2]
        · rw [if_neg h0, if_neg h2, e2] at hfit; cases hfit
  have hjl : (js.flatMap sigC).length = js.length := by
    have : ∀ l : List Int, (∀ j ∈ l, signK j = true) → (l.flatMap sigC).length = l.length := by
      intro l
      induction l with
      | nil => intro _; rfl
      | cons j l ih =>
        intro hj
        have h1 := hj j (by simp)
        unfold signK at h1
        simp only [Bool.and_eq_true, decide_eq_true_eq] at h1
        have : j = 3 ∨ j = 4 ∨ j = 5 := by omega
        rw [List.flatMap_cons, List.length_append, ih fun x hx => hj x (List.mem_cons_of_mem _ hx), List.length_cons]
        rcases this with rfl | rfl | rfl <;> simp [sigC] <;> omega
    exact this js e4
  rw [e5, List.append_assoc] at h
  have hlenx : (item S x).length = (item S y).length + js.length := by rw [e5, List.length_append, hjl]
  -- what comes behind the beginning
  have fin : ∀ (i' : Nat) (S' : List (List TRange)), ahead L i' = js.flatMap sigC ++ c :: E → syntax_parser_part.k1 y.Kind y.Set y.Kids L (i' : Int) 0 S' R [] = some (x, stP L (i' + js.length) S' R) := fun i' S' h' => by
    unfold syntax_parser_part.k1
    have hy : (TNode.mk y.Kind y.Set y.Kids) = y := by cases y; rfl
    rw [hy, ends_eq e2, Option.bind_some, e1]
    exact signsP hL js 0 y i' e4 hjs h' hc
  rcases hky with h1 | h1
  · have hit : item S y = [conSet (S.getD y.Set.toNat [])] := by
      unfold item wrapC openB
      rw [h1]
      simp only [show ¬ ((1 : Int) = 2) by decide, show ¬ ((1 : Int) = 0) by decide, decide_false, Bool.false_or, Bool.false_and, Bool.false_eq_true, if_false]
      rw [tokN_eq, if_pos h1]
    rw [hit, List.singleton_append] at h
    rw [formB_eq, if_pos h1] at e6
    simp only [Bool.and_eq_true, decide_eq_true_eq] at e6
    obtain ⟨hemp, hs0, hs1⟩ := e6
    obtain ⟨hget, _, _⟩ := norm_at hS hs0 hs1
    rw [metS_eq, if_pos h1] at hm
    split at hm
    · cases hm
    · rename_i hle
      obtain rfl := Option.some.inj hm
      unfold syntax_parser_part
      rw [isP h, Option.bind_some, isC_set, if_neg (by simp), setP h, Option.bind_some]
      simp only
      rw [if_neg (by simp), numberP hS60 (fun x hx => (hS x hx).2) hn hget (by omega) hmS, Option.bind_some]
      obtain ⟨_, _, _, h2, hi⟩ := ahead_cons h
      have hk1 := fin (i + 1) (S.take (max m (y.Set.toNat + 1))) h2
      have hKids : y.Kids = [] := by simpa using hemp
      rw [h1, hKids] at hk1
      have hset : ((y.Set.toNat : Nat) : Int) = y.Set := by omega
      simp only [stP] at hk1 ⊢
      refine (if_pos (by rfl)).trans ?_
      rw [wrapI (by omega), hset, hk1]
      rw [hlenx, hit, List.length_singleton, show i + 1 + js.length = i + (1 + js.length) by omega]
  · have hit : item S y = conSg 40 :: (tokN S y ++ [conSg 41]) := by unfold item wrapC; rw [if_pos h1]
    have hdy : moreN 0 y d = d + 1 := by unfold moreN; rw [if_pos h1]
    rw [hdy] at e6 e7
    have hszy : nsize y ≤ F := by
      rcases e8 with ⟨_, e8⟩ | e8
      · rw [← e8] at h1 ⊢; exact hop h1
      · omega
    rw [hit, List.cons_append, List.append_assoc] at h
    obtain ⟨_, _, _, h2, hi⟩ := ahead_cons h
    have hread := hself y hszy (d + 1) g' m m' (i + 1) (conSg 41) (js.flatMap sigC ++ c :: E) e6 e7 hm hmS (by rw [h2]; rfl) (.inl rfl)
    have h3 := ahead_app (A := tokN S y) (D := conSg 41 :: (js.flatMap sigC ++ c :: E)) (by rw [h2]; rfl)
    obtain ⟨_, _, _, h4, _⟩ := ahead_cons h3
    unfold syntax_parser_part
    rw [isP h, Option.bind_some]
    have h40 : isC (conSg 40) [40] = true := rfl
    rw [h40, if_pos rfl]
    unfold syntax_deeper_api_Node
    rw [if_neg (by simp; omega)]
    unfold syntax_closed_api_Node_1
    have hst : (Tsyntax_parser.mk (Tsyntax_tokens.mk (stP L i (S.take m) R).tokens.list (IntKind.i64.wrap ((stP L i (S.take m) R).tokens.place + (1 : Int))) (stP L i (S.take m) R).tokens.fault) (stP L i (S.take m) R).names (stP L i (S.take m) R).program) = stP L (i + 1) (S.take m) R := by
      simp only [stP]; rw [wrapI (by omega)]
    rw [hst, wrapI (by omega), hread, Option.bind_some]
    simp only
    rw [takeP hL h3 (by rfl), Option.bind_some, Option.bind_some, Option.bind_some]
    have hk1 := fin (i + 1 + (tokN S y).length + 1) (S.take m') h4
    simp only [stP] at hk1 ⊢
    rw [hk1, hlenx, hit]
    simp only [List.length_cons, List.length_append, List.length_nil]
    rw [show i + 1 + (tokN S y).length + 1 + js.length = i + ((tokN S y).length + (0 + 1) + 1 + js.length) by omega]
end
end Go.Val

/- part S10l -/
/- Plain lemmas: the parser on a printed expression's tokens: parts, one behind the other; one of many. -/
namespace Go.Val
noncomputable section
variable {L : List TToken} {S : List (List TRange)} {R : List TRule} {i : Nat} {c : Con} {D E : List Con}
def someN (k : Int) (l : List TNode) : TNode := if l.length = 1 then l.getD 0 ⟨0, 0, []⟩ else ⟨k, 0, l⟩
theorem some_eq (k : Int) (l : List TNode) : syntax_some k l = some (someN k l) := by
  unfold syntax_some someN
  by_cases h : l.length = 1
  · obtain ⟨y, rfl⟩ := one_kid h
    rfl
  · rw [if_neg (by simp; omega), if_neg h]
theorem begins (h : ahead L i = c :: D) : ((if ((0 : Int) == (0 : Int)) then
        (syntax_tokens_now (Tsyntax_parser.mk (Tsyntax_tokens.mk L (i : Int) 0) [] (TProgram.mk S R))).bind fun r1 =>
        if (r1.Kind == (3 : Int)) then
          some true
        else
          (syntax_tokens_now (Tsyntax_parser.mk (Tsyntax_tokens.mk L (i : Int) 0) [] (TProgram.mk S R))).bind fun r2 =>
          if (r2.Kind == (1 : Int)) then
            some true
          else
            (syntax_tokens_is (Tsyntax_parser.mk (Tsyntax_tokens.mk L (i : Int) 0) [] (TProgram.mk S R)) ([46] : Str)).bind fun r3 =>
            if r3 then
              some true
            else
              (syntax_tokens_is (Tsyntax_parser.mk (Tsyntax_tokens.mk L (i : Int) 0) [] (TProgram.mk S R)) ([40] : Str)).bind fun r4 =>
              some r4
      else
        some false) : Option Bool) = some (c.1 == 3 || (c.1 == 1 || (isC c [46] || isC c [40]))) := by
  obtain ⟨t, h1, h2⟩ := nowP (S := S) (R := R) h
  have h3 := isP (S := S) (R := R) h [46]
  have h4 := isP (S := S) (R := R) h [40]
  simp only [stP] at h1 h3 h4
  rw [if_pos (by rfl), h1, Option.bind_some, Option.bind_some, h3, Option.bind_some, h4, Option.bind_some]
  subst h2
  have e : (con t).1 = t.Kind := rfl
  rw [e]
  cases (t.Kind == 3) <;> cases (t.Kind == 1) <;> cases isC (con t) [46] <;> simp
theorem item_head {x : TNode} {d g : Nat} (hf : formB S.length x (moreN 0 x d) g = true) (hd : moreN 0 x d ≤ 20) : ∃ c D, item S x = c :: D ∧ ((∃ s, c = conSet s) ∨ c = conSg 40) := by
  obtain ⟨y, js, e1, e2, e3, e4, e5, ⟨g', e6⟩, e7, e8, e9⟩ := unroll x d g hf hd
  rw [e5]
  by_cases h1 : y.Kind = 1
  · have hit : item S y = [conSet (S.getD y.Set.toNat [])] := by
      unfold item wrapC openB
      rw [h1]
      simp only [show ¬ ((1 : Int) = 2) by decide, show ¬ ((1 : Int) = 0) by decide, decide_false, Bool.false_or, Bool.false_and, Bool.false_eq_true, if_false]
      rw [tokN_eq, if_pos h1]
    rw [hit]
    exact ⟨_, _, rfl, .inl ⟨_, rfl⟩⟩
  · rw [formB_eq, if_neg h1] at e6
    simp only [Bool.and_eq_true, decide_eq_true_eq] at e6
    have hfit := e6.2.1
    unfold fitsB at hfit
    have hop : openB 0 y = true := by
      unfold openB
      by_cases h0 : y.Kind = 0
      · simp [h0]
      · by_cases h2 : y.Kind = 2
        · simp [h2]
        · rw [if_neg h0, if_neg h2, e2] at hfit; cases hfit
    have hit : item S y = conSg 40 :: (tokN S y ++ [conSg 41]) := by unfold item wrapC; rw [if_pos hop]
    rw [hit]
    exact ⟨_, _, rfl, .inr rfl⟩
theorem head_begins {c : Con} (h : (∃ s, c = conSet s) ∨ c = conSg 40) : (c.1 == 3 || (c.1 == 1 || (isC c [46] || isC c [40]))) = true ∧ plainC c = true := by
  rcases h with ⟨s, rfl⟩ | rfl
  · exact ⟨rfl, rfl⟩
  · exact ⟨by decide, by decide⟩
/-- What ends one of many. -/
def endC (c : Con) : Prop := stopC c ∨ c = conSg 124
theorem end_not {c : Con} (h : endC c) : (c.1 == 3 || (c.1 == 1 || (isC c [46] || isC c [40]))) = false ∧ plainC c = true := by
  rcases h with (rfl | rfl | rfl) | rfl <;> exact ⟨by decide, by decide⟩
/-- A part that may be read. -/
def PartOk (S : List (List TRange)) (F d : Nat) (x : TNode) : Prop := nsize x ≤ F + 1 ∧ (openB 0 x = true → nsize x ≤ F) ∧ (∃ g, formB S.length x (moreN 0 x d) g = true) ∧ moreN 0 x d ≤ 20
section
variable {self : Tsyntax_parser → Int → Option (TNode × Tsyntax_parser)} {F : Nat} (hself : ∀ y, nsize y ≤ F → ReadsN L S R self y) (hL : L.length ≤ 1000000) (hS : NormS S) (hS60 : S.length ≤ 60) (hn : S.Nodup)
include hself hL hS hS60 hn
theorem catL {d : Nat} : ∀ (xs l : List TNode) (m m' i : Nat), (∀ x ∈ xs, PartOk S F d x) → metL xs m = some m' → m ≤ S.length → l.length + xs.length ≤ 1000000 → ahead L i = xs.flatMap (item S) ++ c :: E → endC c →
    Loop (syntax_parser_cat.b1 self (d : Int)) (l, L, (i : Int), 0, S.take m, R, []) = some (someN 0 (l ++ xs), stP L (i + (xs.flatMap (item S)).length) (S.take m') R)
  | [], l, m, m', i, _, hm, _, _, h, hc => by
    have hb := begins (S := S.take m) (R := R) (D := E) (c := c) h
    rw [(end_not hc).1] at hb
    rw [metL, Option.some.injEq] at hm
    subst hm
    refine Loop_done ?_
    simp only [syntax_parser_cat.b1]
    rw [hb, Option.bind_some, if_neg (by simp)]
    unfold syntax_parser_cat.k1
    rw [some_eq]
    simp [stP]
  | x :: xs, l, m, m', i, hx, hm, hmS, hl, h, hc => by
    obtain ⟨h1, h2, ⟨g, h3⟩, h4⟩ := hx x (by simp)
    rw [metL, Option.bind_eq_some_iff] at hm
    obtain ⟨m1, hm1, hm2⟩ := hm
    have hm1S : m1 ≤ S.length := metS_le S.length x _ _ m m1 h3 hmS hm1
    obtain ⟨c0, D0, hc0, hh⟩ := item_head h3 h4
    rw [List.flatMap_cons, List.append_assoc] at h
    have hb := begins (S := S.take m) (R := R) (D := D0 ++ (xs.flatMap (item S) ++ c :: E)) (c := c0) (i := i) (L := L) (by rw [h, hc0]; rfl)
    rw [(head_begins hh).1] at hb
    -- what follows
    have hnext : ∃ c1 E1, xs.flatMap (item S) ++ c :: E = c1 :: E1 ∧ plainC c1 = true := by
      cases xs with
      | nil => exact ⟨c, E, rfl, (end_not hc).2⟩
      | cons z zs =>
        obtain ⟨_, _, ⟨gz, hz3⟩, hz4⟩ := hx z (by simp)
        obtain ⟨c1, D1, hc1, hh1⟩ := item_head hz3 hz4
        rw [List.flatMap_cons, hc1]
        exact ⟨c1, _, rfl, (head_begins hh1).2⟩
    obtain ⟨c1, E1, e1, hp1⟩ := hnext
    rw [e1] at h
    have hpart := partP hself hL hS hS60 hn h1 h2 h3 h4 hm1 hmS h hp1
    have h5 := ahead_app h
    have hstep : Loop (syntax_parser_cat.b1 self (d : Int)) (l, L, (i : Int), 0, S.take m, R, []) = Loop (syntax_parser_cat.b1 self (d : Int)) (l ++ [x], L, ((i + (item S x).length : Nat) : Int), 0, S.take m1, R, []) := by
      refine Loop_next ?_
      simp only [syntax_parser_cat.b1]
      rw [hb, Option.bind_some, if_pos rfl]
      simp only [stP] at hpart
      rw [hpart, Option.bind_some, room_ok (by simp at hl; omega), Option.bind_some]
    rw [hstep, catL xs (l ++ [x]) m1 m' _ (fun y hy => hx y (List.mem_cons_of_mem _ hy)) hm2 hm1S (by simp at hl ⊢; omega) (by rw [h5, e1]) hc]
    rw [List.append_assoc, List.flatMap_cons, List.length_append, Nat.add_assoc]
    rfl
/-- One of many, as it is read. -/
def altC (S : List (List TRange)) (y : TNode) : List Con := wrapC 2 y (tokN S y)
omit hself hL hS hS60 hn in
theorem alt_parts {y : TNode} {d g : Nat} (hf : formB S.length y (moreN 2 y d) g = true) (hd : moreN 2 y d ≤ 20) (hsz : nsize y ≤ F + 1) (hop : y.Kind = 2 → nsize y ≤ F) :
    ∃ xs : List TNode, altC S y = xs.flatMap (item S) ∧ someN 0 xs = y ∧ (∀ x ∈ xs, PartOk S F d x) ∧ (∀ a, metL xs a = metS y a) ∧ xs.length ≤ nsize y := by
  by_cases h0 : y.Kind = 0
  · have h2 : y.Kind ≠ 2 := by omega
    have h1 : y.Kind ≠ 1 := by omega
    have hop2 : openB 2 y = false := by unfold openB; simp [h2]
    have hm2 : moreN 2 y d = d := by unfold moreN; rw [hop2]; simp
    rw [hm2, formB_eq, if_neg h1] at hf
    simp only [Bool.and_eq_true, decide_eq_true_eq] at hf
    obtain ⟨hset, hfit, hg3, hfl⟩ := hf
    have hlen : y.Kids.length ≠ 1 := by
      unfold fitsB at hfit
      rw [if_pos h0] at hfit
      simpa using hfit
    have hy : y = ⟨0, 0, y.Kids⟩ := by
      have : y = ⟨y.Kind, y.Set, y.Kids⟩ := by cases y; rfl
      rw [hset, h0] at this; exact this
    refine ⟨y.Kids, ?_, ?_, fun x hx => ?_, fun a => ?_, kids_le y⟩
    · unfold altC wrapC
      rw [hop2, if_neg (by simp), tokN_eq, if_neg h1, h0]
      unfold joinC sigC
      rw [if_neg (by decide), if_neg (by decide), if_neg (by decide), if_neg (by decide), List.append_nil, tokL_map, List.flatMap_def]
      rfl
    · unfold someN
      rw [if_neg hlen]; exact hy.symm
    · have hk := nsize_kid hx
      have hfx := formL_mem hfl hx
      rw [h0] at hfx
      refine ⟨by omega, fun _ => by omega, ⟨_, hfx⟩, ?_⟩
      have : ∀ (l : List TNode) (d g : Nat), formL S.length 0 l d g = true → ∀ z ∈ l, moreN 0 z d ≤ 20 := by
        intro l
        induction l with
        | nil => intro _ _ _ z hz; cases hz
        | cons w l ih =>
          intro d g hl z hz
          rw [formL] at hl
          simp only [Bool.and_eq_true, decide_eq_true_eq] at hl
          rcases List.mem_cons.1 hz with rfl | hz
          · exact hl.1
          · exact ih d g hl.2.2 z hz
      rw [h0] at hfl
      exact this _ _ _ hfl x hx
    · rw [metS_eq, if_neg h1]
  · have hmm : moreN 2 y d = moreN 0 y d := by unfold moreN openB; simp [h0]
    have hii : altC S y = item S y := by unfold altC item wrapC openB; simp [h0]
    rw [hmm] at hf hd
    refine ⟨[y], by rw [hii]; simp, rfl, fun x hx => ?_, fun a => ?_, ?_⟩
    · rw [List.mem_singleton.1 hx]
      refine ⟨hsz, fun ho => hop ?_, ⟨_, hf⟩, hd⟩
      unfold openB at ho
      simpa [h0] using ho
    · rw [metL]
      cases metS y a with
      | none => rfl
      | some m => simp [metL]
    · have := nsize_pos y; simp; omega
theorem catP {y : TNode} {d g m m' i : Nat} (hf : formB S.length y (moreN 2 y d) g = true) (hd : moreN 2 y d ≤ 20) (hsz : nsize y ≤ F + 1) (hop : y.Kind = 2 → nsize y ≤ F) (h1000 : nsize y ≤ 100000) (hm : metS y m = some m') (hmS : m ≤ S.length)
    (h : ahead L i = altC S y ++ c :: E) (hc : endC c) : syntax_parser_cat self (stP L i (S.take m) R) (d : Int) = some (y, stP L (i + (altC S y).length) (S.take m') R) := by
  obtain ⟨xs, e1, e2, e3, e4, e5⟩ := alt_parts (F := F) hf hd hsz hop
  rw [e1] at h ⊢
  have := catL hself hL hS hS60 hn xs [] m m' i e3 (by rw [e4]; exact hm) hmS (by simp; omega) h hc
  rw [List.nil_append, e2] at this
  exact this
theorem altsL {d : Nat} : ∀ (ys l : List TNode) (m m' i : Nat), (∀ y ∈ ys, (∃ g, formB S.length y (moreN 2 y d) g = true) ∧ moreN 2 y d ≤ 20 ∧ nsize y ≤ F ∧ nsize y ≤ 100000) → metL ys m = some m' → m ≤ S.length → l.length + ys.length ≤ 1000000 →
    ahead L i = (ys.map fun y => conSg 124 :: altC S y).flatten ++ c :: E → stopC c →
    Loop (syntax_parser_regex.b1 self (d : Int)) (l, L, (i : Int), 0, S.take m, R, []) = some (someN 2 (l ++ ys), stP L (i + (ys.map fun y => conSg 124 :: altC S y).flatten.length) (S.take m') R)
  | [], l, m, m', i, _, hm, _, _, h, hc => by
    have hb := isP (S := S.take m) (R := R) (D := E) (c := c) (i := i) (L := L) h [124]
    have h0 : isC c [124] = false := by rcases hc with rfl | rfl | rfl <;> decide
    rw [h0] at hb
    rw [metL, Option.some.injEq] at hm
    subst hm
    refine Loop_done ?_
    simp only [syntax_parser_regex.b1]
    simp only [stP] at hb
    rw [hb, Option.bind_some, if_neg (by simp)]
    unfold syntax_parser_regex.k1
    rw [some_eq]
    simp [stP]
  | y :: ys, l, m, m', i, hx, hm, hmS, hl, h, hc => by
    obtain ⟨⟨g, h1⟩, h2, h3, h4⟩ := hx y (by simp)
    rw [metL, Option.bind_eq_some_iff] at hm
    obtain ⟨m1, hm1, hm2⟩ := hm
    have hm1S : m1 ≤ S.length := metS_le S.length y _ _ m m1 h1 hmS hm1
    rw [List.map_cons, List.flatten_cons, List.cons_append, List.cons_append, List.append_assoc] at h
    have hb := isP (S := S.take m) (R := R) h [124]
    have h0 : isC (conSg 124) [124] = true := rfl
    rw [h0] at hb
    obtain ⟨_, _, _, h5, hi⟩ := ahead_cons h
    have hnext : ∃ c1 E1, (ys.map fun y => conSg 124 :: altC S y).flatten ++ c :: E = c1 :: E1 ∧ endC c1 := by
      cases ys with
      | nil => exact ⟨c, E, rfl, .inl hc⟩
      | cons z zs => exact ⟨conSg 124, _, rfl, .inr rfl⟩
    obtain ⟨c1, E1, e1, hc1⟩ := hnext
    rw [e1] at h5
    have hcat := catP hself hL hS hS60 hn h1 h2 (by omega) (fun _ => h3) h4 hm1 hmS h5 hc1
    have h6 := ahead_app h5
    have hstep : Loop (syntax_parser_regex.b1 self (d : Int)) (l, L, (i : Int), 0, S.take m, R, []) = Loop (syntax_parser_regex.b1 self (d : Int)) (l ++ [y], L, ((i + 1 + (altC S y).length : Nat) : Int), 0, S.take m1, R, []) := by
      refine Loop_next ?_
      simp only [syntax_parser_regex.b1]
      simp only [stP] at hb hcat
      rw [hb, Option.bind_some, if_pos rfl, wrapI (by omega), hcat, Option.bind_some, room_ok (by simp at hl; omega), Option.bind_some]
    rw [hstep, altsL ys (l ++ [y]) m1 m' _ (fun z hz => hx z (List.mem_cons_of_mem _ hz)) hm2 hm1S (by simp at hl ⊢; omega) (by rw [h6, e1]) hc]
    rw [List.append_assoc, List.map_cons, List.flatten_cons, List.length_append, List.length_cons, show i + 1 + (altC S y).length + (ys.map fun y => conSg 124 :: altC S y).flatten.length = i + ((altC S y).length + 1 + (ys.map fun y => conSg 124 :: altC S y).flatten.length) by omega]
    rfl
end
/-- Expressions are read. -/
theorem regexR (hL : L.length ≤ 1000000) (hS : NormS S) (hS60 : S.length ≤ 60) (hn : S.Nodup) : ∀ (fu : Nat) (n : TNode), nsize n ≤ fu → nsize n ≤ 100000 → ReadsN L S R (syntax_parser_regex.r fu) n
  | 0, n, h, _ => absurd h (by have := nsize_pos n; omega)
  | fu + 1, n, hsz, h1000 => by
    intro d g m m' i c E hf hd hm hmS h hc
    have hself : ∀ y, nsize y ≤ min fu 100000 → ReadsN L S R (syntax_parser_regex.r fu) y := fun y hy => regexR hL hS hS60 hn fu y (by omega) (by omega)
    show ((syntax_parser_cat (syntax_parser_regex.r fu) (stP L i (S.take m) R) (d : Int)).bind fun r => Loop (syntax_parser_regex.b1 (syntax_parser_regex.r fu) (d : Int)) ([r.1], r.2.tokens.list, r.2.tokens.place, r.2.tokens.fault, r.2.program.Sets, r.2.program.Rules, r.2.names)) = _
    by_cases h2 : n.Kind = 2
    · have h1 : n.Kind ≠ 1 := by omega
      rw [formB_eq, if_neg h1] at hf
      simp only [Bool.and_eq_true, decide_eq_true_eq] at hf
      obtain ⟨hset, hfit, hg3, hfl⟩ := hf
      have hlen : 1 < n.Kids.length := by
        unfold fitsB at hfit
        rw [if_neg (by omega), if_pos h2] at hfit
        simpa using hfit
      have hn0 : n = ⟨2, 0, n.Kids⟩ := by
        have : n = ⟨n.Kind, n.Set, n.Kids⟩ := by cases n; rfl
        rw [hset, h2] at this; exact this
      cases hk : n.Kids with
      | nil => rw [hk] at hlen; cases hlen
      | cons y ys =>
        have hkid : ∀ z ∈ y :: ys, (∃ g, formB S.length z (moreN 2 z d) g = true) ∧ moreN 2 z d ≤ 20 ∧ nsize z ≤ min fu 100000 ∧ nsize z ≤ 100000 := by
          intro z hz
          have hz' : z ∈ n.Kids := by rw [hk]; exact hz
          have hs := nsize_kid hz'
          have hfz := formL_mem hfl hz'
          rw [h2] at hfz hfl
          have hdz : ∀ (l : List TNode) (d g : Nat), formL S.length 2 l d g = true → ∀ w ∈ l, moreN 2 w d ≤ 20 := by
            intro l
            induction l with
            | nil => intro _ _ _ w hw; cases hw
            | cons v l ih =>
              intro d g hl w hw
              rw [formL] at hl
              simp only [Bool.and_eq_true, decide_eq_true_eq] at hl
              rcases List.mem_cons.1 hw with rfl | hw
              · exact hl.1
              · exact ih d g hl.2.2 w hw
          exact ⟨⟨_, hfz⟩, hdz _ _ _ hfl z hz', by omega, by omega⟩
        have ht : tokN S n = altC S y ++ (ys.map fun y => conSg 124 :: altC S y).flatten := by
          rw [tokN_eq, if_neg h1, h2, hk]
          unfold joinC sigC
          rw [if_pos rfl, if_neg (by decide), if_neg (by decide), if_neg (by decide), List.append_nil, tokL, tokL_map]
          unfold barC
          simp only [List.map_map]
          rfl
        rw [metS_eq, if_neg h1, hk, metL, Option.bind_eq_some_iff] at hm
        obtain ⟨m1, hm1, hm2⟩ := hm
        obtain ⟨⟨gy, q1⟩, q2, q3, q4⟩ := hkid y (by simp)
        have hm1S : m1 ≤ S.length := metS_le S.length y _ _ m m1 q1 hmS hm1
        rw [ht, List.append_assoc] at h
        have hnext : ∃ c1 E1, (ys.map fun y => conSg 124 :: altC S y).flatten ++ c :: E = c1 :: E1 ∧ endC c1 := by
          cases ys with
          | nil => exact ⟨c, E, rfl, .inl hc⟩
          | cons z zs => exact ⟨conSg 124, _, rfl, .inr rfl⟩
        obtain ⟨c1, E1, e1, hc1⟩ := hnext
        have hcat := catP hself hL hS hS60 hn q1 q2 (by omega) (fun _ => q3) q4 hm1 hmS (h.trans (by rw [e1])) hc1
        have h6 := ahead_app h
        have hkl := kids_le n
        rw [hk, List.length_cons] at hkl
        have hloop := altsL hself hL hS hS60 hn ys [y] m1 m' _ (fun z hz => hkid z (List.mem_cons_of_mem _ hz)) hm2 hm1S (by simp; omega) h6 hc
        rw [hcat, Option.bind_some]
        simp only [stP] at hloop ⊢
        rw [hloop, ht, List.length_append, Nat.add_assoc]
        have hs2 : someN 2 ([y] ++ ys) = n := by
          unfold someN
          rw [if_neg (by rw [hk] at hlen; simp only [List.length_cons, List.length_append, List.length_nil] at hlen ⊢; omega)]
          rw [hn0, hk]; rfl
        rw [hs2]
    · have hop : openB 2 n = false := by unfold openB; simp [h2]
      have hm2 : moreN 2 n d = d := by unfold moreN; rw [hop]; simp
      have ht : altC S n = tokN S n := by unfold altC wrapC; rw [hop]; simp
      have hcat := catP (F := min fu 100000) hself hL hS hS60 hn (y := n) (d := d) (g := g) (m := m) (m' := m') (i := i) (c := c) (E := E) (by rw [hm2]; exact hf) (by rw [hm2]; exact hd) (by omega) (fun e => absurd e h2) h1000 hm hmS (by rw [ht]; exact h) (.inl hc)
      rw [ht] at hcat
      have h6 := ahead_app h
      have hmS' : m' ≤ S.length := metS_le S.length n _ _ m m' hf hmS hm
      have hloop := altsL (d := d) (F := min fu 100000) hself hL hS hS60 hn [] [n] m' m' _ (fun z hz => by cases hz) rfl hmS' (by simp) (c := c) (E := E) (by rw [h6]; rfl) hc
      rw [hcat, Option.bind_some]
      simp only [stP] at hloop ⊢
      rw [hloop]
      rfl
theorem regexP (hL : L.length ≤ 1000000) (hS : NormS S) (hS60 : S.length ≤ 60) (hn : S.Nodup) {n : TNode} (h : nsize n ≤ 100000) : ReadsN L S R syntax_parser_regex n := by
  intro d g m m' i c E hf hd hm hmS ha hc
  exact lim_eq (nsize n) fun fu hfu => regexR hL hS hS60 hn fu n hfu h d g m m' i c E hf hd hm hmS ha hc
end
end Go.Val

/- part Q35l -/
/- Plain lemmas: how many tokens there are. -/
namespace Go.Val
noncomputable section
variable {us : List TUnit} {b : List UInt8}
/-- What is so of each token that is read. -/
theorem tks_all (hl : b.length ≤ 1048576) {P : TToken → Prop} (hP : ∀ {us t r}, us <:+ units b → TokOk b us t r → P t) : ∀ (k : Nat) {us : List TUnit}, us <:+ units b → ∀ {ts r}, tkS b k us = .ok ts r → (∀ t ∈ ts, P t) ∧ ts.length ≤ us.length
  | 0, us, _, _, _, e => by cases e
  | k + 1, us, h, ts, r, e => by
    simp only [tkS] at e
    cases us with
    | nil => simp at e; obtain ⟨rfl, rfl⟩ := e; simp
    | cons u us =>
      simp only [List.isEmpty_cons, Bool.false_eq_true, if_false] at e
      cases ht : tokS b (u :: us) with
      | err c r' => rw [ht] at e; cases e
      | ok t r' =>
        rw [ht] at e
        have hk := tok_ok hl h ht
        have hr := (blk_suf false r').trans (hk.suf.trans h)
        simp only at e
        cases ht2 : tkS b k (blk false r') with
        | err c r2 => rw [ht2] at e; cases e
        | ok ts2 r2 =>
          rw [ht2] at e
          simp only [Pr.ok.injEq] at e
          obtain ⟨rfl, rfl⟩ := e
          obtain ⟨h1, h2⟩ := tks_all hl hP k hr ht2
          have hlb := blk_len r'
          have := hk.less
          exact ⟨fun x hx => by rcases List.mem_cons.1 hx with rfl | hx; exact hP h hk; exact h1 x hx, by simp at this ⊢; omega⟩
theorem Tk_norm (hl : b.length ≤ 1048576) : (∀ t ∈ (Tk b).1, Norm t.Set) ∧ (Tk b).1.length ≤ b.length + 1 := by
  unfold Tk
  have hul := (from_all b).len
  have hlb := blk_len (units b)
  cases e : tkS b (b.length + 1) (blk false (units b)) with
  | err c r => simp
  | ok ts r =>
    obtain ⟨h1, h2⟩ := tks_all hl (P := fun t => Norm t.Set) (fun _ h => h.norm) _ (blk_suf false _) e
    refine ⟨fun t ht => ?_, by simp; omega⟩
    rcases List.mem_append.1 ht with ht | ht
    · exact h1 t ht
    · rw [List.mem_singleton.1 ht]; exact norm_nil
end
end Go.Val

/- part S11l -/
/- Plain lemmas: the parser on a printed program; a program is the same as itself; the law. -/
namespace Go.Val
noncomputable section
variable {L : List TToken} {S : List (List TRange)} {R : List TRule} {i : Nat} {c : Con} {D E : List Con}
theorem ruleP (hL : L.length ≤ 1000000) (hS : NormS S) (hS60 : S.length ≤ 60) (hn : S.Nodup) {r : TRule} (h1 : nsize r.Left ≤ 1000) (h2 : nsize r.Right ≤ 1000) (hf1 : formB S.length r.Left 0 0 = true) (hf2 : formB S.length r.Right 0 0 = true)
    {m m1 m2 : Nat} (hm1 : metS r.Left m = some m1) (hm2 : metS r.Right m1 = some m2) (hm : m ≤ S.length) (hR : R.length < 64) (h : ahead L i = ruleC S r ++ E) :
    syntax_parser_rule (stP L i (S.take m) R) = some (stP L (i + (ruleC S r).length) (S.take m2) (R ++ [r])) := by
  have hm1S : m1 ≤ S.length := metS_le S.length _ _ _ m m1 hf1 hm hm1
  unfold ruleC at h
  rw [List.cons_append, List.append_assoc, List.cons_append, List.append_assoc, List.singleton_append] at h
  obtain ⟨t, hnow, hcon⟩ := nowP (S := S.take m) (R := R) h
  obtain ⟨_, _, _, g1, hi⟩ := ahead_cons h
  have hl := regexP (R := R) hL hS hS60 hn (n := r.Left) (by omega) 0 0 m m1 (i + 1) (conSg 47) (tokN S r.Right ++ conSg 59 :: E) hf1 (by omega) hm1 hm g1 (.inr (.inl rfl))
  have g2 := ahead_app g1
  obtain ⟨_, _, _, g3, _⟩ := ahead_cons g2
  have hr := regexP (R := R) hL hS hS60 hn (n := r.Right) (by omega) 0 0 m1 m2 (i + 1 + (tokN S r.Left).length + 1) (conSg 59) E hf2 (by omega) hm2 hm1S g3 (.inr (.inr rfl))
  have g4 := ahead_app g3
  unfold syntax_parser_rule
  have hlt : ((stP L i (S.take m) R).program.Rules.length : Int) < 64 := by simp only [stP]; omega
  rw [if_neg (by simp only [ge_iff_le, decide_eq_true_eq]; omega), hnow, Option.bind_some]
  have hst : (Tsyntax_parser.mk (Tsyntax_tokens.mk (stP L i (S.take m) R).tokens.list (IntKind.i64.wrap ((stP L i (S.take m) R).tokens.place + (1 : Int))) (stP L i (S.take m) R).tokens.fault) (stP L i (S.take m) R).names (stP L i (S.take m) R).program) = stP L (i + 1) (S.take m) R := by
    simp only [stP]; rw [wrapI (by omega)]
  have e0 : ((0 : Nat) : Int) = 0 := rfl
  rw [e0] at hl hr
  rw [hst, hl, Option.bind_some]
  simp only
  rw [takeP hL g2 (by rfl), Option.bind_some, hr, Option.bind_some]
  simp only
  rw [takeP hL g4 (by rfl), Option.bind_some]
  have hlen : (stP L (i + 1 + (tokN S r.Left).length + 1 + (tokN S r.Right).length + 1) (S.take m2) R).program.Rules.length = R.length := rfl
  rw [hlen, room_ok (by omega), Option.bind_some]
  have htx : (t.Text == ([98, 114, 101, 97, 107] : Str)) = r.Break := by
    simp only [con, wordC, Prod.mk.injEq] at hcon
    rw [hcon.2.1]
    cases r.Break <;> rfl
  rw [htx]
  simp only [stP]
  have hrr : (TRule.mk r.Break r.Left r.Right) = r := by cases r; rfl
  rw [hrr]
  unfold ruleC
  simp only [List.length_cons, List.length_append, List.length_nil]
  rw [show i + 1 + (tokN S r.Left).length + 1 + (tokN S r.Right).length + 1 = i + ((tokN S r.Left).length + ((tokN S r.Right).length + (0 + 1) + 1) + 1) by omega]
theorem parseL (hL : L.length ≤ 1000000) (hS : NormS S) (hS60 : S.length ≤ 60) (hn : S.Nodup) : ∀ (rest R : List TRule) (m q i : Nat), (∀ r ∈ rest, nsize r.Left ≤ 1000 ∧ nsize r.Right ≤ 1000) → rulesP S.length rest m = some q → m ≤ S.length → R.length + rest.length ≤ 64 →
    ahead L i = rest.flatMap (ruleC S) ++ [(4, [], [])] → Loop syntax_Parse.b1 ([], L, (i : Int), 0, S.take m, R) = some (⟨S.take q, R ++ rest⟩, 0, 0)
  | [], R, m, q, i, _, hq, _, _, h => by
    rw [rulesP, Option.some.injEq] at hq
    subst hq
    rw [List.flatMap_nil, List.nil_append] at h
    obtain ⟨t, hnow, hcon⟩ := nowP (S := S.take m) (R := R) h
    have hk : t.Kind = 4 := by simp only [con, Prod.mk.injEq] at hcon; exact hcon.1
    refine Loop_done ?_
    simp only [syntax_Parse.b1]
    simp only [stP] at hnow
    rw [if_pos (by rfl), hnow, Option.bind_some, hk, Option.bind_some, if_neg (by decide)]
    unfold syntax_Parse.k1
    rw [if_neg (by decide)]
    simp
  | r :: rest, R, m, q, i, hs, hq, hm, hl, h => by
    rw [rulesP] at hq
    split at hq
    · rename_i hf
      simp only [Bool.and_eq_true] at hf
      simp only [Option.bind_eq_some_iff] at hq
      obtain ⟨m1, hm1, m2, hm2, hq⟩ := hq
      have hm1S : m1 ≤ S.length := metS_le S.length _ _ _ m m1 hf.1 hm hm1
      have hm2S : m2 ≤ S.length := metS_le S.length _ _ _ m1 m2 hf.2 hm1S hm2
      obtain ⟨s1, s2⟩ := hs r (by simp)
      rw [List.flatMap_cons, List.append_assoc] at h
      have hrule := ruleP hL hS hS60 hn s1 s2 hf.1 hf.2 hm1 hm2 hm (R := R) (by simp at hl; omega) h
      have h2 := ahead_app h
      obtain ⟨t, hnow, hcon⟩ := nowP (S := S.take m) (R := R) (c := wordC r) (D := (tokN S r.Left ++ conSg 47 :: (tokN S r.Right ++ [conSg 59])) ++ (rest.flatMap (ruleC S) ++ [(4, [], [])])) (L := L) (i := i) (by rw [h]; rfl)
      have hstep : Loop syntax_Parse.b1 ([], L, (i : Int), 0, S.take m, R) = Loop syntax_Parse.b1 ([], L, ((i + (ruleC S r).length : Nat) : Int), 0, S.take m2, R ++ [r]) := by
        refine Loop_next ?_
        simp only [syntax_Parse.b1]
        simp only [stP] at hnow hrule
        have hk : t.Kind = 1 := by simp only [con, wordC, Prod.mk.injEq] at hcon; exact hcon.1
        have htx : t.Text = if r.Break then [98, 114, 101, 97, 107] else [107, 101, 101, 112] := by simp only [con, wordC, Prod.mk.injEq] at hcon; exact hcon.2.1
        rw [if_pos (by rfl), hnow, Option.bind_some, hk, Option.bind_some, if_pos (by decide), Option.bind_some, if_neg (by rw [hk]; decide), htx]
        cases hb : r.Break with
        | true =>
          have hkept : syntax_kept [98, 114, 101, 97, 107] = some true := rfl
          rw [if_pos rfl, hkept, Option.bind_some, Option.bind_some, if_neg (by decide), if_neg (by decide), hrule, Option.bind_some]
          rfl
        | false =>
          have hkept : syntax_kept [107, 101, 101, 112] = some true := rfl
          rw [if_neg (by decide), hkept, Option.bind_some, Option.bind_some, if_neg (by decide), if_neg (by decide), hrule, Option.bind_some]
          rfl
      rw [hstep, parseL hL hS hS60 hn rest (R ++ [r]) m2 q _ (fun x hx => hs x (List.mem_cons_of_mem _ hx)) hq hm2S (by simp at hl ⊢; omega) h2]
      rw [List.append_assoc]; rfl
    · cases hq
/-- A printed program is parsed as that program. -/
theorem Parse_print {p : TProgram} (hf : FewP p) (hR : RightV p) (hb : (p.Rules.flatMap (ruleT p.Sets)).length ≤ 60000) : syntax_Parse (p.Rules.flatMap (ruleT p.Sets)) = some (p, 0, 0) := by
  obtain ⟨h60, h64, hnorm, hnd, hru⟩ := hR
  have hS : NormS p.Sets := fun s hs => ⟨hnorm s hs, hf.each s hs⟩
  obtain ⟨ts, h1, h2⟩ := Tk_prog (b := p.Rules.flatMap (ruleT p.Sets)) hS (fun r hr => rulesP_form hru r hr) rfl hb
  have hlen : ts.length ≤ 999999 := by
    have hl := congrArg (fun x => x.1.length) h2
    have hnb := (Tk_norm (b := p.Rules.flatMap (ruleT p.Sets)) (by omega)).2
    rw [h2] at hnb
    simp only [List.length_append, List.length_singleton] at hnb
    omega
  unfold syntax_Parse
  rw [Tokens_eq (by omega), h2, Option.bind_some]
  simp only
  rw [if_neg (by decide)]
  have := parseL (L := ts ++ [⟨4, ((p.Rules.flatMap (ruleT p.Sets)).length : Int), [], []⟩]) (by simp; omega) hS h60 hnd p.Rules [] 0 p.Sets.length 0 (fun r hr => by have := hf.nodes r hr; omega) hru (Nat.zero_le _) (by simpa using h64) (by
    unfold ahead
    rw [List.drop_zero, List.map_append, h1]
    rfl)
  rw [List.take_zero, List.take_length, List.nil_append] at this
  exact this
end
end Go.Val

/- part S12l -/
/- Plain lemmas: a program is the same as itself; the text of a program that may be is parsed as that program. -/
namespace Go.Val
noncomputable section
theorem SameNode_r : ∀ (fu : Nat) (n : TNode), nsize n ≤ fu → nsize n ≤ 1000 → scansionref08_SameNode.r fu n n = some true
  | 0, n, h, _ => absurd h (by have := nsize_pos n; omega)
  | fu + 1, n, h, h1 => by
    have hk := kids_le n
    show (if ((n.Kind != n.Kind) || ((n.Set != n.Set) || ((n.Kids.length : Int) != (n.Kids.length : Int)))) then some false else Loop (scansionref08_SameNode.b1 (scansionref08_SameNode.r fu) n n) (0 : Int)) = _
    rw [if_neg (by simp)]
    have hsc := Loop_scan (b := scansionref08_SameNode.b1 (scansionref08_SameNode.r fu) n n) (P := fun _ => True) (n := n.Kids.length) (bad := false) (R := some true) (fun j hj => by
      refine .inl ⟨trivial, ?_⟩
      have hm : n.Kids[j] ∈ n.Kids := List.getElem_mem hj
      have hs := nsize_kid hm
      simp only [scansionref08_SameNode.b1]
      rw [if_pos (by simpa using hj), idx_nat, List.getElem?_eq_getElem hj, Option.bind_some, Option.bind_some, SameNode_r fu _ (by omega) (by omega), Option.bind_some, if_neg (by decide), wrapI (by omega)]) (by
      simp only [scansionref08_SameNode.b1]
      rw [if_neg (by simp)]; rfl)
    rcases hsc with ⟨_, h2⟩ | ⟨h2, _⟩
    · exact h2
    · exact absurd (fun _ _ => trivial) h2
theorem SameNode_eq {n : TNode} (h : nsize n ≤ 1000) : scansionref08_SameNode n n = some true := lim_eq (nsize n) fun fu hfu => SameNode_r fu n hfu h
theorem Same_refl {p : TProgram} (hf : FewP p) : scansionref08_Same p p = some true := by
  unfold scansionref08_Same
  rw [if_neg (by simp)]
  have hrules : scansionref08_Same.k1 p p = some true := by
    unfold scansionref08_Same.k1
    have hr := hf.rules
    have hsc := Loop_scan (b := scansionref08_Same.b1 p p) (P := fun _ => True) (n := p.Rules.length) (bad := false) (R := some true) (fun j hj => by
      refine .inl ⟨trivial, ?_⟩
      obtain ⟨h1, h2⟩ := hf.nodes p.Rules[j] (List.getElem_mem hj)
      simp only [scansionref08_Same.b1]
      rw [if_pos (by simpa using hj), idx_nat, List.getElem?_eq_getElem hj, Option.bind_some, Option.bind_some, SameNode_eq (by omega), Option.bind_some, SameNode_eq (by omega), Option.bind_some, if_neg (by simp), wrapI (by omega)]) (by
      simp only [scansionref08_Same.b1]
      rw [if_neg (by simp)]; rfl)
    rcases hsc with ⟨_, h2⟩ | ⟨h2, _⟩
    · exact h2
    · exact absurd (fun _ _ => trivial) h2
  have hs := hf.sets
  have hsc := Loop_scan (b := scansionref08_Same.b2 p p) (P := fun _ => True) (n := p.Sets.length) (bad := false) (R := some true) (fun j hj => by
    refine .inl ⟨trivial, ?_⟩
    have h1 := hf.each p.Sets[j] (List.getElem_mem hj)
    simp only [scansionref08_Same.b2]
    rw [if_pos (by simpa using hj), idx_nat, List.getElem?_eq_getElem hj, Option.bind_some, Option.bind_some, Same_eq (by omega), Option.bind_some, if_neg (by simp), wrapI (by omega)]) (by
    simp only [scansionref08_Same.b2]
    rw [if_neg (by simp), hrules])
  rcases hsc with ⟨_, h2⟩ | ⟨h2, _⟩
  · exact h2
  · exact absurd (fun _ _ => trivial) h2
open Classical in
theorem SyntaxBack_of (p : TProgram) : scansionlaw08_SyntaxBack p = some true := by
  obtain ⟨b, hb, hF⟩ := few_eq p
  unfold scansionlaw08_SyntaxBack
  rw [show scansionlaw08_awake = some true from rfl, Option.bind_some, hb, Option.bind_some]
  cases b with
  | false => simp
  | true =>
    have hf := hF rfl
    rw [if_neg (by simp)]
    by_cases hR : RightV p
    · have hp : syntax_Print p = some (p.Rules.flatMap (ruleT p.Sets), 0) := by
        unfold syntax_Print
        rw [Right_prog hf, Option.bind_some, decide_eq_true hR, if_neg (by simp)]
        exact pPrint hf hR p.Rules.length 0 (by omega)
      rw [hp, Option.bind_some]
      simp only
      rw [if_neg (by decide)]
      by_cases hl : (p.Rules.flatMap (ruleT p.Sets)).length ≤ 60000
      · refine (if_neg (by simp only [gt_iff_lt, decide_eq_true_eq]; omega)).trans ?_
        rw [Parse_print hf hR hl, Option.bind_some, Same_refl hf, Option.bind_some]
        rfl
      · exact if_pos (by simp only [gt_iff_lt, decide_eq_true_eq]; omega)
    · have hp : syntax_Print p = some ([], 1) := by
        unfold syntax_Print
        rw [Right_prog hf, Option.bind_some, decide_eq_false hR, if_pos (by simp)]
      rw [hp, Option.bind_some]
      rfl
end
end Go.Val
