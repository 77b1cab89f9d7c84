/- A value semantics of the model's programs, sound against it, and functions read off the given program with the proofs that it runs so; no condition. -/
import Derived.Test.YtmbfapppkdiheaaGreatOwnE
set_option linter.all false
set_option linter.unnecessarySimpa false
set_option linter.unusedVariables false
set_option linter.unusedSimpArgs false
/- part S4 -/
/- Plain lemmas: whether a program may be. -/
namespace Go.Val
set_option linter.unusedVariables false
set_option linter.unusedSimpArgs false
noncomputable section
theorem Equal_same : slices_Equal_api_Range_api_Range = scansionref02_Same := rfl
theorem Make_both {l : List TRange} (hl : l.length ≤ 1000000) : ∃ out e, ranges_Make l = some (out, e) ∧ scansionref02_Make l = some (out, e) ∧ Norm out ∧ out.length ≤ l.length ∧ (e = 0 → ∀ t, In out t ↔ In l t) ∧ (e ≠ 0 → e = 1 ∧ out = [] ∧ ¬ ∀ x ∈ l, Ok x) := by
  by_cases hok : ∀ x ∈ l, Ok x
  · obtain ⟨o, h1, h2, h3, h4⟩ := Make_ok hok (by omega)
    obtain ⟨p, q1, q2, q3⟩ := refMake_ok hok (by omega)
    have e : p = o := Norm.unique q2 h2 fun r => by rw [q3, h3]
    subst e
    exact ⟨p, 0, h1, q1, h2, h4, fun _ => h3, fun h => absurd rfl h⟩
  · exact ⟨[], 1, Make_bad hok (by omega), refMake_bad hok (by omega), Norm_nil, by simp, fun h => by simp at h, fun _ => ⟨rfl, rfl, hok⟩⟩
theorem Make_norm {l out : List TRange} {e : Int} (h : Norm l) (ho : Norm out) (h0 : e = 0 → ∀ t, In out t ↔ In l t) (h1 : e ≠ 0 → e = 1 ∧ out = [] ∧ ¬ ∀ x ∈ l, Ok x) : e = 0 ∧ out = l := by
  by_cases he : e = 0
  · exact ⟨he, Norm.unique ho h (h0 he)⟩
  · exact absurd h.1 (h1 he).2.2
open Classical in
def normB (s : List TRange) : Bool := decide (Norm s)
theorem normB_iff {s : List TRange} : normB s = true ↔ Norm s := by unfold normB; simp
theorem pSet {s : List TRange} (hl : s.length ≤ 40) : syntax_set s = some (normB s) := by
  obtain ⟨out, e, m1, m2, m3, m4, m5, m6⟩ := Make_both (l := s) (by omega)
  unfold syntax_set
  rw [m1, Option.bind_some]
  by_cases hn : Norm s
  · obtain ⟨e1, e2⟩ := Make_norm hn m3 m5 m6
    subst e1 e2
    rw [if_pos (by simp), Equal_same, Same_eq (a := out) (by omega), Option.bind_some, Option.bind_some, normB_iff.2 hn]
    simp
  · have hb : normB s = false := by rw [Bool.eq_false_iff]; exact fun h => hn (normB_iff.1 h)
    have hne : out ≠ s := fun e => hn (e ▸ m3)
    rw [hb]
    by_cases he : e = 0
    · subst he
      rw [if_pos (by simp), Equal_same, Same_eq (a := out) (by omega), Option.bind_some, Option.bind_some]
      simp [hne]
    · rw [if_neg (by simpa using he)]; rfl
theorem rSet {s : List TRange} (hl : s.length ≤ 40) : ∃ r, scansionref02_Make s = some r ∧ ∃ q, scansionref02_Same r.1 s = some q ∧ ((r.2 != 0) || (!q)) = !normB s := by
  obtain ⟨out, e, m1, m2, m3, m4, m5, m6⟩ := Make_both (l := s) (by omega)
  refine ⟨_, m2, _, Same_eq (a := out) (by omega), ?_⟩
  by_cases hn : Norm s
  · obtain ⟨e1, e2⟩ := Make_norm hn m3 m5 m6
    subst e1 e2
    rw [normB_iff.2 hn]; simp
  · have hb : normB s = false := by rw [Bool.eq_false_iff]; exact fun h => hn (normB_iff.1 h)
    have hne : out ≠ s := fun e => hn (e ▸ m3)
    rw [hb]; simp [hne]
/-- More fuel tells the same. -/
theorem right_b1_congr {s1 s2 : Tsyntax_checker → TNode → Int → Int → Option (Bool × Tsyntax_checker)} {n : TNode} (h : ∀ x ∈ n.Kids, ∀ c d g, s1 c x d g = s2 c x d g) (d g : Int) : syntax_checker_right.b1 s1 n d g = syntax_checker_right.b1 s2 n d g := by
  funext ⟨v, a, b⟩
  simp only [syntax_checker_right.b1]
  by_cases hc : v < (n.Kids.length : Int)
  · rw [if_pos (decide_eq_true hc), if_pos (decide_eq_true hc)]
    cases hi : idx n.Kids v with
    | none => rfl
    | some x =>
      have hx : x ∈ n.Kids := by
        unfold idx at hi
        split at hi
        · cases hi
        · exact List.mem_of_getElem? hi
      have hk : ∀ more, syntax_checker_right.k3 s1 g v a b x more = syntax_checker_right.k3 s2 g v a b x more := fun more => by
        unfold syntax_checker_right.k3
        rw [h x hx]
      rw [Option.bind_some, Option.bind_some, pOpen, Option.bind_some, Option.bind_some]
      split
      · exact hk _
      · exact hk _
  · rw [if_neg (by simpa using hc), if_neg (by simpa using hc)]
theorem right_stable : ∀ (n : TNode) (fu : Nat), nsize n ≤ fu → ∀ c d g, syntax_checker_right.r fu c n d g = syntax_checker_right.r (nsize n) c n d g := by
  refine TNode.ind fun n ih => ?_
  intro fu hfu c d g
  have hp := nsize_pos n
  obtain ⟨fu, rfl⟩ : ∃ k, fu = k + 1 := ⟨fu - 1, by omega⟩
  obtain ⟨m, hm⟩ : ∃ k, nsize n = k + 1 := ⟨nsize n - 1, by omega⟩
  rw [hm]
  simp only [syntax_checker_right.r]
  have hk1 : ∀ g1, syntax_checker_right.k1 (syntax_checker_right.r fu) c n d g1 = syntax_checker_right.k1 (syntax_checker_right.r m) c n d g1 := fun g1 => by
    unfold syntax_checker_right.k1
    rw [right_b1_congr (s1 := syntax_checker_right.r fu) (s2 := syntax_checker_right.r m) fun x hx c d g => by
      have hlt := nsize_kid hx
      rw [ih x hx fu (by omega), ih x hx m (by omega)]]
  rw [pSigned, Option.bind_some, Option.bind_some]
  simp only [hk1]
theorem right_lim {sets : Nat} {b : Bool} {m : Option Nat} {n : TNode} {c : Tsyntax_checker} {d g : Int} (h : ∀ fu, nsize n ≤ fu → RightOk sets b m (syntax_checker_right.r fu c n d g)) : RightOk sets b m (syntax_checker_right c n d g) := by
  have h0 := h (nsize n) (Nat.le_refl _)
  have hv : ∃ w, syntax_checker_right.r (nsize n) c n d g = some w := by
    unfold RightOk at h0
    split at h0
    · exact ⟨_, h0⟩
    · obtain ⟨c', hc⟩ := h0; exact ⟨_, hc⟩
  obtain ⟨w, hw⟩ := hv
  have hl : syntax_checker_right c n d g = some w := lim_eq (nsize n) fun k hk => by rw [right_stable n k hk, hw]
  rw [hl, ← hw]; exact h0
/-- What rules meet; none: one may not be. -/
def rulesP (sets : Nat) : List TRule → Nat → Option Nat
  | [], a => some a
  | r :: rs, a => if formB sets r.Left 0 0 && formB sets r.Right 0 0 then (metS r.Left a).bind fun q => (metS r.Right q).bind (rulesP sets rs) else none
def RightV (p : TProgram) : Prop := p.Sets.length ≤ 60 ∧ p.Rules.length ≤ 64 ∧ (∀ s ∈ p.Sets, Norm s) ∧ p.Sets.Nodup ∧ rulesP p.Sets.length p.Rules 0 = some p.Sets.length
theorem rulesP_form {sets : Nat} : ∀ {l : List TRule} {a m : Nat}, rulesP sets l a = some m → ∀ r ∈ l, formB sets r.Left 0 0 = true ∧ formB sets r.Right 0 0 = true
  | [], _, _, _, r, h => by cases h
  | x :: l, a, m, h, r, hr => by
    rw [rulesP] at h
    split at h
    · rename_i hf
      simp only [Bool.and_eq_true] at hf
      simp only [Option.bind_eq_some_iff] at h
      obtain ⟨q, _, q2, _, h⟩ := h
      rcases List.mem_cons.1 hr with rfl | hr
      · exact hf
      · exact rulesP_form h r hr
    · cases h
theorem drop_consR {α : Type} {xs : List α} {i : Nat} {x : α} {l : List α} (h : xs.drop i = x :: l) : ∃ hi : i < xs.length, xs[i] = x ∧ xs.drop (i + 1) = l := by
  have hil : i < xs.length := by
    rcases Nat.lt_or_ge i xs.length with q | q
    · exact q
    · rw [List.drop_eq_nil_of_le q] at h; cases h
  have hd := List.drop_eq_getElem_cons hil
  rw [h] at hd
  simp only [List.cons.injEq] at hd
  exact ⟨hil, hd.1.symm, hd.2.symm⟩
/-- The reference's rules. -/
theorem rRules {p : TProgram} (hf : FewP p) (hs60 : p.Sets.length ≤ 60) : ∀ (l : List TRule) (i a : Nat), p.Rules.drop i = l → a ≤ p.Sets.length → Loop (scansionref08_Right.b1 p) ((a : Int), (i : Int)) = some (decide (rulesP p.Sets.length l a = some p.Sets.length)) := by
  intro l
  induction l with
  | nil =>
    intro i a hl ha
    have hi : p.Rules.length ≤ i := List.drop_eq_nil_iff.1 hl
    refine Loop_end (R := some _) ?_
    simp only [scansionref08_Right.b1]
    rw [if_neg (by simp; omega), rulesP]
    unfold scansionref08_Right.k1
    simp only [Option.map_some]
    congr 2
    rw [Bool.eq_iff_iff]
    simp
    try omega
  | cons r l ih =>
    intro i a hl ha
    obtain ⟨hil, hx, hdr⟩ := drop_consR hl
    have hmem : r ∈ p.Rules := by rw [← hx]; exact List.getElem_mem hil
    obtain ⟨n1, n2⟩ := hf.nodes r hmem
    have hrl := hf.rules
    rw [rulesP]
    have hstart : scansionref08_Right.b1 p ((a : Int), (i : Int)) = if ((!formB p.Sets.length r.Left 0 0) || (!formB p.Sets.length r.Right 0 0)) then some (Step.done false) else (scansionref08_met r.Left (a : Int)).bind fun r3 => if (decide (r3 ≥ (0 : Int))) then (scansionref08_met r.Right r3).bind fun r4 => scansionref08_Right.k2 (i : Int) r4 else scansionref08_Right.k2 (i : Int) r3 := by
      simp only [scansionref08_Right.b1]
      rw [if_pos (by simpa using hil), idx_nat, List.getElem?_eq_getElem hil, Option.bind_some, hx, form_eq _ (by omega), Option.bind_some, form_eq _ (by omega), Option.bind_some]
    by_cases hform : formB p.Sets.length r.Left 0 0 = true ∧ formB p.Sets.length r.Right 0 0 = true
    · obtain ⟨f1, f2⟩ := hform
      rw [f1, f2] at hstart ⊢
      rw [if_neg (by simp), met_eq _ (by omega) (by omega) f1 ha, Option.bind_some] at hstart
      rw [if_pos (by simp)]
      cases hm : metS r.Left a with
      | none =>
        rw [hm] at hstart
        refine Loop_done (hstart.trans ?_)
        have e : metI none = -1 := rfl
        rw [e, if_neg (by simp)]
        unfold scansionref08_Right.k2
        rw [if_pos (by simp)]
        simp
      | some q =>
        have hq := metS_le _ _ _ _ _ _ f1 ha hm
        rw [hm] at hstart
        have e : metI (some q) = (q : Int) := rfl
        rw [e, if_pos (by simp), met_eq _ (by omega) (by omega) f2 hq, Option.bind_some] at hstart
        rw [Option.bind_some]
        cases hm2 : metS r.Right q with
        | none =>
          rw [hm2] at hstart
          refine Loop_done (hstart.trans ?_)
          have e : metI none = -1 := rfl
          rw [e]
          unfold scansionref08_Right.k2
          rw [if_pos (by simp)]
          simp
        | some q2 =>
          have hq2 := metS_le _ _ _ _ _ _ f2 hq hm2
          rw [hm2] at hstart
          rw [Option.bind_some, ← ih (i + 1) q2 hdr hq2]
          refine Loop_next (hstart.trans ?_)
          unfold scansionref08_Right.k2
          have e : metI (some q2) = (q2 : Int) := rfl
          rw [e, if_neg (by simp), w64s (by omega)]
    · have hb : (formB p.Sets.length r.Left 0 0 && formB p.Sets.length r.Right 0 0) = false := by
        rw [Bool.eq_false_iff]; intro h; exact hform (by simpa using h)
      rw [if_neg (by rw [hb]; simp)]
      refine Loop_done (hstart.trans ?_)
      rw [if_pos]
      · simp
      · rw [← Bool.not_and, hb]; rfl
/-- The program's rules. -/
theorem pRules {p : TProgram} {m : List (Str × Bool)} (hf : FewP p) (hs60 : p.Sets.length ≤ 60) : ∀ (l : List TRule) (i a : Nat), p.Rules.drop i = l → a ≤ p.Sets.length → Loop (syntax_Right.b1 p m) ((i : Int), (p.Sets.length : Int), (a : Int)) = some (((m.length : Int) == (p.Sets.length : Int)) && decide (rulesP p.Sets.length l a = some p.Sets.length)) := by
  intro l
  induction l with
  | nil =>
    intro i a hl ha
    have hi : p.Rules.length ≤ i := List.drop_eq_nil_iff.1 hl
    refine Loop_end (R := some _) ?_
    simp only [syntax_Right.b1]
    rw [if_neg (by simp; omega), rulesP]
    unfold syntax_Right.k2
    simp only [Option.map_some]
    congr 3
    rw [Bool.eq_iff_iff]
    simp
    omega
  | cons r l ih =>
    intro i a hl ha
    obtain ⟨hil, hx, hdr⟩ := drop_consR hl
    have hmem : r ∈ p.Rules := by rw [← hx]; exact List.getElem_mem hil
    obtain ⟨n1, n2⟩ := hf.nodes r hmem
    have hrl := hf.rules
    have hR : ∀ (n : TNode) (a : Nat), nsize n ≤ 1000 → a ≤ p.Sets.length → RightOk p.Sets.length (formB p.Sets.length n 0 0) (metS n a) (syntax_checker_right ⟨(p.Sets.length : Int), (a : Int)⟩ n 0 0) := fun n a hn ha => by
      have h1 : ∀ fu, nsize n ≤ fu → RightOk p.Sets.length (formB p.Sets.length n 0 0) (metS n a) (syntax_checker_right.r fu ⟨(p.Sets.length : Int), (a : Int)⟩ n 0 0) := fun fu hfu => right_r _ (by omega) n fu 0 0 a hfu hn (by omega) (by omega) ha
      exact right_lim h1
    have hL := hR r.Left a (by omega) ha
    have hbad : (∃ c, syntax_checker_right ⟨(p.Sets.length : Int), (a : Int)⟩ r.Left 0 0 = some (false, c)) → Loop (syntax_Right.b1 p m) ((i : Int), (p.Sets.length : Int), (a : Int)) = some false := fun ⟨c, hc⟩ => by
      refine Loop_done ?_
      simp only [syntax_Right.b1]
      rw [if_pos (by simpa using hil), idx_nat, List.getElem?_eq_getElem hil, Option.bind_some, hx, hc]
      rfl
    rw [rulesP]
    cases f1 : formB p.Sets.length r.Left 0 0 with
    | false =>
      rw [f1] at hL
      rw [if_neg (by simp), hbad hL]; simp
    | true =>
      rw [f1] at hL
      cases hm : metS r.Left a with
      | none =>
        rw [hm] at hL
        rw [hbad hL]
        split <;> simp
      | some q =>
        rw [hm] at hL
        have hL' : syntax_checker_right ⟨(p.Sets.length : Int), (a : Int)⟩ r.Left 0 0 = some (true, ⟨(p.Sets.length : Int), (q : Int)⟩) := hL
        have hq := metS_le _ _ _ _ _ _ f1 ha hm
        have hRr := hR r.Right q (by omega) hq
        have hbad2 : (∃ c, syntax_checker_right ⟨(p.Sets.length : Int), (q : Int)⟩ r.Right 0 0 = some (false, c)) → Loop (syntax_Right.b1 p m) ((i : Int), (p.Sets.length : Int), (a : Int)) = some false := fun ⟨c, hc⟩ => by
          refine Loop_done ?_
          simp only [syntax_Right.b1]
          rw [if_pos (by simpa using hil), idx_nat, List.getElem?_eq_getElem hil, Option.bind_some, hx, hL']
          simp only [Option.bind_some, Bool.not_true, Bool.false_eq_true, if_false]
          rw [hc]; rfl
        cases f2 : formB p.Sets.length r.Right 0 0 with
        | false =>
          rw [f2] at hRr
          rw [if_neg (by simp), hbad2 hRr]; simp
        | true =>
          rw [f2] at hRr
          rw [if_pos (by simp), Option.bind_some]
          cases hm2 : metS r.Right q with
          | none =>
            rw [hm2] at hRr
            rw [hbad2 hRr]; simp
          | some q2 =>
            rw [hm2] at hRr
            have hR' : syntax_checker_right ⟨(p.Sets.length : Int), (q : Int)⟩ r.Right 0 0 = some (true, ⟨(p.Sets.length : Int), (q2 : Int)⟩) := hRr
            have hq2 := metS_le _ _ _ _ _ _ f2 hq hm2
            rw [Option.bind_some, ← ih (i + 1) q2 hdr hq2]
            refine Loop_next ?_
            simp only [syntax_Right.b1]
            rw [if_pos (by simpa using hil), idx_nat, List.getElem?_eq_getElem hil, Option.bind_some, hx, hL']
            simp only [Option.bind_some, Bool.not_true, Bool.false_eq_true, if_false]
            rw [hR']
            simp only [Option.bind_some, Bool.not_true, Bool.false_eq_true, if_false]
            rw [w64s (by omega)]
/-! ### the sets -/
theorem aput_mem {k a : Str} {v : Bool} : ∀ {m : List (Str × Bool)}, a ∈ (aput k v m).map (·.1) ↔ a ∈ m.map (·.1) ∨ a = k
  | [] => by simp [aput]
  | (k', v') :: m => by
    simp only [aput]
    by_cases h : k = k'
    · rw [if_pos h]
      simp only [List.map_cons, List.mem_cons]
      rw [h]
      constructor
      · rintro (h | h)
        · exact .inr h
        · exact .inl (.inr h)
      · rintro ((h | h) | h)
        · exact .inl h
        · exact .inr h
        · exact .inl h
    · rw [if_neg h]
      simp only [List.map_cons, List.mem_cons, aput_mem (m := m)]
      exact or_assoc.symm
theorem aput_len {k : Str} {v : Bool} : ∀ {m : List (Str × Bool)}, (aput k v m).length = if k ∈ m.map (·.1) then m.length else m.length + 1
  | [] => by simp [aput]
  | (k', v') :: m => by
    simp only [aput]
    by_cases h : k = k'
    · rw [if_pos h, if_pos (by simp [h])]; rfl
    · rw [if_neg h]
      simp only [List.length_cons, aput_len (m := m), List.map_cons, List.mem_cons, h, false_or]
      split <;> rfl
theorem nodup_snoc {α : Type} {l : List α} {a : α} : (l ++ [a]).Nodup ↔ l.Nodup ∧ a ∉ l := by
  rw [List.nodup_append]
  constructor
  · rintro ⟨h1, _, h2⟩
    exact ⟨h1, fun h => h2 a h a (by simp) rfl⟩
  · rintro ⟨h1, h2⟩
    exact ⟨h1, by simp, fun x hx y hy => by simp at hy; subst hy; rintro rfl; exact h2 hx⟩
open Classical in
/-- The program's sets: all are sets, and their texts are noted. -/
theorem pSets {p : TProgram} (hf : FewP p) (hs60 : p.Sets.length ≤ 60) : ∀ (d i : Nat) (m : List (Str × Bool)), i + d = p.Sets.length → (∀ s ∈ p.Sets.take i, Norm s) → (∀ a, a ∈ m.map (·.1) ↔ a ∈ (p.Sets.take i).map setText) → m.length ≤ i → (m.length = i ↔ (p.Sets.take i).Nodup) →
    if ∀ s ∈ p.Sets, Norm s then Loop (syntax_Right.b2 p) ((i : Int), m) = some (decide (p.Sets.Nodup) && decide (rulesP p.Sets.length p.Rules 0 = some p.Sets.length)) else Loop (syntax_Right.b2 p) ((i : Int), m) = some false
  | 0, i, m, h, hn, hk, hl, hd => by
    obtain rfl : i = p.Sets.length := by omega
    rw [List.take_length] at hn hd
    rw [if_pos hn]
    have hr := pRules (m := m) hf hs60 p.Rules 0 0 rfl (Nat.zero_le _)
    refine Loop_end ?_
    simp only [syntax_Right.b2]
    rw [if_neg (by simp)]
    unfold syntax_Right.k1
    have e : (((0 : Nat) : Int), (p.Sets.length : Int), ((0 : Nat) : Int)) = ((0 : Int), (p.Sets.length : Int), (0 : Int)) := rfl
    rw [e] at hr
    rw [hr]
    simp only [Option.map_some]
    congr 3
    rw [Bool.eq_iff_iff]
    simp only [beq_iff_eq, decide_eq_true_eq]
    rw [← hd]
    omega
  | d + 1, i, m, h, hn, hk, hl, hd => by
    have hi : i < p.Sets.length := by omega
    have h40 := hf.each _ (List.getElem_mem hi)
    have hstart : syntax_Right.b2 p ((i : Int), m) = if !normB p.Sets[i] then some (Step.done false) else (lex_Set p.Sets[i]).bind fun r3 => some (Step.next ((IntKind.i64.wrap ((i : Int) + (1 : Int))), (aput r3 true m))) := by
      simp only [syntax_Right.b2]
      rw [if_pos (by simpa using hi), idx_nat, List.getElem?_eq_getElem hi, Option.bind_some, pSet h40, Option.bind_some]
    by_cases hnorm : Norm p.Sets[i]
    · rw [normB_iff.2 hnorm, if_neg (by simp), lexSet_text hnorm.1 (by omega), Option.bind_some, w64s (by omega)] at hstart
      have htk : p.Sets.take (i + 1) = p.Sets.take i ++ [p.Sets[i]] := take_snocS hi
      have hmem : setText p.Sets[i] ∈ m.map (·.1) ↔ p.Sets[i] ∈ p.Sets.take i := by
        rw [hk]
        constructor
        · intro h
          obtain ⟨s, hs, e⟩ := List.mem_map.1 h
          rw [← setText_inj (hn s hs).1 hnorm.1 e]; exact hs
        · exact fun h => List.mem_map_of_mem h
      rw [Loop_next hstart]
      refine pSets hf hs60 d (i + 1) _ (by omega) ?_ ?_ ?_ ?_
      · intro s hs
        rw [htk] at hs
        rcases List.mem_append.1 hs with h | h
        · exact hn s h
        · simp at h; subst h; exact hnorm
      · intro a
        rw [aput_mem, hk, htk, List.map_append, List.mem_append]; simp
      · rw [aput_len]; split <;> omega
      · rw [aput_len, htk, nodup_snoc]
        by_cases hin : p.Sets[i] ∈ p.Sets.take i
        · rw [if_pos (hmem.2 hin)]
          exact ⟨fun h => by omega, fun h => absurd hin h.2⟩
        · rw [if_neg (fun h => hin (hmem.1 h))]
          constructor
          · exact fun h => ⟨hd.1 (by omega), hin⟩
          · exact fun h => by have := hd.2 h.1; omega
    · have hb : normB p.Sets[i] = false := by rw [Bool.eq_false_iff]; exact fun h => hnorm (normB_iff.1 h)
      rw [hb, if_pos (by simp)] at hstart
      rw [if_neg (fun h => hnorm (h _ (List.getElem_mem hi)))]
      exact Loop_done hstart
open Classical in
/-- The reference's sets. -/
theorem rSets {p : TProgram} (hf : FewP p) (hs60 : p.Sets.length ≤ 60) : ∀ (d i : Nat), i + d = p.Sets.length → (∀ s ∈ p.Sets.take i, Norm s) → (p.Sets.take i).Nodup →
    Loop (scansionref08_sets.b1 p.Sets) (i : Int) = some (decide ((∀ s ∈ p.Sets, Norm s) ∧ p.Sets.Nodup))
  | 0, i, h, hn, hd => by
    obtain rfl : i = p.Sets.length := by omega
    rw [List.take_length] at hn hd
    rw [decide_eq_true ⟨hn, hd⟩]
    refine Loop_end (R := some true) ?_
    simp only [scansionref08_sets.b1]
    rw [if_neg (by simp)]; rfl
  | d + 1, i, h, hn, hd => by
    have hi : i < p.Sets.length := by omega
    have h40 := hf.each _ (List.getElem_mem hi)
    obtain ⟨r, r1, q, r2, r3⟩ := rSet h40
    have hstart : scansionref08_sets.b1 p.Sets (i : Int) = if !normB p.Sets[i] then some (Step.done false) else Loop (scansionref08_sets.b2 p.Sets (i : Int) p.Sets[i]) 0 := by
      simp only [scansionref08_sets.b1]
      rw [if_pos (by simpa using hi), idx_nat, List.getElem?_eq_getElem hi, Option.bind_some, r1, Option.bind_some, r2, Option.bind_some, r3]
    have htk : p.Sets.take (i + 1) = p.Sets.take i ++ [p.Sets[i]] := take_snocS hi
    by_cases hnorm : Norm p.Sets[i]
    · rw [normB_iff.2 hnorm, if_neg (by simp)] at hstart
      have hin := Loop_scan (b := scansionref08_sets.b2 p.Sets (i : Int) p.Sets[i]) (P := fun k => ∀ hk : k < p.Sets.length, p.Sets[k] ≠ p.Sets[i]) (n := i) (bad := Step.done false) (R := scansionref08_sets.k2 (i : Int)) (fun k hk => by
        have hkl : k < p.Sets.length := by omega
        have hk40 := hf.each _ (List.getElem_mem hkl)
        by_cases e : p.Sets[k] = p.Sets[i]
        · refine .inr ⟨fun h => h hkl e, ?_⟩
          simp only [scansionref08_sets.b2]
          rw [if_pos (by simpa using hk), idx_nat, List.getElem?_eq_getElem hkl, Option.bind_some, Same_eq (a := p.Sets[k]) (by omega), Option.bind_some, if_pos (by simpa using e)]
        · refine .inl ⟨fun _ => e, ?_⟩
          simp only [scansionref08_sets.b2]
          rw [if_pos (by simpa using hk), idx_nat, List.getElem?_eq_getElem hkl, Option.bind_some, Same_eq (a := p.Sets[k]) (by omega), Option.bind_some, if_neg (by simpa using e), w64s (by omega)]) (by
        simp only [scansionref08_sets.b2]
        rw [if_neg (by simp)])
      rcases hin with ⟨g1, g2⟩ | ⟨g1, g2⟩
      · rw [g2] at hstart
        unfold scansionref08_sets.k2 at hstart
        rw [w64s (by omega)] at hstart
        rw [Loop_next hstart]
        refine rSets hf hs60 d (i + 1) (by omega) ?_ ?_
        · intro s hs
          rw [htk] at hs
          rcases List.mem_append.1 hs with h | h
          · exact hn s h
          · simp at h; subst h; exact hnorm
        · rw [htk, nodup_snoc]
          refine ⟨hd, fun hmem => ?_⟩
          obtain ⟨k, hk, e⟩ := List.getElem_of_mem hmem
          rw [List.getElem_take] at e
          have hki : k < i := by rw [List.length_take] at hk; omega
          exact g1 k hki (by omega) e
      · rw [g2] at hstart
        rw [decide_eq_false]
        · exact Loop_done hstart
        · rintro ⟨_, hnd⟩
          refine g1 fun k hk hkl e => ?_
          have hp := List.pairwise_iff_getElem.1 hnd k i hkl hi hk
          exact hp e
    · have hb : normB p.Sets[i] = false := by rw [Bool.eq_false_iff]; exact fun h => hnorm (normB_iff.1 h)
      rw [hb, if_pos (by simp)] at hstart
      rw [decide_eq_false (fun h => hnorm (h.1 _ (List.getElem_mem hi)))]
      exact Loop_done hstart
open Classical in
theorem Right_both {p : TProgram} (hf : FewP p) : syntax_Right p = some (decide (RightV p)) ∧ scansionref08_Right p = some (decide (RightV p)) := by
  unfold syntax_Right scansionref08_Right
  by_cases hc : p.Sets.length ≤ 60 ∧ p.Rules.length ≤ 64
  · obtain ⟨h60, h64⟩ := hc
    rw [if_neg (by simp; omega), if_neg (by simp; omega)]
    have h1 := pSets hf h60 p.Sets.length 0 [] (by omega) (by simp) (by simp) (by simp) (by simp)
    have h2 := rSets hf h60 p.Sets.length 0 (by omega) (by simp) (by simp)
    have h2' : scansionref08_sets p.Sets = some (decide ((∀ s ∈ p.Sets, Norm s) ∧ p.Sets.Nodup)) := by
      unfold scansionref08_sets
      exact h2
    have h3 := rRules hf h60 p.Rules 0 0 rfl (Nat.zero_le _)
    rw [h2', Option.bind_some]
    have e0 : (((0 : Nat) : Int), ([] : List (Str × Bool))) = ((0 : Int), []) := rfl
    rw [e0] at h1
    by_cases hn : ∀ s ∈ p.Sets, Norm s
    · rw [if_pos hn] at h1
      rw [h1]
      by_cases hd : p.Sets.Nodup
      · have e1 : (((0 : Nat) : Int), ((0 : Nat) : Int)) = ((0 : Int), (0 : Int)) := rfl
        rw [e1] at h3
        rw [decide_eq_true (p := (∀ s ∈ p.Sets, Norm s) ∧ p.Sets.Nodup) ⟨hn, hd⟩, if_neg (by simp), h3]
        constructor
        · congr 1
          rw [Bool.eq_iff_iff]
          simp only [Bool.and_eq_true, decide_eq_true_eq]
          exact ⟨fun h => ⟨h60, h64, hn, h.1, h.2⟩, fun h => ⟨h.2.2.2.1, h.2.2.2.2⟩⟩
        · congr 1
          rw [Bool.eq_iff_iff]
          simp only [decide_eq_true_eq]
          exact ⟨fun h => ⟨h60, h64, hn, hd, h⟩, fun h => h.2.2.2.2⟩
      · have hR : ¬ RightV p := fun h => hd h.2.2.2.1
        rw [decide_eq_false (p := (∀ s ∈ p.Sets, Norm s) ∧ p.Sets.Nodup) (fun h => hd h.2), if_pos (by simp), decide_eq_false hR, decide_eq_false hd]
        exact ⟨rfl, rfl⟩
    · have hR : ¬ RightV p := fun h => hn h.2.2.1
      rw [if_neg hn] at h1
      rw [h1, decide_eq_false (p := (∀ s ∈ p.Sets, Norm s) ∧ p.Sets.Nodup) (fun h => hn h.1), if_pos (by simp), decide_eq_false hR]
      exact ⟨rfl, rfl⟩
  · have hR : ¬ RightV p := fun h => hc ⟨h.1, h.2.1⟩
    rw [if_pos (by simp; omega), if_pos (by simp; omega), decide_eq_false hR]
    exact ⟨rfl, rfl⟩
end
end Go.Val

/- part S5 -/
/- Plain lemmas: an expression's text. -/
namespace Go.Val
set_option linter.unusedVariables false
set_option linter.unusedSimpArgs false
noncomputable section
def wrapB (k : Int) (x : TNode) (t : Str) : Str := if openB k x then 40 :: (t ++ [41]) else t
def joinK (k : Int) (l : List Str) : Str := if k = 2 then Go.Lib.join l [124] else l.flatten
def signT (k : Int) : Str := if k = 3 then [42] else if k = 4 then [43] else if k = 5 then [63] else []
mutual
/-- An expression's text. -/
def txt (S : List (List TRange)) : TNode → Str
  | ⟨k, s, ks⟩ => if k = 1 then setText (S.getD s.toNat []) else joinK k (txtL S k ks) ++ signT k
def txtL (S : List (List TRange)) (k : Int) : List TNode → List Str
  | [] => []
  | x :: xs => wrapB k x (txt S x) :: txtL S k xs
end
variable {S : List (List TRange)}
theorem txt_eq (n : TNode) : txt S n = if n.Kind = 1 then setText (S.getD n.Set.toNat []) else joinK n.Kind (txtL S n.Kind n.Kids) ++ signT n.Kind := by
  cases n; rw [txt]
theorem txtL_map (k : Int) : ∀ l : List TNode, txtL S k l = l.map fun x => wrapB k x (txt S x)
  | [] => rfl
  | x :: l => by rw [txtL, txtL_map k l]; rfl
theorem txtL_snoc {k : Int} {l : List TNode} {x : TNode} : txtL S k (l ++ [x]) = txtL S k l ++ [wrapB k x (txt S x)] := by
  rw [txtL_map, txtL_map, List.map_append]; rfl
theorem wrapB_len {k : Int} {x : TNode} {t : Str} : (wrapB k x t).length ≤ t.length + 2 := by
  unfold wrapB
  split
  · simp
  · omega
theorem join_nil_flat : ∀ l : List Str, Go.Lib.join l [] = l.flatten
  | [] => rfl
  | [x] => by rw [Go.Lib.join_one]; simp
  | x :: y :: l => by
    rw [Go.Lib.join_cons]
    unfold Go.Lib.joinTail
    simp
theorem join_snoc {l : List Str} {t : Str} (h : l ≠ []) : Go.Lib.join (l ++ [t]) [124] = Go.Lib.join l [124] ++ 124 :: t := by
  cases l with
  | nil => exact absurd rfl h
  | cons x l =>
    rw [List.cons_append, Go.Lib.join_cons, Go.Lib.join_cons]
    unfold Go.Lib.joinTail
    simp
/-- How long texts are together. -/
def lensT (l : List Str) : Nat := (l.map fun t => t.length + 1).sum
theorem joinK_len (k : Int) (l : List Str) : (joinK k l).length ≤ lensT l := by
  unfold joinK
  split
  · cases l with
    | nil => simp [Go.Lib.join_nil]
    | cons x l =>
      rw [Go.Lib.join_cons]
      unfold Go.Lib.joinTail lensT
      rw [List.length_append, List.length_flatten, List.map_map, List.map_cons, List.sum_cons]
      have : ((List.length ∘ fun x => ([124] : Str) ++ x)) = fun t : Str => t.length + 1 := by funext t; simp
      rw [this]; omega
  · unfold lensT
    induction l with
    | nil => simp
    | cons x l ih => rw [List.flatten_cons, List.length_append, List.map_cons, List.sum_cons]; omega
theorem signT_len (k : Int) : (signT k).length ≤ 1 := by
  unfold signT
  repeat' split
  all_goals simp
/-- Sets that are few, and right. -/
def Fine (S : List (List TRange)) : Prop := ∀ s ∈ S, (∀ x ∈ s, Ok x) ∧ s.length ≤ 40
theorem fine_at (h : Fine S) {i : Int} (h0 : 0 ≤ i) (h1 : i < (S.length : Int)) : ∃ s, idx S i = some s ∧ S.getD i.toNat [] = s ∧ (∀ x ∈ s, Ok x) ∧ s.length ≤ 40 := by
  have hi : i.toNat < S.length := by omega
  have hm := h _ (List.getElem_mem hi)
  refine ⟨S[i.toNat], ?_, ?_, hm.1, hm.2⟩
  · unfold idx
    rw [if_neg (by omega), List.getElem?_eq_getElem hi]
  · rw [List.getD_eq_getElem?_getD, List.getElem?_eq_getElem hi]; rfl
theorem txt_len (hS : Fine S) : ∀ (n : TNode) (d g : Nat), formB S.length n d g = true → (txt S n).length + 3 ≤ 845 * nsize n := by
  refine TNode.ind fun n ih => ?_
  intro d g hf
  rw [formB_eq] at hf
  rw [txt_eq]
  have hp := nsize_pos n
  by_cases h1 : n.Kind = 1
  · rw [if_pos h1] at hf ⊢
    simp at hf
    obtain ⟨s, _, e, ho, hl⟩ := fine_at hS hf.2.1 hf.2.2
    have := setText_len ho
    rw [e]; omega
  · rw [if_neg h1] at hf ⊢
    simp only [Bool.and_eq_true] at hf
    have loop : ∀ (l : List TNode), (∀ x ∈ l, x ∈ n.Kids) → formL S.length n.Kind l d (signsN n.Kind g) = true → lensT (txtL S n.Kind l) ≤ 845 * nsizeL l := by
      intro l
      induction l with
      | nil => intro _ _; simp [txtL, lensT]
      | cons x l ihl =>
        intro hs hfl
        rw [formL] at hfl
        simp only [Bool.and_eq_true] at hfl
        have h2 := ihl (fun y hy => hs y (by simp [hy])) hfl.2.2
        have h3 := ih x (hs x (by simp)) _ _ hfl.2.1
        have h4 := wrapB_len (k := n.Kind) (x := x) (t := txt S x)
        have h5 : lensT (txtL S n.Kind (x :: l)) = (wrapB n.Kind x (txt S x)).length + 1 + lensT (txtL S n.Kind l) := by
          rw [txtL]; unfold lensT; rw [List.map_cons, List.sum_cons]
        rw [h5, nsizeL]; omega
    have h6 := loop n.Kids (fun _ h => h) hf.2.2.2
    have h7 := joinK_len n.Kind (txtL S n.Kind n.Kids)
    have h8 := signT_len n.Kind
    rw [List.length_append, nsize_eq]; omega
theorem formL_mem {sets : Nat} {k : Int} : ∀ {l : List TNode} {d g : Nat} {x : TNode}, formL sets k l d g = true → x ∈ l → formB sets x (moreN k x d) g = true
  | y :: l, d, g, x, h, hx => by
    rw [formL] at h
    simp only [Bool.and_eq_true] at h
    rcases List.mem_cons.1 hx with rfl | hx
    · exact h.2.1
    · exact formL_mem h.2.2 hx
/-- The program's text. -/
theorem printed_r (hS : Fine S) : ∀ (n : TNode) (fu d g : Nat), nsize n ≤ fu → nsize n ≤ 1000 → formB S.length n d g = true → syntax_printed.r fu n S = some (txt S n) := by
  refine TNode.ind fun n ih => ?_
  intro fu d g hfu hsz hf
  have hlen := txt_len hS n d g hf
  have hp := nsize_pos n
  obtain ⟨fu, rfl⟩ : ∃ k, fu = k + 1 := ⟨fu - 1, by omega⟩
  have hkl := kids_le n
  rw [formB_eq] at hf
  rw [txt_eq] at hlen ⊢
  simp only [syntax_printed.r]
  by_cases h1 : n.Kind = 1
  · rw [if_pos h1] at hf ⊢
    simp at hf
    obtain ⟨s, e0, e, ho, hl⟩ := fine_at hS hf.2.1 hf.2.2
    rw [if_pos (show (n.Kind == 1) = true by simpa using h1), e0, Option.bind_some, lexSet_text ho (by omega), Option.bind_some, e]
  · rw [if_neg h1] at hf ⊢ hlen
    simp only [Bool.and_eq_true] at hf
    rw [if_neg (show ¬ (n.Kind == 1) = true by simpa using h1)]
    have loop : ∀ (l : List TNode) (i : Nat), n.Kids.drop i = l → Loop (syntax_printed.b1 (syntax_printed.r fu) n S) (txtL S n.Kind (n.Kids.take i), (i : Int)) = syntax_printed.k1 n (txtL S n.Kind n.Kids) := by
      intro l
      induction l with
      | nil =>
        intro i hl
        have hi : n.Kids.length ≤ i := List.drop_eq_nil_iff.1 hl
        refine Loop_end ?_
        simp only [syntax_printed.b1]
        rw [if_neg (by simp; omega), List.take_of_length_le hi]
      | cons x l ihl =>
        intro i hl
        obtain ⟨hil, hx, hdr⟩ := drop_cons hl
        have hmem : x ∈ n.Kids := by rw [← hx]; exact List.getElem_mem hil
        have hfx := formL_mem hf.2.2.2 hmem
        have hkid := ih x hmem fu _ _ (by have := nsize_kid hmem; omega) (by have := nsize_kid hmem; omega) hfx
        have hkl2 := txt_len hS x _ _ hfx
        have hnx := nsize_kid hmem
        rw [← ihl (i + 1) hdr, take_snocS hil, txtL_snoc, hx]
        refine Loop_next ?_
        simp only [syntax_printed.b1]
        rw [if_pos (by simpa using hil), idx_nat, List.getElem?_eq_getElem hil, Option.bind_some, hx, hkid, Option.bind_some, pOpen, Option.bind_some]
        have hroom : room 16 ((txtL S n.Kind (n.Kids.take i)).length + 1) = some () := room_ok (by rw [txtL_map, List.length_map, List.length_take]; omega)
        have hk2 : ∀ t, syntax_printed.k2 (txtL S n.Kind (n.Kids.take i)) (i : Int) t = some (.next (txtL S n.Kind (n.Kids.take i) ++ [t], ((i + 1 : Nat) : Int))) := fun t => by
          unfold syntax_printed.k2
          rw [hroom, Option.bind_some, w64s (by omega)]
        unfold wrapB
        cases openB n.Kind x with
        | true => rw [if_pos rfl, roomS7 (by omega), Option.bind_some, roomS7 (by omega), Option.bind_some, hk2, if_pos rfl]; simp
        | false => rw [if_neg (by simp), hk2, if_neg (by simp)]
    refine (loop n.Kids 0 rfl).trans ?_
    unfold syntax_printed.k1
    have hjl := joinK_len n.Kind (txtL S n.Kind n.Kids)
    have hlk : (txtL S n.Kind n.Kids).length = n.Kids.length := by rw [txtL_map, List.length_map]
    rw [List.length_append] at hlen
    have hjoin : ∀ sep, Go.Lib.join (txtL S n.Kind n.Kids) sep = joinK n.Kind (txtL S n.Kind n.Kids) → strings_Join (txtL S n.Kind n.Kids) sep = some (joinK n.Kind (txtL S n.Kind n.Kids)) := fun sep e => by
      unfold strings_Join
      rw [e, if_pos ⟨by omega, by omega⟩]
    have hone : signB n.Kind = true → ∃ t, txtL S n.Kind n.Kids = [t] ∧ joinK n.Kind (txtL S n.Kind n.Kids) = t := fun hs => by
      have hfit := hf.2.1
      unfold fitsB at hfit
      have n0 : ¬ n.Kind = 0 := fun e => by rw [e] at hs; simp [signB] at hs
      have n2 : ¬ n.Kind = 2 := fun e => by rw [e] at hs; simp [signB] at hs
      rw [if_neg n0, if_neg n2, hs] at hfit
      simp at hfit
      rw [← hlk] at hfit
      obtain ⟨t, ht⟩ := List.length_eq_one_iff.1 hfit
      refine ⟨t, ht, ?_⟩
      rw [ht]; unfold joinK; rw [if_neg n2]; simp
    by_cases h2 : n.Kind = 2
    · rw [if_pos (show (n.Kind == 2) = true by simpa using h2), hjoin [124] (by unfold joinK; rw [if_pos h2]), Option.bind_some]
      have : signT n.Kind = [] := by rw [h2]; rfl
      rw [this, List.append_nil]
    · rw [if_neg (show ¬ (n.Kind == 2) = true by simpa using h2)]
      by_cases h3 : n.Kind = 3
      · obtain ⟨t, ht, hj⟩ := hone (by rw [h3]; rfl)
        rw [hj] at hlen ⊢
        rw [if_pos (show (n.Kind == 3) = true by simpa using h3), ht]
        have : signT n.Kind = [42] := by rw [h3]; rfl
        rw [this]
        simp only [List.getElem?_cons_zero, Option.bind_some]
        rw [roomS7 (by omega)]; rfl
      · rw [if_neg (show ¬ (n.Kind == 3) = true by simpa using h3)]
        by_cases h4 : n.Kind = 4
        · obtain ⟨t, ht, hj⟩ := hone (by rw [h4]; rfl)
          rw [hj] at hlen ⊢
          rw [if_pos (show (n.Kind == 4) = true by simpa using h4), ht]
          have : signT n.Kind = [43] := by rw [h4]; rfl
          rw [this]
          simp only [List.getElem?_cons_zero, Option.bind_some]
          rw [roomS7 (by omega)]; rfl
        · rw [if_neg (show ¬ (n.Kind == 4) = true by simpa using h4)]
          by_cases h5 : n.Kind = 5
          · obtain ⟨t, ht, hj⟩ := hone (by rw [h5]; rfl)
            rw [hj] at hlen ⊢
            rw [if_pos (show (n.Kind == 5) = true by simpa using h5), ht]
            have : signT n.Kind = [63] := by rw [h5]; rfl
            rw [this]
            simp only [List.getElem?_cons_zero, Option.bind_some]
            rw [roomS7 (by omega)]; rfl
          · rw [if_neg (show ¬ (n.Kind == 5) = true by simpa using h5), hjoin [] (by unfold joinK; rw [if_neg h2]; exact join_nil_flat _), Option.bind_some]
            have : signT n.Kind = [] := by unfold signT; rw [if_neg h3, if_neg h4, if_neg h5]
            rw [this, List.append_nil]
theorem printed_eq (hS : Fine S) {n : TNode} (h : nsize n ≤ 1000) (hf : formB S.length n 0 0 = true) : syntax_printed n S = some (txt S n) := lim_eq (nsize n) fun fu hfu => printed_r hS n fu 0 0 hfu h hf
theorem joinK_snoc {k : Int} {l : List Str} {t : Str} : joinK k (l ++ [t]) = joinK k l ++ (if k = 2 ∧ l ≠ [] then 124 :: t else t) := by
  unfold joinK
  by_cases h2 : k = 2
  · rw [if_pos h2, if_pos h2]
    by_cases hl : l = []
    · subst hl; rw [if_neg (by simp)]; simp [Go.Lib.join_one, Go.Lib.join_nil]
    · rw [if_pos ⟨h2, hl⟩, join_snoc hl]
  · rw [if_neg h2, if_neg h2, if_neg (fun h => h2 h.1)]; simp
theorem lensT_take {k : Int} {l : List TNode} (i : Nat) : lensT (txtL S k (l.take i)) ≤ lensT (txtL S k l) := by
  have : txtL S k l = txtL S k (l.take i) ++ txtL S k (l.drop i) := by rw [txtL_map, txtL_map, txtL_map, ← List.map_append, List.take_append_drop]
  rw [this]
  unfold lensT
  rw [List.map_append, List.sum_append]; omega
theorem lensT_len (hS : Fine S) {n : TNode} {d g : Nat} : ∀ (l : List TNode), formL S.length n.Kind l d g = true → lensT (txtL S n.Kind l) ≤ 845 * nsizeL l := by
  intro l
  induction l with
  | nil => intro _; simp [txtL, lensT]
  | cons x l ihl =>
    intro hfl
    rw [formL] at hfl
    simp only [Bool.and_eq_true] at hfl
    have h2 := ihl hfl.2.2
    have h3 := txt_len hS x _ _ hfl.2.1
    have h4 := wrapB_len (k := n.Kind) (x := x) (t := txt S x)
    have h5 : lensT (txtL S n.Kind (x :: l)) = (wrapB n.Kind x (txt S x)).length + 1 + lensT (txtL S n.Kind l) := by
      rw [txtL]; unfold lensT; rw [List.map_cons, List.sum_cons]
    rw [h5, nsizeL]; omega
/-- The reference's text. -/
theorem text_r (hS : Fine S) : ∀ (n : TNode) (fu d g : Nat), nsize n ≤ fu → nsize n ≤ 1000 → formB S.length n d g = true → scansionref08_text.r fu n S = some (txt S n) := by
  refine TNode.ind fun n ih => ?_
  intro fu d g hfu hsz hf
  have hp := nsize_pos n
  obtain ⟨fu, rfl⟩ : ∃ k, fu = k + 1 := ⟨fu - 1, by omega⟩
  have hkl := kids_le n
  have hlen := txt_len hS n d g hf
  rw [formB_eq] at hf
  rw [txt_eq] at hlen ⊢
  simp only [scansionref08_text.r]
  by_cases h1 : n.Kind = 1
  · rw [if_pos h1] at hf ⊢
    simp at hf
    obtain ⟨s, e0, e, ho, hl⟩ := fine_at hS hf.2.1 hf.2.2
    rw [if_pos (show (n.Kind == 1) = true by simpa using h1), e0, Option.bind_some, refSet_text ho (by omega), Option.bind_some, e]
  · rw [if_neg h1] at hf ⊢ hlen
    simp only [Bool.and_eq_true] at hf
    rw [if_neg (show ¬ (n.Kind == 1) = true by simpa using h1)]
    have hall := lensT_len hS (n := n) n.Kids hf.2.2.2
    have hns : nsize n = 1 + nsizeL n.Kids := nsize_eq n
    have loop : ∀ (l : List TNode) (i : Nat), n.Kids.drop i = l → Loop (scansionref08_text.b1 (scansionref08_text.r fu) n S) (joinK n.Kind (txtL S n.Kind (n.Kids.take i)), (i : Int)) = scansionref08_text.k1 n (joinK n.Kind (txtL S n.Kind n.Kids)) := by
      intro l
      induction l with
      | nil =>
        intro i hl
        have hi : n.Kids.length ≤ i := List.drop_eq_nil_iff.1 hl
        refine Loop_end ?_
        simp only [scansionref08_text.b1]
        rw [if_neg (by simp; omega), List.take_of_length_le hi]
      | cons x l ihl =>
        intro i hl
        obtain ⟨hil, hx, hdr⟩ := drop_cons hl
        have hmem : x ∈ n.Kids := by rw [← hx]; exact List.getElem_mem hil
        have hfx := formL_mem hf.2.2.2 hmem
        have hkid := ih x hmem fu _ _ (by have := nsize_kid hmem; omega) (by have := nsize_kid hmem; omega) hfx
        have hkl2 := txt_len hS x _ _ hfx
        have hnx := nsize_kid hmem
        have hpre := lensT_take (S := S) (k := n.Kind) (l := n.Kids) i
        have hjl := joinK_len n.Kind (txtL S n.Kind (n.Kids.take i))
        rw [← ihl (i + 1) hdr, take_snocS hil, txtL_snoc, hx, joinK_snoc]
        refine Loop_next ?_
        simp only [scansionref08_text.b1]
        rw [if_pos (by simpa using hil), idx_nat, List.getElem?_eq_getElem hil, Option.bind_some, hx, hkid, Option.bind_some, rOpen, Option.bind_some]
        have hne : (txtL S n.Kind (n.Kids.take i)) ≠ [] ↔ 0 < i := by
          rw [txtL_map]
          constructor
          · intro h
            rcases Nat.eq_zero_or_pos i with e | e
            · subst e; simp at h
            · exact e
          · intro h e
            have := congrArg List.length e
            rw [List.length_map, List.length_take, List.length_nil] at this
            omega
        have hk2 : ∀ t : Str, t.length ≤ 900000 → scansionref08_text.k2 n (joinK n.Kind (txtL S n.Kind (n.Kids.take i))) (i : Int) t = some (.next (joinK n.Kind (txtL S n.Kind (n.Kids.take i)) ++ (if n.Kind = 2 ∧ txtL S n.Kind (n.Kids.take i) ≠ [] then 124 :: t else t), ((i + 1 : Nat) : Int))) := fun t ht => by
          unfold scansionref08_text.k2
          by_cases hc : n.Kind = 2 ∧ 0 < i
          · rw [if_pos (show (n.Kind == 2 && decide ((i : Int) > 0)) = true by rw [hc.1, decide_eq_true (by omega)]; rfl), if_pos ⟨hc.1, hne.2 hc.2⟩, roomS7 (by omega), Option.bind_some]
            unfold scansionref08_text.k3
            rw [roomS7 (by simp; omega), Option.bind_some, w64s (by omega)]; rfl
          · rw [if_neg (by simp; exact fun h => by have : ¬ 0 < i := fun q => hc ⟨h, q⟩; omega), if_neg (fun h => hc ⟨h.1, hne.1 h.2⟩)]
            unfold scansionref08_text.k3
            rw [roomS7 (by omega), Option.bind_some, w64s (by omega)]
        cases ho : openB n.Kind x with
        | true =>
          have hw : wrapB n.Kind x (txt S x) = 40 :: (txt S x ++ [41]) := by unfold wrapB; rw [if_pos ho]
          rw [hw, if_pos rfl, roomS7 (by omega), Option.bind_some, roomS7 (by omega), Option.bind_some, hk2 _ (by simp; omega)]
          rfl
        | false =>
          have hw : wrapB n.Kind x (txt S x) = txt S x := by unfold wrapB; rw [if_neg (by rw [ho]; simp)]
          rw [hw, if_neg (by simp), hk2 _ (by omega)]
    have e0 : joinK n.Kind (txtL S n.Kind (n.Kids.take 0)) = [] := by
      rw [List.take_zero, txtL]; unfold joinK; split <;> rfl
    have := loop n.Kids 0 rfl
    rw [e0] at this
    refine this.trans ?_
    unfold scansionref08_text.k1
    rw [List.length_append] at hlen
    by_cases h3 : n.Kind = 3
    · have hs : signT n.Kind = [42] := by rw [h3]; rfl
      rw [if_pos (show (n.Kind == 3) = true by simpa using h3), roomS7 (by omega), Option.bind_some, hs]
    · rw [if_neg (show ¬ (n.Kind == 3) = true by simpa using h3)]
      by_cases h4 : n.Kind = 4
      · have hs : signT n.Kind = [43] := by rw [h4]; rfl
        rw [if_pos (show (n.Kind == 4) = true by simpa using h4), roomS7 (by omega), Option.bind_some, hs]
      · rw [if_neg (show ¬ (n.Kind == 4) = true by simpa using h4)]
        by_cases h5 : n.Kind = 5
        · have hs : signT n.Kind = [63] := by rw [h5]; rfl
          rw [if_pos (show (n.Kind == 5) = true by simpa using h5), roomS7 (by omega), Option.bind_some, hs]
        · have hs : signT n.Kind = [] := by unfold signT; rw [if_neg h3, if_neg h4, if_neg h5]
          rw [if_neg (show ¬ (n.Kind == 5) = true by simpa using h5), hs, List.append_nil]
theorem text_eq (hS : Fine S) {n : TNode} (h : nsize n ≤ 1000) (hf : formB S.length n 0 0 = true) : scansionref08_text n S = some (txt S n) := lim_eq (nsize n) fun fu hfu => text_r hS n fu 0 0 hfu h hf
end
end Go.Val

/- part S6 -/
/- Plain lemmas: a program's text; whether any program may be, and its text. -/
namespace Go.Val
set_option linter.unusedVariables false
set_option linter.unusedSimpArgs false
noncomputable section
def wordR (r : TRule) : Str := if r.Break then [98, 114, 101, 97, 107, 32] else [107, 101, 101, 112, 32]
def ruleT (S : List (List TRange)) (r : TRule) : Str := wordR r ++ (txt S r.Left ++ 47 :: (txt S r.Right ++ [59, 10]))
theorem fine_of {p : TProgram} (hf : FewP p) (hR : RightV p) : Fine p.Sets := fun s hs => ⟨(hR.2.2.1 s hs).1, hf.each s hs⟩
theorem ruleT_len {p : TProgram} (hf : FewP p) (hR : RightV p) {r : TRule} (hr : r ∈ p.Rules) : (txt p.Sets r.Left).length ≤ 130000 ∧ (txt p.Sets r.Right).length ≤ 130000 ∧ (ruleT p.Sets r).length ≤ 270000 ∧ (wordR r).length ≤ 6 := by
  obtain ⟨f1, f2⟩ := rulesP_form hR.2.2.2.2 r hr
  obtain ⟨n1, n2⟩ := hf.nodes r hr
  have h1 := txt_len (fine_of hf hR) r.Left 0 0 f1
  have h2 := txt_len (fine_of hf hR) r.Right 0 0 f2
  have h3 : (wordR r).length ≤ 6 := by unfold wordR; split <;> simp
  refine ⟨by omega, by omega, ?_, h3⟩
  unfold ruleT
  simp only [List.length_append, List.length_cons, List.length_nil]
  omega
theorem textP_len {S : List (List TRange)} : ∀ (l : List TRule), (∀ r ∈ l, (ruleT S r).length ≤ 270000) → (l.flatMap (ruleT S)).length ≤ 270000 * l.length
  | [], _ => by simp
  | r :: l, h => by
    have h1 := h r (by simp)
    have h2 := textP_len l fun x hx => h x (by simp [hx])
    rw [List.flatMap_cons, List.length_append, List.length_cons]; omega
theorem pPrint {p : TProgram} (hf : FewP p) (hR : RightV p) : ∀ (d i : Nat), i + d = p.Rules.length → Loop (syntax_Print.b1 p) ((p.Rules.take i).flatMap (ruleT p.Sets), (i : Int)) = some (p.Rules.flatMap (ruleT p.Sets), 0)
  | 0, i, h => by
    obtain rfl : i = p.Rules.length := by omega
    rw [List.take_length]
    refine Loop_end (R := some (p.Rules.flatMap (ruleT p.Sets), 0)) ?_
    simp only [syntax_Print.b1]
    rw [if_neg (by simp)]; rfl
  | d + 1, i, h => by
    have hi : i < p.Rules.length := by omega
    have hr := List.getElem_mem hi
    obtain ⟨f1, f2⟩ := rulesP_form hR.2.2.2.2 _ hr
    obtain ⟨n1, n2⟩ := hf.nodes _ hr
    obtain ⟨l1, l2, l3, l4⟩ := ruleT_len hf hR hr
    have hrl := hf.rules
    have hpre := textP_len (S := p.Sets) (p.Rules.take i) fun x hx => (ruleT_len hf hR (List.mem_of_mem_take hx)).2.2.1
    rw [List.length_take] at hpre
    have hfine := fine_of hf hR
    rw [← pPrint hf hR d (i + 1) (by omega), take_snocS hi, List.flatMap_append, List.flatMap_singleton]
    refine Loop_next ?_
    have hk2 : syntax_Print.k2 p ((p.Rules.take i).flatMap (ruleT p.Sets)) (i : Int) p.Rules[i] (wordR p.Rules[i]) = some (.next ((p.Rules.take i).flatMap (ruleT p.Sets) ++ ruleT p.Sets p.Rules[i], ((i + 1 : Nat) : Int))) := by
      unfold syntax_Print.k2
      rw [printed_eq hfine (by omega) f1, Option.bind_some, roomS7 (by omega), Option.bind_some, roomS7 (by omega), Option.bind_some, printed_eq hfine (by omega) f2, Option.bind_some, roomS7 (by omega), Option.bind_some, roomS7 (by omega), Option.bind_some, room_ok (by omega), Option.bind_some, w64s (by omega)]
      unfold ruleT
      simp
    simp only [syntax_Print.b1]
    rw [if_pos (by simpa using hi), idx_nat, List.getElem?_eq_getElem hi, Option.bind_some]
    unfold wordR at hk2
    cases hb : p.Rules[i].Break with
    | true => rw [hb, if_pos rfl] at hk2; rw [if_pos rfl]; exact hk2
    | false => rw [hb, if_neg (by simp)] at hk2; rw [if_neg (by simp)]; exact hk2
theorem rPrint {p : TProgram} (hf : FewP p) (hR : RightV p) : ∀ (d i : Nat), i + d = p.Rules.length → Loop (scansionref08_Print.b1 p) ((p.Rules.take i).flatMap (ruleT p.Sets), (i : Int)) = some (p.Rules.flatMap (ruleT p.Sets), 0)
  | 0, i, h => by
    obtain rfl : i = p.Rules.length := by omega
    rw [List.take_length]
    refine Loop_end (R := some (p.Rules.flatMap (ruleT p.Sets), 0)) ?_
    simp only [scansionref08_Print.b1]
    rw [if_neg (by simp)]; rfl
  | d + 1, i, h => by
    have hi : i < p.Rules.length := by omega
    have hr := List.getElem_mem hi
    obtain ⟨f1, f2⟩ := rulesP_form hR.2.2.2.2 _ hr
    obtain ⟨n1, n2⟩ := hf.nodes _ hr
    obtain ⟨l1, l2, l3, l4⟩ := ruleT_len hf hR hr
    have hrl := hf.rules
    have hpre := textP_len (S := p.Sets) (p.Rules.take i) fun x hx => (ruleT_len hf hR (List.mem_of_mem_take hx)).2.2.1
    rw [List.length_take] at hpre
    have hfine := fine_of hf hR
    rw [← rPrint hf hR d (i + 1) (by omega), take_snocS hi, List.flatMap_append, List.flatMap_singleton]
    refine Loop_next ?_
    have hk2 : scansionref08_Print.k2 p ((p.Rules.take i).flatMap (ruleT p.Sets)) (i : Int) p.Rules[i] (wordR p.Rules[i]) = some (.next ((p.Rules.take i).flatMap (ruleT p.Sets) ++ ruleT p.Sets p.Rules[i], ((i + 1 : Nat) : Int))) := by
      unfold scansionref08_Print.k2
      rw [roomS7 (by omega), Option.bind_some, text_eq hfine (by omega) f1, Option.bind_some, roomS7 (by omega), Option.bind_some, roomS7 (by omega), Option.bind_some, text_eq hfine (by omega) f2, Option.bind_some, roomS7 (by omega), Option.bind_some, roomS7 (by omega), Option.bind_some, w64s (by omega)]
      unfold ruleT
      simp
    simp only [scansionref08_Print.b1]
    rw [if_pos (by simpa using hi), idx_nat, List.getElem?_eq_getElem hi, Option.bind_some]
    unfold wordR at hk2
    cases hb : p.Rules[i].Break with
    | true => rw [hb, if_pos rfl] at hk2; rw [if_pos rfl]; exact hk2
    | false => rw [hb, if_neg (by simp)] at hk2; rw [if_neg (by simp)]; exact hk2
open Classical in
theorem Print_both {p : TProgram} (hf : FewP p) : ∃ b e, syntax_Print p = some (b, e) ∧ scansionref08_Print p = some (b, e) := by
  obtain ⟨h1, h2⟩ := Right_both hf
  unfold syntax_Print scansionref08_Print
  rw [h1, h2, Option.bind_some, Option.bind_some]
  by_cases hR : RightV p
  · rw [decide_eq_true hR, if_neg (by simp), if_neg (by simp)]
    exact ⟨_, _, pPrint hf hR p.Rules.length 0 (by omega), rPrint hf hR p.Rules.length 0 (by omega)⟩
  · rw [decide_eq_false hR, if_pos (by simp), if_pos (by simp)]
    exact ⟨_, _, rfl, rfl⟩
theorem SyntaxPrints_of (p : TProgram) : scansionlaw08_SyntaxPrints p = some true := by
  obtain ⟨b, hb, hF⟩ := few_eq p
  unfold scansionlaw08_SyntaxPrints
  rw [show scansionlaw08_awake = some true from rfl, Option.bind_some, hb, Option.bind_some]
  cases b with
  | false => simp
  | true =>
    have hf := hF rfl
    rw [if_neg (by simp)]
    obtain ⟨t, e, p1, p2⟩ := Print_both hf
    obtain ⟨r1, r2⟩ := Right_both hf
    rw [p1, Option.bind_some, p2, Option.bind_some, r1, Option.bind_some, r2]
    simp
end
end Go.Val
