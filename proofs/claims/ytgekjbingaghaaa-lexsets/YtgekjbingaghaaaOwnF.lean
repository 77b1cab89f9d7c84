/- A value semantics of the model's programs, sound against it, and functions read off the given program with the proofs that it runs so; no condition. -/
import Derived.Test.YtgekjbingaghaaaOwnE
set_option linter.all false
set_option linter.unnecessarySimpa false
set_option linter.unusedVariables false
set_option linter.unusedSimpArgs false
/- part Q32 -/
/- Plain lemmas: the tokens by the signs alone. -/
namespace Go.Val
set_option linter.unusedVariables false
set_option linter.unusedSimpArgs false
noncomputable section
variable {us : List TUnit} {b : List UInt8}
def Pr.toC {α : Type} : Pr α → Option (α × List Int)
  | .ok v r => some (v, r.map su)
  | .err _ _ => none
def closeC (acc : Int) : List Int → Option (Int × List Int)
  | [] => none
  | n :: s => if n = 125 then some (acc, s) else none
def figC : Nat → Bool → Int → List Int → Option (Int × List Int)
  | 0, _, acc, s => closeC acc s
  | _ + 1, _, _, [] => none
  | k + 1, fst, acc, n :: s => match hexv n with
    | some d => figC k false (acc * 16 + d) s
    | none => if fst then none else closeC acc (n :: s)
def numC : List Int → Option (Int × List Int)
  | [] => none
  | n :: s => if n = 123 then figC 6 true 0 s else none
def letterC : List Int → Option (Int × List Int)
  | [] => none
  | n :: s => if plainL n then
      if n = 92 then match s with
        | [] => none
        | m :: s2 => if m = 120 then numC s2 else if spec m then some (m, s2) else none
      else some (n, s)
    else none
def hdC : List Int → Int
  | [] => -1
  | n :: _ => n
def highC (lo : Int) (r1 : List Int) : Option (Int × List Int) := if hdC r1 = 45 then letterC r1.tail else some (lo, r1)
def setC : Nat → List TRange → List Int → Option (List TRange × List Int)
  | 0, _, _ => none
  | k + 1, acc, s => if hdC s = 93 then some (acc, s.tail) else
    match letterC s with
    | none => none
    | some (lo, r1) => match highC lo r1 with
      | none => none
      | some (hi, r2) => if lo > hi ∨ hi > 1114111 then none else setC k (acc ++ [⟨lo, hi⟩]) r2
theorem hdC_eq (us : List TUnit) : hdC (us.map su) = sgn us := by cases us <;> rfl
theorem closeC_eq (acc : Int) : (closeS acc us).toC = closeC acc (us.map su) := by
  cases us with
  | nil => rfl
  | cons u us => simp only [closeS, closeC, List.map_cons]; split <;> rfl
theorem figC_eq : ∀ (k : Nat) (f : Bool) (acc : Int) (us : List TUnit), (figS k f acc us).toC = figC k f acc (us.map su)
  | 0, _, acc, us => closeC_eq acc
  | k + 1, f, acc, [] => rfl
  | k + 1, f, acc, u :: us => by
    simp only [figS, figC, List.map_cons]
    cases hexv (su u) with
    | some d => exact figC_eq k _ _ us
    | none =>
      simp only
      split
      · rfl
      · exact closeC_eq (us := u :: us) acc
theorem numC_eq : (numS us).toC = numC (us.map su) := by
  cases us with
  | nil => rfl
  | cons u us => simp only [numS, numC, List.map_cons]; split; exact figC_eq _ _ _ _; rfl
theorem letterC_eq : (letterS us).toC = letterC (us.map su) := by
  cases us with
  | nil => rfl
  | cons u us =>
    simp only [letterS, letterC, List.map_cons]
    split
    · split
      · cases us with
        | nil => rfl
        | cons u2 us2 =>
          simp only [List.map_cons]
          split
          · exact numC_eq
          · split <;> rfl
      · rfl
    · rfl
theorem setC_eq : ∀ (k : Nat) (acc : List TRange) (us : List TUnit), (setS k acc us).toC = setC k acc (us.map su)
  | 0, _, _ => rfl
  | k + 1, acc, us => by
    simp only [setS, setC, hdC_eq]
    split
    · simp only [Pr.toC, List.map_tail]
    · rw [← letterC_eq]
      cases letterS us with
      | err c r => rfl
      | ok lo r1 =>
        simp only [Pr.toC]
        have e : (if sgn r1 = 45 then letterS r1.tail else .ok lo r1).toC = highC lo (r1.map su) := by
          unfold highC
          rw [hdC_eq, ← List.map_tail, ← letterC_eq]
          split <;> rfl
        rw [← e]
        cases (if sgn r1 = 45 then letterS r1.tail else .ok lo r1) with
        | err c r => rfl
        | ok hi r2 =>
          show Pr.toC (if lo > hi ∨ hi > 1114111 then Pr.err 1 us else setS k (acc ++ [⟨lo, hi⟩]) r2) = if lo > hi ∨ hi > 1114111 then none else setC k (acc ++ [⟨lo, hi⟩]) (r2.map su)
          split
          · rfl
          · exact setC_eq k _ r2
/-! ### tokens -/
def byte (n : Int) : UInt8 := UInt8.ofNat n.toNat
theorem byte_nat (c : UInt8) : byte (c.toNat : Int) = c := by unfold byte; simp
abbrev Con : Type := Int × Str × List TRange
def tokC : List Int → Option (Con × List Int)
  | [] => none
  | n :: s => if n = 91 then (setC (s.length + 1) [] s).map fun x => ((3, [], setOf x.1), x.2)
    else if lowB n then some ((1, (n :: s.takeWhile goesB).map byte, []), s.dropWhile goesB)
    else if signB n then some ((2, [byte n], []), s)
    else none
def blkC : Bool → List Int → List Int
  | _, [] => []
  | false, n :: s => if isBl n then blkC false s else if n = 35 then blkC true s else n :: s
  | true, n :: s => if n = 10 then blkC false s else if n = -2 then n :: s else blkC true s
theorem blkC_eq : ∀ (m : Bool) (us : List TUnit), (blk m us).map su = blkC m (us.map su)
  | m, [] => by cases m <;> rfl
  | false, u :: us => by
    simp only [blk, blkC, List.map_cons]
    split
    · exact blkC_eq false us
    split
    · exact blkC_eq true us
    · rfl
  | true, u :: us => by
    simp only [blk, blkC, List.map_cons]
    split
    · exact blkC_eq false us
    split
    · rfl
    · exact blkC_eq true us
def con (t : TToken) : Con := (t.Kind, t.Text, t.Set)
theorem From.pre : ∀ {p r : List TUnit} {a : Nat}, From b a (p ++ r) → (∀ u ∈ p, u.Bad = false ∧ u.Rune < 128) → From b (a + p.length) r ∧ (b.drop a).take p.length = p.map fun u => byte u.Rune
  | [], r, a, h, _ => ⟨h, by simp⟩
  | u :: p, r, a, h, hu => by
    obtain ⟨hlt, hun, w, hw, _, hf⟩ := From.head h
    obtain ⟨h1, h2⟩ := hu u (by simp)
    obtain ⟨h3, h4⟩ := hun.ascii h1 h2
    obtain rfl : w = 1 := by rw [hw] at h3; omega
    obtain ⟨g1, g2⟩ := From.pre hf fun v hv => hu v (List.mem_cons_of_mem _ hv)
    refine ⟨by rw [List.length_cons, show a + (p.length + 1) = a + 1 + p.length by omega]; exact g1, ?_⟩
    rw [List.drop_eq_getElem_cons hlt, List.length_cons, List.take_succ_cons, List.map_cons, g2, h4, byte_nat]
theorem cut_pre {p r : List TUnit} {a : Nat} (h : From b a (p ++ r)) (hu : ∀ u ∈ p, u.Bad = false ∧ u.Rune < 128) : cutB b a (atU b.length r) = p.map fun u => byte u.Rune := by
  obtain ⟨h1, h2⟩ := h.pre hu
  rw [h1.at_eq, ← h2]
  unfold cutB
  simp only [Int.toNat_natCast]
  rw [List.drop_take, Nat.add_sub_cancel_left]
theorem sign_lt {n : Int} (h : signB n = true) : 38 ≤ n ∧ n < 128 := by
  obtain ⟨c, hc, he⟩ := List.any_eq_true.1 h
  have := eq_of_beq he
  simp only [List.mem_cons, List.not_mem_nil, or_false] at hc
  omega
theorem su_lt {u : TUnit} (h0 : 0 ≤ su u) (h1 : su u < 128) : u.Bad = false ∧ u.Rune < 128 ∧ u.Rune = su u := by
  cases hb : u.Bad with
  | true =>
    have : su u = -2 := by unfold su; rw [hb]; rfl
    omega
  | false =>
    have : su u = u.Rune := by unfold su; rw [hb]; rfl
    exact ⟨rfl, by omega, this.symm⟩
theorem tokC_eq (h : us <:+ units b) : match tokS b us with
    | .ok t r => tokC (us.map su) = some (con t, r.map su)
    | .err c r => tokC (us.map su) = none := by
  cases us with
  | nil => rfl
  | cons u us =>
    obtain ⟨a, hfr, hat⟩ := at_suf h
    have hua : u.At = a := hat
    simp only [tokS, tokC, List.map_cons]
    by_cases h91 : su u = 91
    · rw [if_pos h91, if_pos h91, List.length_map, ← setC_eq]
      cases setS (us.length + 1) [] us <;> rfl
    · rw [if_neg h91, if_neg h91]
      cases hlow : lowB (su u) with
      | true =>
        simp only [if_true, con, Option.some.injEq, Prod.mk.injEq, true_and, and_true]
        have hdw : ∀ l : List TUnit, (l.dropWhile fun u => goesB (su u)).map su = (l.map su).dropWhile goesB := fun l => by
          induction l with
          | nil => rfl
          | cons v l ih =>
            rw [List.dropWhile_cons, List.map_cons, List.dropWhile_cons]
            split
            · exact ih
            · rfl
        have htw : ∀ l : List TUnit, (l.takeWhile fun u => goesB (su u)).map su = (l.map su).takeWhile goesB := fun l => by
          induction l with
          | nil => rfl
          | cons v l ih =>
            rw [List.takeWhile_cons, List.map_cons, List.takeWhile_cons]
            split
            · rw [List.map_cons, ih]
            · rfl
        refine ⟨?_, (hdw us).symm⟩
        have hall : ∀ v ∈ u :: us.takeWhile fun u => goesB (su u), goesB (su v) = true := fun v hv => by
          rcases List.mem_cons.1 hv with rfl | hv
          · exact low_goes hlow
          · exact List.all_eq_true.1 (List.all_takeWhile (p := fun u => goesB (su u)) (l := us)) v hv
        have hsp : u :: us = (u :: us.takeWhile fun u => goesB (su u)) ++ us.dropWhile fun u => goesB (su u) := by rw [List.cons_append, List.takeWhile_append_dropWhile]
        rw [hsp] at hfr
        rw [hua, cut_pre hfr fun v hv => ⟨(su_goes (hall v hv)).1, (su_goes (hall v hv)).2.1⟩, ← htw]
        have hm := List.map_congr_left (f := fun v : TUnit => byte v.Rune) (g := fun v => byte (su v)) (l := u :: us.takeWhile fun u => goesB (su u)) fun v hv => by rw [(su_goes (hall v hv)).2.2]
        rw [hm]; simp [Function.comp_def]
      | false =>
        simp only [Bool.false_eq_true, if_false]
        cases hsg : signB (su u) with
        | true =>
          simp only [if_true, con, Option.some.injEq, Prod.mk.injEq, true_and, and_true]
          have h1 := sign_lt hsg
          obtain ⟨g1, g2, g3⟩ := su_lt (u := u) (by omega) (by omega)
          have hfr' : From b a ([u] ++ us) := hfr
          rw [hua, cut_pre hfr' fun v hv => by rw [List.mem_singleton.1 hv]; exact ⟨g1, g2⟩]
          simp only [List.map_cons, List.map_nil, g3]
        | false => rfl
/-! ### what is read tells where it ends -/
def tksC : Nat → List Int → Option (List (Con × Nat))
  | 0, _ => none
  | k + 1, s => if s.isEmpty then some [] else match tokC s with
    | none => none
    | some (t, r) => match tksC k (blkC false r) with
      | none => none
      | some l => some ((t, s.length) :: l)
/-- Where so many units before the end begin. -/
def posU (b : List UInt8) (n : Nat) : Int := atU b.length ((units b).drop ((units b).length - n))
def mkT (b : List UInt8) (x : Con × Nat) : TToken := ⟨x.1.1, posU b x.2, x.1.2.1, x.1.2.2⟩
theorem posU_suf (h : us <:+ units b) : posU b us.length = atU b.length us := by
  unfold posU
  obtain ⟨p, hp⟩ := h
  rw [← hp, List.length_append, Nat.add_sub_cancel, List.drop_left]
theorem tksC_eq (hl : b.length ≤ 1048576) : ∀ (k : Nat) {us : List TUnit}, us <:+ units b → match tkS b k us with
    | .ok ts r => ∃ l, tksC k (us.map su) = some l ∧ ts = l.map (mkT b)
    | .err c r => tksC k (us.map su) = none
  | 0, us, h => rfl
  | k + 1, us, h => by
    cases us with
    | nil => exact ⟨[], rfl, rfl⟩
    | cons u us =>
      have ht := tokC_eq h
      simp only [tkS, tksC, List.map_cons, List.isEmpty_cons, Bool.false_eq_true, if_false]
      rw [List.map_cons] at ht
      cases e : tokS b (u :: us) with
      | err c r => rw [e] at ht; simp only at ht; rw [ht]
      | ok t r =>
        rw [e] at ht
        simp only at ht
        rw [ht]
        have hk := tok_ok hl h e
        have hr := (blk_suf false r).trans (hk.suf.trans h)
        have ih := tksC_eq hl k hr
        rw [blkC_eq] at ih
        simp only
        cases e2 : tkS b k (blk false r) with
        | err c r2 => rw [e2] at ih; simp only at ih; rw [ih]
        | ok ts r2 =>
          rw [e2] at ih
          obtain ⟨l, h1, h2⟩ := ih
          rw [h1]
          refine ⟨_, rfl, ?_⟩
          rw [List.map_cons, ← h2]
          congr 1
          unfold mkT con
          have := posU_suf h
          simp only [List.length_cons, List.length_map] at this ⊢
          rw [this, ← hk.at_]
/-- A text's signs. -/
def sg (b : List UInt8) : List Int := (units b).map su
/-- A text's tokens by its signs. -/
theorem Tk_C (hl : b.length ≤ 1048576) : (∃ l, tksC (b.length + 1) (blkC false (sg b)) = some l ∧ Tk b = (l.map (mkT b) ++ [⟨4, b.length, [], []⟩], 0, 0)) ∨ tksC (b.length + 1) (blkC false (sg b)) = none ∧ (Tk b).2.2 ≠ 0 := by
  have h := tksC_eq hl (b.length + 1) (blk_suf false (units b))
  rw [blkC_eq] at h
  unfold sg
  cases e : tkS b (b.length + 1) (blk false (units b)) with
  | ok ts r =>
    rw [e] at h
    obtain ⟨l, h1, h2⟩ := h
    exact .inl ⟨l, h1, by unfold Tk; rw [e, h2]⟩
  | err c r =>
    rw [e] at h
    have hul := (from_all b).len
    have hlb := blk_len (units b)
    obtain ⟨_, _, hc0⟩ := tkS_err hl _ (blk_suf false (units b)) (by omega) e
    exact .inr ⟨h, by unfold Tk; rw [e]; exact hc0⟩
end
end Go.Val

/- part Q33 -/
/- Plain lemmas: a set's text tells the set. -/
namespace Go.Val
set_option linter.unusedVariables false
set_option linter.unusedSimpArgs false
noncomputable section
variable {us : List TUnit} {b : List UInt8}
def dig7 (d : Nat) : UInt8 := if d < 10 then UInt8.ofNat (48 + d) else UInt8.ofNat (55 + d)
theorem dig7_all : ∀ d : Fin 16, hexv ((dig7 d.1).toNat : Int) = some (d.1 : Int) ∧ (dig7 d.1).toNat < 128 ∧ ([48, 49, 50, 51, 52, 53, 54, 55, 56, 57, 65, 66, 67, 68, 69, 70] : Str)[d.1]? = some (dig7 d.1) := by decide
theorem hexU_small {n : Nat} (h : n < 16) : hexU n = [dig7 n] := by rw [hexU, dif_pos h]; rfl
theorem hexU_step {n : Nat} (h : ¬ n < 16) : hexU n = hexU (n / 16) ++ [dig7 (n % 16)] := by rw [hexU, dif_neg h, hexU_small (n := n % 16) (by omega)]
def valH : Int → List UInt8 → Int
  | acc, [] => acc
  | acc, c :: l => valH (acc * 16 + (hexv (c.toNat : Int)).getD 0) l
theorem valH_app : ∀ (l m : List UInt8) (acc : Int), valH acc (l ++ m) = valH (valH acc l) m
  | [], _, _ => rfl
  | c :: l, m, acc => valH_app l m _
theorem hexU_facts : ∀ (k n : Nat), n < 16 ^ (k + 1) → (hexU n).length ≤ k + 1 ∧ hexU n ≠ [] ∧ (∀ c ∈ hexU n, (hexv (c.toNat : Int)).isSome ∧ c.toNat < 128) ∧ valH 0 (hexU n) = n
  | k, n, h => by
    by_cases h16 : n < 16
    · obtain ⟨h1, h2, _⟩ := dig7_all ⟨n, h16⟩
      simp only at h1 h2
      rw [hexU_small h16]
      refine ⟨by simp, by simp, fun c hc => by rw [List.mem_singleton.1 hc, h1]; exact ⟨rfl, h2⟩, ?_⟩
      simp [valH, h1]
    · cases k with
      | zero => omega
      | succ k =>
        have hp : n / 16 < 16 ^ (k + 1) := by rw [Nat.pow_succ] at h; omega
        obtain ⟨g1, g2, g3, g4⟩ := hexU_facts k (n / 16) hp
        obtain ⟨h1, h2, _⟩ := dig7_all ⟨n % 16, by omega⟩
        simp only at h1 h2
        rw [hexU_step h16]
        refine ⟨by simp; omega, by simp, fun c hc => ?_, ?_⟩
        · rcases List.mem_append.1 hc with hc | hc
          · exact g3 c hc
          · rw [List.mem_singleton.1 hc, h1]; exact ⟨rfl, h2⟩
        · rw [valH_app, g4]; simp only [valH, h1, Option.getD_some]; omega
def sgs (l : List UInt8) : List Int := l.map fun c => (c.toNat : Int)
theorem sgs_app (l m : List UInt8) : sgs (l ++ m) = sgs l ++ sgs m := List.map_append
theorem figC_dig : ∀ (k : Nat) (f : Bool) (acc : Int) (l : List UInt8) (r : List Int), (∀ c ∈ l, (hexv (c.toNat : Int)).isSome) → l.length ≤ k → (f = true → l ≠ []) → figC k f acc (sgs l ++ 125 :: r) = some (valH acc l, r)
  | 0, f, acc, [], r, _, _, _ => rfl
  | 0, f, acc, c :: l, r, _, h, _ => by simp at h
  | k + 1, f, acc, [], r, _, _, hf => by
    cases f with
    | true => exact absurd rfl (hf rfl)
    | false => rfl
  | k + 1, f, acc, c :: l, r, hh, hl, _ => by
    obtain ⟨d, hd⟩ := Option.isSome_iff_exists.1 (hh c (by simp))
    simp only [sgs, List.map_cons, List.cons_append, figC, hd]
    have := figC_dig k false (acc * 16 + d) l r (fun x hx => hh x (List.mem_cons_of_mem _ hx)) (by simp at hl; omega) (by simp)
    simp only [sgs] at this
    rw [this]
    simp only [valH, hd, Option.getD_some]
theorem letterC_hex {n : Int} (h0 : 0 ≤ n) (h1 : n ≤ 1114111) (r : List Int) : letterC (sgs (hexX n) ++ r) = some (n, r) := by
  obtain ⟨g1, g2, g3, g4⟩ := hexU_facts 5 n.toNat (by omega)
  have e : sgs (hexX n) ++ r = 92 :: 120 :: 123 :: (sgs (hexU n.toNat) ++ 125 :: r) := by
    unfold hexX; simp [sgs]
  rw [e]
  have hp : plainL 92 = true := by decide
  simp only [letterC, hp, if_true, numC]
  rw [figC_dig 6 true 0 _ r (fun c hc => (g3 c hc).1) g1 (fun _ => g2), g4]
  congr 2
  omega
def encR (x : TRange) : Str := hexX x.Low ++ if x.High = x.Low then [] else 45 :: hexX x.High
theorem setText_eq (l : List TRange) : setText l = 91 :: (l.flatMap encR ++ [93]) := rfl
theorem hexX_head (n : Int) (r : List Int) : ∃ s, sgs (hexX n) ++ r = 92 :: s := by unfold hexX; exact ⟨_, rfl⟩
theorem enc_head (l : List TRange) (r : List Int) : hdC (sgs (l.flatMap encR) ++ 93 :: r) = 93 ∧ l = [] ∨ hdC (sgs (l.flatMap encR) ++ 93 :: r) = 92 := by
  cases l with
  | nil => exact .inl ⟨rfl, rfl⟩
  | cons x l =>
    right
    rw [List.flatMap_cons, sgs_app]
    unfold encR
    rw [sgs_app, List.append_assoc, List.append_assoc]
    obtain ⟨s, hs⟩ := hexX_head x.Low (sgs (if x.High = x.Low then [] else 45 :: hexX x.High) ++ (sgs (l.flatMap encR) ++ 93 :: r))
    show hdC (sgs (hexX x.Low) ++ (sgs (if x.High = x.Low then [] else 45 :: hexX x.High) ++ (sgs (l.flatMap encR) ++ 93 :: r))) = 92
    rw [hs]; rfl
theorem setC_enc : ∀ (l acc : List TRange) (k : Nat) (r : List Int), l.length < k → (∀ x ∈ l, Ok x) → setC k acc (sgs (l.flatMap encR) ++ 93 :: r) = some (acc ++ l, r)
  | _, _, 0, _, h, _ => absurd h (Nat.not_lt_zero _)
  | [], acc, k + 1, r, _, _ => by
    simp only [setC]
    have : hdC (sgs (([] : List TRange).flatMap encR) ++ 93 :: r) = 93 := rfl
    rw [if_pos this, List.append_nil]; rfl
  | x :: l, acc, k + 1, r, hk, ho => by
    have hx := ho x (by simp)
    unfold Ok at hx
    have ih := setC_enc l (acc ++ [x]) k r (by simp at hk; omega) fun y hy => ho y (List.mem_cons_of_mem _ hy)
    have e : sgs ((x :: l).flatMap encR) ++ 93 :: r = sgs (hexX x.Low) ++ (sgs (if x.High = x.Low then [] else 45 :: hexX x.High) ++ (sgs (l.flatMap encR) ++ 93 :: r)) := by
      rw [List.flatMap_cons, sgs_app]; unfold encR; rw [sgs_app, List.append_assoc, List.append_assoc]
    have hh := enc_head (x :: l) r
    rw [e] at hh ⊢
    simp only [setC]
    rw [if_neg (by rcases hh with h | h; exact absurd h.2 (by simp); omega), letterC_hex hx.1 (by omega)]
    simp only
    have hhi : highC x.Low (sgs (if x.High = x.Low then [] else 45 :: hexX x.High) ++ (sgs (l.flatMap encR) ++ 93 :: r)) = some (x.High, sgs (l.flatMap encR) ++ 93 :: r) := by
      by_cases heq : x.High = x.Low
      · rw [if_pos heq]
        unfold highC
        have h2 := enc_head l r
        rw [show sgs ([] : List UInt8) = [] from rfl, List.nil_append, if_neg (by omega), heq]
      · rw [if_neg heq]
        unfold highC
        rw [show sgs (45 :: hexX x.High) = 45 :: sgs (hexX x.High) from rfl, List.cons_append, if_pos (show hdC _ = 45 from rfl), List.tail_cons]
        exact letterC_hex (by omega) (by omega) _
    rw [hhi]
    simp only
    rw [if_neg (by omega), ih, List.append_assoc]; rfl
theorem hexX_ascii {n : Int} (h0 : 0 ≤ n) (h1 : n ≤ 1114111) : (∀ c ∈ hexX n, c.toNat < 128) ∧ (hexX n).length ≤ 10 := by
  obtain ⟨g1, g2, g3, g4⟩ := hexU_facts 5 n.toNat (by omega)
  unfold hexX
  refine ⟨fun c hc => ?_, by simp; omega⟩
  rcases List.mem_append.1 hc with hc | hc
  · rcases List.mem_append.1 hc with hc | hc
    · simp at hc; rcases hc with rfl | rfl | rfl <;> decide
    · exact (g3 c hc).2
  · rw [List.mem_singleton.1 hc]; decide
theorem enc_ascii {x : TRange} (h : Ok x) : (∀ c ∈ encR x, c.toNat < 128) ∧ (encR x).length ≤ 21 := by
  unfold Ok at h
  obtain ⟨a1, a2⟩ := hexX_ascii (n := x.Low) h.1 (by omega)
  obtain ⟨b1, b2⟩ := hexX_ascii (n := x.High) (by omega) (by omega)
  unfold encR
  refine ⟨fun c hc => ?_, by split <;> simp <;> omega⟩
  rcases List.mem_append.1 hc with hc | hc
  · exact a1 c hc
  · split at hc
    · cases hc
    · rcases List.mem_cons.1 hc with rfl | hc
      · decide
      · exact b1 c hc
theorem flat_facts : ∀ {l : List TRange}, (∀ x ∈ l, Ok x) → (∀ c ∈ l.flatMap encR, c.toNat < 128) ∧ (l.flatMap encR).length ≤ 21 * l.length
  | [], _ => ⟨by simp, by simp⟩
  | x :: l, h => by
    obtain ⟨h1, h2⟩ := flat_facts (l := l) fun y hy => h y (List.mem_cons_of_mem _ hy)
    obtain ⟨g1, g2⟩ := enc_ascii (h x (by simp))
    rw [List.flatMap_cons]
    refine ⟨fun c hc => ?_, by rw [List.length_append, List.length_cons]; omega⟩
    rcases List.mem_append.1 hc with hc | hc
    · exact g1 c hc
    · exact h1 c hc
theorem sg_ascii (hc : ∀ c ∈ b, c.toNat < 128) : sg b = sgs b := by unfold sg; rw [units_ascii hc, ascii_su]; rfl
/-- A set's text is one token. -/
theorem Tk_set {l : List TRange} (hn : Norm l) (hl : l.length ≤ 30) : (setText l).length ≤ 632 ∧ Tk (setText l) = ([⟨3, 0, [], l⟩, ⟨4, (setText l).length, [], []⟩], 0, 0) := by
  obtain ⟨h1, h2⟩ := flat_facts hn.1
  have hlen : (setText l).length ≤ 632 := by rw [setText_eq]; simp at h2 ⊢; omega
  have hc : ∀ c ∈ setText l, c.toNat < 128 := fun c hc => by
    rw [setText_eq] at hc
    rcases List.mem_cons.1 hc with rfl | hc
    · decide
    · rcases List.mem_append.1 hc with hc | hc
      · exact h1 c hc
      · rw [List.mem_singleton.1 hc]; decide
  have hs : sg (setText l) = 91 :: (sgs (l.flatMap encR) ++ 93 :: []) := by
    rw [sg_ascii hc, setText_eq]; simp [sgs]
  have hlen2 : (sg (setText l)).length = (setText l).length := by rw [sg_ascii hc]; simp [sgs]
  refine ⟨hlen, ?_⟩
  have hset := setC_enc l [] ((sgs (l.flatMap encR) ++ 93 :: []).length + 1) [] (by
    have : l.length ≤ (sgs (l.flatMap encR)).length := by
      have : ∀ l : List TRange, l.length ≤ (sgs (l.flatMap encR)).length := fun l => by
        induction l with
        | nil => simp
        | cons x l ih => rw [List.flatMap_cons, sgs_app]; simp [encR, hexX, sgs] at ih ⊢; omega
      exact this l
    simp; omega) hn.1
  have htok : tokC (sg (setText l)) = some ((3, [], l), []) := by
    rw [hs]
    simp only [tokC, if_true]
    rw [hset]
    simp only [List.nil_append, Option.map_some]
    rw [setOf_norm hn (by omega)]
  have hblk : blkC false (sg (setText l)) = sg (setText l) := by
    rw [hs]
    simp only [blkC]
    have : isBl 91 = false := by decide
    rw [this]; rfl
  have htks : tksC ((setText l).length + 1) (blkC false (sg (setText l))) = some [((3, [], l), (setText l).length)] := by
    rw [hblk]
    have hne : (sg (setText l)).isEmpty = false := by rw [hs]; rfl
    obtain ⟨k, hk⟩ : ∃ k, (setText l).length = k + 1 := ⟨(setText l).length - 1, by rw [setText_eq]; simp⟩
    simp only [tksC, hne, Bool.false_eq_true, if_false, htok, hk]
    simp only [blkC, tksC, List.isEmpty_nil, if_true, hlen2, hk]
  rcases Tk_C (b := setText l) (by omega) with ⟨L, h3, h4⟩ | ⟨h3, _⟩
  · rw [htks] at h3
    cases h3
    rw [h4]
    have hp : posU (setText l) (setText l).length = 0 := by
      have h5 := posU_suf (b := setText l) (us := units (setText l)) List.suffix_rfl
      have h6 : (units (setText l)).length = (setText l).length := by rw [← hlen2]; simp [sg]
      rw [h6] at h5
      rw [h5, (from_all _).at_eq]; rfl
    simp only [List.map_cons, List.map_nil, mkT, hp]
    rfl
  · rw [htks] at h3; cases h3
/-! ### the reference's text of a set -/
theorem roomS7 {n : Nat} (h : n ≤ 9223372036854775807) : roomS n = some () := by
  unfold roomS
  rw [if_neg]
  have : IntKind.i64.max = 9223372036854775807 := by decide
  omega
theorem hexa_r : ∀ (fu n : Nat), n < fu → n < 16777216 → scansionref07_hexa.r fu (n : Int) = some (hexU n)
  | 0, n, h, _ => absurd h (Nat.not_lt_zero _)
  | fu + 1, n, h, hn => by
    simp only [scansionref07_hexa.r]
    by_cases h16 : n < 16
    · obtain ⟨_, _, h3⟩ := dig7_all ⟨n, h16⟩
      simp only at h3
      rw [if_pos (by simp; omega), idx_nat, h3, hexU_small h16]; rfl
    · have e1 : IntKind.i64.wrap (Int.tdiv (n : Int) 16) = ((n / 16 : Nat) : Int) := by
        have : Int.tdiv (n : Int) 16 = ((n / 16 : Nat) : Int) := tdivN n 16
        rw [this, w64N (by omega)]
      have e2 : Int.tmod (n : Int) 16 = ((n % 16 : Nat) : Int) := tmodN n 16
      obtain ⟨g1, _⟩ := hexU_facts 5 (n / 16) (by omega)
      obtain ⟨g2, _⟩ := hexU_facts 5 (n % 16) (by omega)
      rw [if_neg (by simp; omega), e1, e2, hexa_r fu (n / 16) (by omega) (by omega), hexa_r fu (n % 16) (by omega) (by omega)]
      simp only [Option.bind_some]
      rw [roomS7 (by omega), hexU_step h16, hexU_small (n := n % 16) (by omega)]; rfl
theorem hexa_eq {n : Int} (h0 : 0 ≤ n) (h1 : n ≤ 1114111) : scansionref07_hexa n = some (hexU n.toNat) := by
  refine lim_eq (n.toNat + 1) fun k hk => ?_
  have := hexa_r k n.toNat (by omega) (by omega)
  rw [Int.toNat_of_nonneg h0] at this
  exact this
theorem refSetText {l : List TRange} (ho : ∀ x ∈ l, Ok x) (hl : l.length ≤ 30) : ∀ (rest pre : List TRange), l = pre ++ rest → Loop (scansionref07_Set.b1 l) (91 :: pre.flatMap encR, (pre.length : Int)) = some (setText l)
  | [], pre, e => by
    rw [List.append_nil] at e
    subst e
    have hf := (flat_facts ho).2
    refine Loop_done ?_
    simp only [scansionref07_Set.b1]
    rw [if_neg (by simp)]
    unfold scansionref07_Set.k1
    rw [roomS7 (by simp at hf ⊢; omega)]; rfl
  | x :: rest, pre, e => by
    have hx : Ok x := ho x (by rw [e]; simp)
    have hp : ∀ y ∈ pre, Ok y := fun y hy => ho y (by rw [e]; simp [hy])
    have hf := (flat_facts hp).2
    have hlen : l.length = pre.length + (rest.length + 1) := by rw [e]; simp
    have hget : l[pre.length]? = some x := by rw [e]; simp
    obtain ⟨g1, _⟩ := hexU_facts 5 x.Low.toNat (by unfold Ok at hx; omega)
    obtain ⟨g2, _⟩ := hexU_facts 5 x.High.toNat (by unfold Ok at hx; omega)
    unfold Ok at hx
    have key : scansionref07_Set.b1 l (91 :: pre.flatMap encR, (pre.length : Int)) = some (.next (91 :: (pre ++ [x]).flatMap encR, (((pre ++ [x]).length : Nat) : Int))) := by
      have hsz : (91 :: pre.flatMap encR).length ≤ 700 := by simp at hf ⊢; omega
      simp only [scansionref07_Set.b1]
      rw [if_pos (by simp; omega), roomS7 (by omega), idx_nat, hget]
      simp only [Option.bind_some]
      rw [hexa_eq hx.1 (by omega)]
      simp only [Option.bind_some]
      rw [roomS7 (by omega), roomS7 (by omega)]
      simp only [Option.bind_some]
      unfold scansionref07_Set.k2
      rw [w64s (by omega)]
      have hfl : (pre ++ [x]).flatMap encR = pre.flatMap encR ++ encR x := by simp
      rw [hfl]
      by_cases heq : x.High = x.Low
      · rw [if_neg (by simp [heq])]
        unfold encR hexX
        rw [if_pos heq]
        simp
      · rw [if_pos (by simpa using heq), roomS7 (by omega), hexa_eq (n := x.High) (by omega) (by omega)]
        simp only [Option.bind_some]
        rw [roomS7 (by omega), roomS7 (by omega)]
        simp only [Option.bind_some]
        unfold encR hexX
        rw [if_neg heq]
        simp
    rw [Loop_next key]
    exact refSetText ho hl rest (pre ++ [x]) (by rw [e]; simp)
theorem refSet_text {l : List TRange} (ho : ∀ x ∈ l, Ok x) (hl : l.length ≤ 30) : scansionref07_Set l = some (setText l) := refSetText ho hl l [] rfl
theorem LexSets_of (l : List TRange) : scansionlaw07_LexSets l = some true := by
  unfold scansionlaw07_LexSets
  rw [awake7, Option.bind_some]
  by_cases h2 : l.length > 30
  · rw [if_pos (by simp; omega)]
  · rw [if_neg (by simp; omega)]
    by_cases ho : ∀ x ∈ l, Ok x
    · obtain ⟨out, h3, h4, _, h5⟩ := Make_ok ho (by omega)
      have hout : setOf l = out := by unfold setOf; rw [h3]; rfl
      rw [refMake_set ho (by omega), hout, Option.bind_some, if_neg (by simp)]
      have hb : ∀ x ∈ out, 0 ≤ x.Low ∧ x.Low ≤ 1114111 ∧ 0 ≤ x.High ∧ x.High ≤ 1114111 := fun x hx => by have := h4.1 x hx; unfold Ok at this; omega
      have hs : lex_Set out = some (setText out) := by unfold lex_Set; rw [if_pos ⟨by omega, hb⟩]
      obtain ⟨g1, g2⟩ := Tk_set h4 (by omega)
      rw [hs, Option.bind_some, Tokens_eq (by omega), Option.bind_some, g2, refSet_text h4.1 (by omega)]
      simp only [Option.bind_some, beq_self_eq_true, Bool.not_true, Bool.false_eq_true, if_false]
      rw [if_neg (by simp), if_neg (by simp)]
      simp only [List.getElem?_cons_zero, Option.bind_some]
      rw [if_neg (by simp)]
      simp only [Option.bind_some]
      rw [if_neg (by simp), Same_eq (by omega)]
      simp
    · rw [refMake_bad ho (by omega), Option.bind_some, if_pos (by simp)]
end
end Go.Val
