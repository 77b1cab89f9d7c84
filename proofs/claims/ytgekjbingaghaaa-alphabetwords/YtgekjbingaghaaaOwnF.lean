/- A value semantics of the model's programs, sound against it, and functions read off the given program with the proofs that it runs so; no condition. -/
import Derived.Test.YtgekjbingaghaaaOwnE
set_option linter.all false
set_option linter.unnecessarySimpa false
set_option linter.unusedVariables false
set_option linter.unusedSimpArgs false
/- part R16 -/
/- Plain lemmas: the program's alphabet and the reference's, whole. -/
namespace Go.Val
set_option linter.unusedVariables false
set_option linter.unusedSimpArgs false
theorem Equal_same : slices_Equal_api_Range_api_Range = scansionref02_Same := rfl
/-- Make by both. -/
theorem Make_both {l : List TRange} (hl : l.length ≤ 1000000) : ∃ out e, ranges_Make l = some (out, e) ∧ scansionref02_Make l = some (out, e) ∧ Norm out ∧ out.length ≤ l.length ∧ (e = 0 → ∀ t, In out t ↔ In l t) ∧ (e ≠ 0 → e = 1 ∧ out = [] ∧ ¬ ∀ x ∈ l, Ok x) := by
  by_cases hok : ∀ x ∈ l, Ok x
  · obtain ⟨o, h1, h2, h3, h4⟩ := Make_ok hok (by omega)
    obtain ⟨p, q1, q2, q3⟩ := refMake_ok hok (by omega)
    have e : p = o := Norm.unique q2 h2 fun r => by rw [q3, h3]
    subst e
    exact ⟨p, 0, h1, q1, h2, h4, fun _ => h3, fun h => absurd rfl h⟩
  · exact ⟨[], 1, Make_bad hok (by omega), refMake_bad hok (by omega), Norm_nil, by simp, fun h => by simp at h, fun _ => ⟨rfl, rfl, hok⟩⟩
theorem Make_norm {l out : List TRange} {e : Int} (h : Norm l) (ho : Norm out) (h0 : e = 0 → ∀ t, In out t ↔ In l t) (h1 : e ≠ 0 → e = 1 ∧ out = [] ∧ ¬ ∀ x ∈ l, Ok x) : e = 0 ∧ out = l := by
  by_cases he : e = 0
  · exact ⟨he, Norm.unique ho h (h0 he)⟩
  · exact absurd h.1 (h1 he).2.2
/-- Sets that the program takes. -/
structure Good (S : List (List TRange)) : Prop where
  norm : ∀ s ∈ S, Norm s
  few : S.length ≤ 60
  small : S.flatten.length ≤ 1200
theorem Good.ok {S : List (List TRange)} (h : Good S) : ∀ x ∈ S.flatten, Ok x := by
  intro x hx
  obtain ⟨s, hs, hx⟩ := List.mem_flatten.1 hx
  exact (h.norm s hs).1 x hx
noncomputable def edg (S : List (List TRange)) : List Int := (alphabet_edges S).getD []
theorem edg_spec {S : List (List TRange)} (h : Good S) : alphabet_edges S = some (edg S) ∧ scansionref09_edges S = some (edg S) ∧ (edg S).Pairwise (· < ·) ∧ (∀ e, e ∈ edg S ↔ Edge S.flatten e) ∧ (edg S).length ≤ 2 * S.flatten.length + 1 := by
  obtain ⟨E, h1, h2, h3, h4, h5⟩ := edges_both h.ok (by have := h.small; omega) (by have := h.few; omega)
  have : edg S = E := by unfold edg; rw [h1]; rfl
  rw [this]; exact ⟨h1, h2, h3, h4, h5⟩
theorem edg_bound {S : List (List TRange)} (h : Good S) : ∀ e ∈ edg S, 0 ≤ e ∧ e ≤ 1114111 := fun e he => Edge_bound h.ok ((edg_spec h).2.2.2.1 e |>.1 he)
/-- The masks of all classes; their least numbers; the pieces. -/
noncomputable def cls (S : List (List TRange)) : List Int := firsts ((edg S).map (mkI S))
noncomputable def lst (S : List (List TRange)) : List Int := reps (mkI S) (edg S)
noncomputable def prp (S : List (List TRange)) : List TProp := pieces (mkI S) (edg S) (edg S).length
def nB : Nat := 4352
theorem nB_eq : nB = 4352 := by unfold nB; rfl
def Fit (S : List (List TRange)) : Prop := (cls S).length ≤ 200 ∧ (firsts (blks (prp S) nB)).length ≤ 256
/-- A number's class. -/
noncomputable def clsOf (S : List (List TRange)) (r : Int) : Nat := pos (cls S) (mkI S r)
theorem mkI_piece {S : List (List TRange)} (h : Good S) {k : Nat} (hk : k < (edg S).length) {r : Int} (h1 : bnd (edg S) k ≤ r) (h2 : r < bnd (edg S) (k + 1)) (h3 : r ≤ 1114111) : mkI S r = mkI S (bnd (edg S) k) := by
  have hs := edg_spec h
  rw [bnd_at hk] at h1 ⊢
  unfold mkI
  have key : ∀ n, maskP S r n = maskP S (edg S)[k] n := by
    intro n
    induction n with
    | zero => rfl
    | succ n ih =>
      simp only [maskP, ih]
      by_cases hn : n < S.length
      · have hg : S.getD n [] = S[n] := by simp [List.getD_eq_getElem?_getD, List.getElem?_eq_getElem hn]
        rw [hg, const_at h.ok hs.2.2.1 hs.2.2.2.1 (fun x hx => mem_flat hn hx) hk h1 h2 h3]
      · have hg : S.getD n [] = [] := by simp [List.getD_eq_getElem?_getD, List.getElem?_eq_none (Nat.le_of_not_lt hn)]
        rw [hg]; rfl
  rw [key]
theorem edg_piece {S : List (List TRange)} (h : Good S) {r : Int} (hr : 0 ≤ r) (hr2 : r ≤ 1114111) : ∃ k, k < (edg S).length ∧ bnd (edg S) k ≤ r ∧ r < bnd (edg S) (k + 1) := piece_at (edg_spec h).2.2.1 (edg_bound h) ((edg_spec h).2.2.2.1 0 |>.2 (.inl rfl)) hr hr2
theorem mkI_mem {S : List (List TRange)} (h : Good S) {r : Int} (hr : 0 ≤ r) (hr2 : r ≤ 1114111) : mkI S r ∈ cls S := by
  obtain ⟨k, hk, h1, h2⟩ := edg_piece h hr hr2
  rw [mkI_piece h hk h1 h2 hr2, bnd_at hk]
  unfold cls
  rw [mem_firsts]
  exact List.mem_map_of_mem (List.getElem_mem hk)
theorem prp_val {S : List (List TRange)} (h : Good S) {r : Int} (hr : 0 ≤ r) (hr2 : r ≤ 1114111) : valN (prp S) r = UInt8.ofNat (clsOf S r) := by
  obtain ⟨k, hk, h1, h2⟩ := edg_piece h hr hr2
  unfold prp clsOf
  rw [pieces_val (edg_spec h).2.2.1 (edg_bound h) hk h1 h2 _ (Nat.le_refl _), if_pos hk, mkI_piece h hk h1 h2 hr2]; rfl
theorem prp_ok {S : List (List TRange)} (h : Good S) : ∀ x ∈ prp S, OkP x := pieces_ok (edg_spec h).2.2.1 (edg_bound h)
theorem prp_len {S : List (List TRange)} (h : Good S) : (prp S).length ≤ 2401 := by
  have := (edg_spec h).2.2.2.2
  have := h.small
  unfold prp; rw [pieces_len]; omega
theorem prp_len2 {S : List (List TRange)} (h : Good S) : (prp S).length ≤ 4096 := by have := prp_len h; omega
theorem Build_two {N : Nat} (hN : N = 4352) {l : List TProp} (ho : ∀ x ∈ l, OkP x) (hl : l.length ≤ 4096) :
    ((firsts (blks l N)).length ≤ 256 → ∃ like', LikeOk l like' N ∧ trie_Build l = some (some ⟨like', firsts (blks l N)⟩, 0)) ∧ (¬ (firsts (blks l N)).length ≤ 256 → trie_Build l = some (none, 3)) := by
  have h := Build_of hN ho hl
  constructor
  · intro f; rw [if_pos f] at h; exact h
  · intro f; rw [if_neg f] at h; exact h
theorem New_k1 {S : List (List TRange)} (h : Good S) : (Fit S → ∃ like, LikeOk (prp S) like nB ∧ alphabet_New.k1 S = some (some ⟨⟨like, firsts (blks (prp S) nB)⟩, cls S, lst S⟩, 0)) ∧ (¬ Fit S → alphabet_New.k1 S = some (none, 3)) := by
  have hs := edg_spec h
  have hsm := h.small
  have hloop := new_loop (E := edg S) h.norm h.few (edg_bound h) (by omega) (edg S).length 0 (by omega) [] Knows_nil (by simp [firsts])
  have hk1 : alphabet_New.k1 S = if (cls S).length ≤ 200 then alphabet_New.k2 (prp S) (cls S) (lst S) else some (none, 3) := by
    unfold alphabet_New.k1
    rw [hs.1, Option.bind_some]; exact hloop
  have hb := Build_two (N := nB) nB_eq (prp_ok h) (prp_len2 h)
  rw [hk1]
  constructor
  · rintro ⟨f1, f2⟩
    obtain ⟨like, b1, b2⟩ := hb.1 f2
    refine ⟨like, b1, ?_⟩
    rw [if_pos f1]
    unfold alphabet_New.k2
    rw [b2, Option.bind_some]; rfl
  · intro hf
    by_cases f1 : (cls S).length ≤ 200
    · have f2 : ¬ (firsts (blks (prp S) nB)).length ≤ 256 := fun f2 => hf ⟨f1, f2⟩
      rw [if_pos f1]
      unfold alphabet_New.k2
      rw [hb.2 f2, Option.bind_some]; rfl
    · rw [if_neg f1]
open Classical in
theorem refNew_k1 {S : List (List TRange)} (h : Good S) : scansionref09_New.k1 S = some (if Fit S then (some ⟨S, cls S, lst S⟩, 0) else (none, 3)) := by
  have hs := edg_spec h
  have hsm := h.small
  have hloop := rnew_loop (S := S) (E := edg S) (fun s hs => by have := (h.norm s hs).len; omega) h.few (edg_bound h) (by omega) (edg S).length 0 (by omega) (by simp [firsts])
  have hk1 : scansionref09_New.k1 S = if (cls S).length ≤ 200 then scansionref09_New.k2 S (prp S) (cls S) (lst S) else some (none, 3) := by
    unfold scansionref09_New.k1
    rw [hs.2.1, Option.bind_some]; exact hloop
  obtain ⟨x, hx⟩ := refBuild_eq (N := nB) nB_eq (prp_ok h) (prp_len2 h)
  rw [hk1]
  by_cases f1 : (cls S).length ≤ 200
  · rw [if_pos f1]
    unfold scansionref09_New.k2
    rw [hx, Option.bind_some]
    by_cases f2 : (firsts (blks (prp S) nB)).length ≤ 256
    · have hF : Fit S := ⟨f1, f2⟩
      rw [if_pos f2, if_pos hF]
      cases x <;> rfl
    · have hF : ¬ Fit S := fun h => f2 h.2
      rw [if_neg f2, if_neg hF]
      cases x <;> rfl
  · have hF : ¬ Fit S := fun h => f1 h.1
    rw [if_neg f1, if_neg hF]
end Go.Val

/- part R17 -/
/- Plain lemmas: how many there are of each; what an alphabet tells. -/
namespace Go.Val
set_option linter.unusedVariables false
set_option linter.unusedSimpArgs false
set_option linter.unusedSectionVars false
section
variable {α K K' : Type} [DecidableEq K] [DecidableEq K']
theorem nodup_sub_len [DecidableEq α] : ∀ {l m : List α}, l.Nodup → (∀ x ∈ l, x ∈ m) → l.length ≤ m.length
  | [], m, _, _ => by simp
  | a :: l, m, h, hs => by
    rw [List.nodup_cons] at h
    have ha := hs a (by simp)
    have ih := nodup_sub_len (l := l) (m := m.erase a) h.2 fun x hx => by
      have hne : x ≠ a := fun e => h.1 (e ▸ hx)
      exact (List.mem_erase_of_ne hne).2 (hs x (by simp [hx]))
    rw [List.length_erase_of_mem ha] at ih
    have := List.length_pos_of_mem ha
    simp; omega
end
theorem clsOf_lt {S : List (List TRange)} (h : Good S) {x : Int} (hx : 0 ≤ x ∧ x ≤ 1114111) : clsOf S x < (cls S).length := pos_lt (mkI_mem h hx.1 hx.2)
theorem blockOf_val {S : List (List TRange)} (h : Good S) {k j : Nat} (hk : k < 4352) (hj : j < 256) : (blockOf (prp S) k).toList[j]? = some (UInt8.ofNat (clsOf S ((k * 256 + j : Nat) : Int))) := by
  rw [blockOf_get _ _ _ hj, prp_val h (by omega) (by omega)]
theorem lst_len {S : List (List TRange)} : (lst S).length = (cls S).length := reps_len
end Go.Val

/- part R18 -/
/- Plain lemmas: what an alphabet tells. -/
namespace Go.Val
set_option linter.unusedVariables false
set_option linter.unusedSimpArgs false
/-- An alphabet of sets. -/
def IsA (S : List (List TRange)) (A : Talphabet_Alphabet) : Prop := ∃ like, LikeOk (prp S) like nB ∧ A = ⟨⟨like, firsts (blks (prp S) nB)⟩, cls S, lst S⟩
def inR (r : Int) : Prop := 0 ≤ r ∧ r ≤ 1114111
instance (r : Int) : Decidable (inR r) := inferInstanceAs (Decidable (_ ∧ _))
noncomputable def ofI (S : List (List TRange)) (r : Int) : Int := if inR r then (clsOf S r : Int) else -1
/-- What a list has at a place, or another. -/
def getZ (l : List Int) (c d : Int) : Int := if 0 ≤ c ∧ c < (l.length : Int) then l.getD c.toNat 0 else d
theorem getZ_at {l : List Int} {i : Nat} {d : Int} (h : i < l.length) : getZ l (i : Int) d = l[i] := by
  unfold getZ
  rw [if_pos (by omega), Int.toNat_natCast, List.getD_eq_getElem?_getD, List.getElem?_eq_getElem h]; rfl
variable {S : List (List TRange)} {A : Talphabet_Alphabet}
theorem Of_eq (h : Good S) (hF : Fit S) (hA : IsA S A) (r : Int) : alphabet_Alphabet_Of A r = some (ofI S r) := by
  obtain ⟨like, hL, rfl⟩ := hA
  unfold alphabet_Alphabet_Of ofI
  by_cases hr : inR r
  · obtain ⟨h0, h1⟩ := hr
    rw [if_neg (by simp; omega), if_pos ⟨h0, h1⟩]
    simp only
    rw [nB_eq] at hL
    have hFb := hF.2
    have hT := TrieOf_eq (N := 4352) rfl hL (by rw [nB_eq] at hFb; exact hFb) h0 h1
    rw [nB_eq, hT, Option.bind_some, prp_val h h0 h1]
    have hlt := clsOf_lt h ⟨h0, h1⟩
    have hc := hF.1
    rw [UInt8.toNat_ofNat', Nat.mod_eq_of_lt (by omega), w64 (by omega) (by omega)]
  · rw [if_neg hr]
    unfold inR at hr
    rw [if_pos (by simp; omega)]
theorem Count_eq (hA : IsA S A) : alphabet_Alphabet_Count A = some ((cls S).length : Int) := by
  obtain ⟨like, hL, rfl⟩ := hA; rfl
theorem Mask_eq (hA : IsA S A) (c : Int) : alphabet_Alphabet_Mask A c = some (getZ (cls S) c 0) := by
  obtain ⟨like, hL, rfl⟩ := hA
  unfold alphabet_Alphabet_Mask alphabet_Alphabet_has getZ
  simp only [Option.bind_some]
  by_cases hc : 0 ≤ c ∧ c < ((cls S).length : Int)
  · rw [if_neg (by simp; omega), if_pos hc]
    unfold idx
    rw [if_neg (by omega), List.getElem?_eq_getElem (by omega), Option.bind_some, List.getD_eq_getElem?_getD, List.getElem?_eq_getElem (by omega)]; rfl
  · rw [if_pos (by simp; omega), if_neg hc]
theorem Any_eq (hA : IsA S A) (c : Int) : alphabet_Alphabet_Any A c = some (getZ (lst S) c (-1)) := by
  obtain ⟨like, hL, rfl⟩ := hA
  have hl := lst_len (S := S)
  unfold alphabet_Alphabet_Any alphabet_Alphabet_has getZ
  simp only [Option.bind_some]
  by_cases hc : 0 ≤ c ∧ c < ((lst S).length : Int)
  · rw [if_neg (by simp; omega), if_pos hc]
    unfold idx
    rw [if_neg (by omega), List.getElem?_eq_getElem (by omega), Option.bind_some, List.getD_eq_getElem?_getD, List.getElem?_eq_getElem (by omega)]; rfl
  · rw [if_pos (by simp; omega), if_neg hc]
/-- New, of good sets. -/
theorem Same_self {a : List TRange} (hl : a.length < 9223372036854775807) : scansionref02_Same a a = some true := by rw [Same_eq hl]; simp
theorem New_good (h : Good S) : alphabet_New S = alphabet_New.k1 S := by
  unfold alphabet_New
  have hf := h.few
  rw [if_neg (by simp; omega)]
  have hrun := Loop_int (b := alphabet_New.b2 S) (i := 0) (n := S.length) (Nat.zero_le _) (fun j _ hj => by
    have hn := h.norm _ (List.getElem_mem hj)
    have hlen := hn.len
    have hsm : S[j].length ≤ S.flatten.length := by have := ed_len hj; omega
    have hs2 := h.small
    obtain ⟨out, e, m1, m2, m3, m4, m5, m6⟩ := Make_both (l := S[j]) (by omega)
    obtain ⟨e1, e2⟩ := Make_norm hn m3 m5 m6
    subst e1 e2
    simp only [alphabet_New.b2]
    rw [if_pos (by simpa using hj), idx_nat, List.getElem?_eq_getElem hj, Option.bind_some, m1, Option.bind_some, if_neg (by simp), Equal_same, Same_self (a := S[j]) (by omega), Option.bind_some, Option.bind_some, if_neg (by simp), w64s (by omega)])
  simp only [Int.ofNat_zero, Int.natCast_zero] at hrun
  rw [hrun]
  refine Loop_end ?_
  simp only [alphabet_New.b2]
  rw [if_neg (by simp)]
theorem rNew_good (h : Good S) : scansionref09_New S = scansionref09_New.k1 S := by
  unfold scansionref09_New
  have hf := h.few
  rw [if_neg (by simp; omega)]
  have hrun := Loop_int (b := scansionref09_New.b2 S) (i := 0) (n := S.length) (Nat.zero_le _) (fun j _ hj => by
    have hn := h.norm _ (List.getElem_mem hj)
    have hsm : S[j].length ≤ S.flatten.length := by have := ed_len hj; omega
    have hs2 := h.small
    obtain ⟨out, e, m1, m2, m3, m4, m5, m6⟩ := Make_both (l := S[j]) (by omega)
    obtain ⟨e1, e2⟩ := Make_norm hn m3 m5 m6
    subst e1 e2
    simp only [scansionref09_New.b2]
    rw [if_pos (by simpa using hj), idx_nat, List.getElem?_eq_getElem hj, Option.bind_some, m2, Option.bind_some, Same_self (a := S[j]) (by omega), Option.bind_some, if_neg (by simp), w64s (by omega)])
  simp only [Int.ofNat_zero, Int.natCast_zero] at hrun
  rw [hrun]
  refine Loop_end ?_
  simp only [scansionref09_New.b2]
  rw [if_neg (by simp)]
theorem New_fit (h : Good S) (hF : Fit S) : ∃ A, IsA S A ∧ alphabet_New S = some (some A, 0) := by
  obtain ⟨like, h1, h2⟩ := (New_k1 h).1 hF
  exact ⟨_, ⟨like, h1, rfl⟩, (New_good h).trans h2⟩
theorem New_unfit (h : Good S) (hF : ¬ Fit S) : alphabet_New S = some (none, 3) := (New_good h).trans ((New_k1 h).2 hF)
theorem rNew_fit (h : Good S) (hF : Fit S) : scansionref09_New S = some (some ⟨S, cls S, lst S⟩, 0) := by
  rw [rNew_good h, refNew_k1 h, if_pos hF]
theorem rNew_unfit (h : Good S) (hF : ¬ Fit S) : scansionref09_New S = some (none, 3) := by
  rw [rNew_good h, refNew_k1 h, if_neg hF]
theorem New_many (h : 60 < S.length) : alphabet_New S = some (none, 3) ∧ scansionref09_New S = some (none, 3) := by
  unfold alphabet_New scansionref09_New
  rw [if_pos (by simp; omega), if_pos (by simp; omega)]; exact ⟨rfl, rfl⟩
end Go.Val

/- part R19 -/
/- Plain lemmas: the small thing works; lists that are few; the sets of lists. -/
namespace Go.Val
set_option linter.unusedVariables false
set_option linter.unusedSimpArgs false
def S0 : List (List TRange) := [[⟨97, 99⟩], [⟨98, 122⟩]]
theorem S0_good : Good S0 := by
  refine ⟨fun s hs => ?_, by decide, by decide⟩
  have : s = [⟨97, 99⟩] ∨ s = [⟨98, 122⟩] := by simpa [S0] using hs
  rcases this with rfl | rfl
  · exact ⟨fun x hx => by simp at hx; subst hx; unfold Ok; simp, List.pairwise_singleton _ _⟩
  · exact ⟨fun x hx => by simp at hx; subst hx; unfold Ok; simp, List.pairwise_singleton _ _⟩
theorem S0_edg : edg S0 = [0, 97, 98, 100, 123] := by
  refine rise_unique (edg_spec S0_good).2.2.1 (by decide) fun x => ?_
  rw [(edg_spec S0_good).2.2.2.1]
  show Edge [⟨97, 99⟩, ⟨98, 122⟩] x ↔ _
  unfold Edge
  simp only [List.mem_cons, List.not_mem_nil, or_false]
  constructor
  · rintro (h | ⟨y, rfl | rfl, h⟩)
    · exact .inl h
    · rcases h with h | ⟨_, h⟩
      · exact .inr (.inl h)
      · exact .inr (.inr (.inr (.inl h)))
    · rcases h with h | ⟨_, h⟩
      · exact .inr (.inr (.inl h))
      · exact .inr (.inr (.inr (.inr h)))
  · rintro (h | h | h | h | h)
    · exact .inl h
    · exact .inr ⟨_, .inl rfl, .inl h⟩
    · exact .inr ⟨_, .inr rfl, .inl h⟩
    · exact .inr ⟨_, .inl rfl, .inr ⟨by decide, h⟩⟩
    · exact .inr ⟨_, .inr rfl, .inr ⟨by decide, h⟩⟩
theorem S0_cls : cls S0 = [0, 1, 3, 2] := by unfold cls; rw [S0_edg]; decide
theorem S0_lst : lst S0 = [0, 97, 98, 100] := by unfold lst; rw [S0_edg]; decide
theorem S0_far {r : Int} (h : 123 ≤ r) : mkI S0 r = 0 := by
  have h1 : hasB [⟨97, 99⟩] r = false := by unfold hasB; simp; omega
  have h2 : hasB [⟨98, 122⟩] r = false := by unfold hasB; simp; omega
  show ((0 + (if hasB [⟨97, 99⟩] r then 2 ^ 0 else 0) + (if hasB [⟨98, 122⟩] r then 2 ^ 1 else 0) : Nat) : Int) = 0
  rw [h1, h2]; rfl
theorem S0_block {k : Nat} (h1 : 1 ≤ k) (hk : k < 4352) : blockOf (prp S0) k = blockOf (prp S0) 1 := by
  apply Vector.toList_inj.1
  apply List.ext_getElem?
  intro j
  by_cases hj : j < 256
  · rw [blockOf_val S0_good hk hj, blockOf_val S0_good (by omega) hj]
    unfold clsOf
    rw [S0_far (by omega), S0_far (by omega)]
  · rw [List.getElem?_eq_none (by rw [Vector.length_toList]; omega), List.getElem?_eq_none (by rw [Vector.length_toList]; omega)]
theorem S0_blks {N : Nat} (hN : N = 4352) : (firsts (blks (prp S0) N)).length ≤ 256 := by
  have : (firsts (blks (prp S0) N)).length ≤ [blockOf (prp S0) 0, blockOf (prp S0) 1].length := nodup_sub_len nodup_firsts fun x hx => by
    rw [mem_firsts] at hx
    unfold blks at hx
    obtain ⟨k, hk, rfl⟩ := List.mem_map.1 hx
    have hk := List.mem_range.1 hk
    rcases Nat.eq_zero_or_pos k with h0 | h0
    · subst h0; simp
    · rw [S0_block h0 (by omega)]; simp
  exact Nat.le_trans this (by simp)
theorem S0_fit : Fit S0 := ⟨by rw [S0_cls]; decide, S0_blks nB_eq⟩
theorem awake9 : scansionlaw09_awake = some true := by
  obtain ⟨A, hA, hN⟩ := New_fit S0_good S0_fit
  have h2 : ofI S0 99 = 2 := by
    unfold ofI clsOf
    rw [if_pos (by decide), S0_cls]; decide
  unfold scansionlaw09_awake
  rw [show ([[(TRange.mk (97 : Int) (99 : Int))], [(TRange.mk (98 : Int) (122 : Int))]] : List (List TRange)) = S0 from rfl, hN, Option.bind_some]
  simp only
  rw [Count_eq hA, S0_cls, Option.bind_some, Of_eq S0_good S0_fit hA, h2, Option.bind_some, Mask_eq hA, S0_cls, Option.bind_some, Any_eq hA, S0_lst, Option.bind_some]
  rfl
/-- Lists that are few. -/
structure Few (l : List (List TRange)) : Prop where
  many : l.length ≤ 101
  each : ∀ s ∈ l, s.length ≤ 300
  all : l.flatten.length ≤ 1200
theorem few_eq (l : List (List TRange)) : ∃ b, scansionlaw09_few l = some b ∧ (b = true → Few l) := by
  refine Loop_spec (body := scansionlaw09_few.b1 l) (Q := fun b => b = true → Few l) (fun p : Int × Int => ∃ k : Nat, p.2 = (k : Int) ∧ k ≤ l.length ∧ k ≤ 101 ∧ p.1 = ((l.take k).flatten.length : Int) ∧ ∀ s ∈ l.take k, s.length ≤ 300) (fun p => l.length - p.2.toNat) (fun p hp => ?_) _ ⟨0, rfl, Nat.zero_le _, by omega, by simp, by simp⟩
  obtain ⟨n, v⟩ := p
  obtain ⟨k, e, hk, hk2, hn, ha⟩ := hp
  simp only at e hn
  subst e hn
  have hbound : (l.take k).flatten.length ≤ 300 * k := by
    have : ∀ m : List (List TRange), (∀ s ∈ m, s.length ≤ 300) → m.flatten.length ≤ 300 * m.length := by
      intro m
      induction m with
      | nil => simp
      | cons a m ih =>
        intro h
        have h1 := h a (by simp)
        have h2 := ih fun s hs => h s (by simp [hs])
        rw [List.flatten_cons, List.length_append, List.length_cons]; omega
    have h3 := this _ ha
    rw [List.length_take] at h3; omega
  by_cases hl : k < l.length
  · by_cases hb : 100 < k
    · right
      refine ⟨false, ?_, by simp⟩
      simp only [scansionlaw09_few.b1]
      rw [if_pos (by simpa using hl), if_pos (decide_eq_true (by omega)), Option.bind_some, if_pos rfl]
    · by_cases hs : 300 < l[k].length
      · right
        refine ⟨false, ?_, by simp⟩
        simp only [scansionlaw09_few.b1]
        rw [if_pos (by simpa using hl), if_neg (by simp; omega), idx_nat, List.getElem?_eq_getElem hl, Option.bind_some, Option.bind_some, if_pos (decide_eq_true (by omega))]
      · left
        refine ⟨(((l.take (k + 1)).flatten.length : Int), ((k + 1 : Nat) : Int)), ?_, ⟨k + 1, rfl, hl, by omega, rfl, fun s hs2 => ?_⟩, by simp only; omega⟩
        · simp only [scansionlaw09_few.b1]
          rw [if_pos (by simpa using hl), if_neg (by simp; omega), idx_nat, List.getElem?_eq_getElem hl, Option.bind_some, Option.bind_some, if_neg (by simp; omega), Option.bind_some, w64 (by omega) (by omega), w64s (by omega), flat_snoc hl, List.length_append]
          rfl
        · rw [take_snocP hl] at hs2
          rcases List.mem_append.1 hs2 with h | h
          · exact ha s h
          · simp at h; subst h; omega
  · right
    have e : k = l.length := by omega
    subst e
    rw [List.take_length] at ha hbound ⊢
    refine ⟨decide (((l.flatten.length : Nat) : Int) ≤ 1200), ?_, fun h => ⟨hk2, ha, by have := of_decide_eq_true h; omega⟩⟩
    simp only [scansionlaw09_few.b1]
    rw [if_neg (by simp)]; rfl
/-- The sets of lists. -/
structure SetsOf (l S : List (List TRange)) : Prop where
  norm : ∀ s ∈ S, Norm s
  len : S.length = l.length
  all : S.flatten.length ≤ l.flatten.length
theorem sets_eq {l : List (List TRange)} (h : Few l) : ∃ S, scansionlaw09_sets l = some S ∧ SetsOf l S := by
  refine Loop_spec (body := scansionlaw09_sets.b1 l) (Q := fun S => SetsOf l S) (fun p : List (List TRange) × Int => ∃ k : Nat, p.2 = (k : Int) ∧ k ≤ l.length ∧ (∀ s ∈ p.1, Norm s) ∧ p.1.length = k ∧ p.1.flatten.length ≤ (l.take k).flatten.length) (fun p => l.length - p.2.toNat) (fun p hp => ?_) _ ⟨0, rfl, Nat.zero_le _, by simp, rfl, by simp⟩
  obtain ⟨S, v⟩ := p
  obtain ⟨k, e, hk, hn, hlen, hall⟩ := hp
  simp only at e hn hlen hall
  subst e
  have hm := h.many
  by_cases hl : k < l.length
  · left
    have he := h.each _ (List.getElem_mem hl)
    obtain ⟨out, e, m1, m2, m3, m4, m5, m6⟩ := Make_both (l := l[k]) (by omega)
    refine ⟨(S ++ [out], ((k + 1 : Nat) : Int)), ?_, ⟨k + 1, rfl, hl, ?_, by simp [hlen], ?_⟩, by simp only; omega⟩
    · simp only [scansionlaw09_sets.b1]
      rw [if_pos (by simpa using hl), idx_nat, List.getElem?_eq_getElem hl, Option.bind_some, m2, Option.bind_some, room_ok (by omega), Option.bind_some, w64s (by omega)]
    · intro s hs
      rcases List.mem_append.1 hs with q | q
      · exact hn s q
      · simp at q; subst q; exact m3
    · simp only
      rw [flat_snoc hl, List.flatten_append, List.length_append, List.length_append]
      simp only [List.flatten_cons, List.flatten_nil, List.append_nil]
      omega
  · right
    have e : k = l.length := by omega
    subst e
    rw [List.take_length] at hall
    refine ⟨S, ?_, ⟨hn, hlen, hall⟩⟩
    simp only [scansionlaw09_sets.b1]
    rw [if_neg (by simp)]; rfl
theorem SetsOf.good {l S : List (List TRange)} (h : SetsOf l S) (hf : Few l) (h60 : S.length ≤ 60) : Good S := ⟨h.norm, h60, Nat.le_trans h.all hf.all⟩
end Go.Val

/- part R20 -/
/- Plain lemmas: two numbers of one class; the least number of a class. -/
namespace Go.Val
set_option linter.unusedVariables false
set_option linter.unusedSimpArgs false
theorem Mask_Of {S : List (List TRange)} {A : Talphabet_Alphabet} (h : Good S) (hA : IsA S A) {x : Int} (hx : inR x) : alphabet_Alphabet_Mask A (ofI S x) = some (mkI S x) := by
  have hlt := clsOf_lt h hx
  have hg := pos_get (mkI_mem h hx.1 hx.2)
  rw [Mask_eq hA]
  unfold ofI
  rw [if_pos hx, getZ_at hlt]
  congr 1
  exact (List.getElem?_eq_some_iff.1 hg).2
end Go.Val

/- part R21 -/
/- Plain lemmas: sets in another order; a set less. -/
namespace Go.Val
set_option linter.unusedVariables false
set_option linter.unusedSimpArgs false
theorem Good.less {S T : List (List TRange)} (h : Good S) (hs : ∀ s ∈ T, s ∈ S) (hl : T.length ≤ S.length) (hf : T.flatten.length ≤ S.flatten.length) : Good T := ⟨fun s hs2 => h.norm s (hs s hs2), Nat.le_trans hl h.few, Nat.le_trans hf h.small⟩
end Go.Val

/- part R22 -/
/- Plain lemmas: the alphabet of any lists; the masks of any numbers. -/
namespace Go.Val
set_option linter.unusedVariables false
set_option linter.unusedSimpArgs false
theorem Same9_self {a : List Int} (hl : a.length ≤ 1000000) : scansionref09_Same a a = some true := by
  unfold scansionref09_Same
  rw [if_neg (by simp)]
  have hrun := Loop_int (b := scansionref09_Same.b1 a a) (i := 0) (n := a.length) (Nat.zero_le _) (fun j _ hj => by
    simp only [scansionref09_Same.b1]
    rw [if_pos (by simpa using hj), idx_nat, List.getElem?_eq_getElem hj, Option.bind_some, Option.bind_some, if_neg (by simp), w64s (by omega)])
  simp only [Int.ofNat_zero, Int.natCast_zero] at hrun
  rw [hrun]
  refine Loop_end (R := some true) ?_
  simp only [scansionref09_Same.b1]
  rw [if_neg (by simp)]; rfl
noncomputable def wordI (S : List (List TRange)) (r : Int) : Int := if inR r then mkI S r else 0
theorem Word_eq {S : List (List TRange)} {A : Talphabet_Alphabet} (hG : Good S) (hF : Fit S) (hA : IsA S A) {r : List Int} (hr : r.length ≤ 300) : alphabet_Alphabet_Word A r = some (r.map (wordI S)) := by
  have run : ∀ (d k : Nat), k + d = r.length → Loop (alphabet_Alphabet_Word.b1 A r) ((r.take k).map (wordI S), (k : Int)) = some (r.map (wordI S)) := by
    intro d
    induction d with
    | zero =>
      intro k h
      obtain rfl : k = r.length := by omega
      refine Loop_end ?_
      simp only [alphabet_Alphabet_Word.b1]
      rw [if_neg (by simp), List.take_length]; rfl
    | succ d ih =>
      intro k h
      have hk : k < r.length := by omega
      rw [← ih (k + 1) (by omega)]
      refine Loop_next ?_
      simp only [alphabet_Alphabet_Word.b1]
      have hm : alphabet_Alphabet_Mask A (ofI S r[k]) = some (wordI S r[k]) := by
        unfold wordI
        by_cases hx : inR r[k]
        · rw [if_pos hx, Mask_Of hG hA hx]
        · rw [if_neg hx, Mask_eq hA]
          unfold ofI getZ
          rw [if_neg hx, if_neg (by omega)]
      rw [if_pos (by simpa using hk), idx_nat, List.getElem?_eq_getElem hk, Option.bind_some, Of_eq hG hF hA, Option.bind_some, hm, Option.bind_some, room_ok (by rw [List.length_map, List.length_take]; omega), Option.bind_some, w64s (by omega), take_snocP hk, List.map_append]
      rfl
  exact run r.length 0 (by omega)
theorem rWord_eq {S : List (List TRange)} (hG : Good S) {M F : List Int} {r : List Int} (hr : r.length ≤ 300) : scansionref09_Alphabet_Word ⟨S, M, F⟩ r = some (r.map (wordI S)) := by
  have run : ∀ (d k : Nat), k + d = r.length → Loop (scansionref09_Alphabet_Word.b1 ⟨S, M, F⟩ r) ((r.take k).map (wordI S), (k : Int)) = some (r.map (wordI S)) := by
    intro d
    induction d with
    | zero =>
      intro k h
      obtain rfl : k = r.length := by omega
      refine Loop_end ?_
      simp only [scansionref09_Alphabet_Word.b1]
      rw [if_neg (by simp), List.take_length]; rfl
    | succ d ih =>
      intro k h
      have hk : k < r.length := by omega
      rw [← ih (k + 1) (by omega)]
      refine Loop_next ?_
      simp only [scansionref09_Alphabet_Word.b1]
      rw [if_pos (by simpa using hk), idx_nat, List.getElem?_eq_getElem hk, Option.bind_some]
      have hroom : room 8 (((r.take k).map (wordI S)).length + 1) = some () := room_ok (by rw [List.length_map, List.length_take]; omega)
      rw [take_snocP hk, List.map_append, List.map_singleton]
      unfold scansionref09_Alphabet_Word.k2
      rw [w64s (by omega), hroom]
      by_cases hx : inR r[k]
      · have hm : scansionref09_mask S r[k] = some (mkI S r[k]) := refMask_eq (fun s hs => by have := (hG.norm s hs).len; omega) hG.few r[k]
        have hw : wordI S r[k] = mkI S r[k] := by unfold wordI; rw [if_pos hx]
        unfold inR at hx
        rw [if_neg (by simp; omega), Option.bind_some, if_neg (by simp; omega), Option.bind_some, hm, Option.bind_some, Option.bind_some, hw]
      · have hw : wordI S r[k] = 0 := by unfold wordI; rw [if_neg hx]
        rw [hw]
        unfold inR at hx
        by_cases h0 : r[k] < 0
        · rw [if_pos (decide_eq_true h0), Option.bind_some, if_pos rfl, Option.bind_some]
        · rw [if_neg (by simpa using h0), Option.bind_some, if_pos (decide_eq_true (by omega)), Option.bind_some]
  exact run r.length 0 (by omega)
theorem AlphabetWords_of (l : List (List TRange)) (r : List Int) : scansionlaw09_AlphabetWords l r = some true := by
  obtain ⟨b, hb, hF⟩ := few_eq l
  unfold scansionlaw09_AlphabetWords
  rw [awake9, Option.bind_some, hb, Option.bind_some]
  cases b with
  | false => simp
  | true =>
    have hfew := hF rfl
    by_cases hr : r.length ≤ 300
    · rw [if_neg (by simp; omega)]
      obtain ⟨S, hS, hSo⟩ := sets_eq (hF rfl)
      rw [hS, Option.bind_some]
      by_cases h60 : S.length ≤ 60
      · have hG := hSo.good (hF rfl) h60
        by_cases hfit : Fit S
        · obtain ⟨A, hA, hN⟩ := New_fit hG hfit
          rw [hN, Option.bind_some]
          simp only
          rw [rNew_fit hG hfit, Option.bind_some]
          simp only
          rw [if_neg (by simp), Word_eq hG hfit hA hr, Option.bind_some, rWord_eq hG hr, Option.bind_some, Same9_self (by rw [List.length_map]; omega)]
          rfl
        · rw [New_unfit hG hfit, Option.bind_some]
          simp only
          rw [rNew_unfit hG hfit]; rfl
      · obtain ⟨h1, h2⟩ := New_many (S := S) (by omega)
        rw [h1, Option.bind_some]
        simp only
        rw [h2]; rfl
    · rw [if_pos (by simp; omega)]
end Go.Val
