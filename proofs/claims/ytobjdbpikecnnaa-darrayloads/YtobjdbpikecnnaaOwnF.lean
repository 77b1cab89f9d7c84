/- A value semantics of the model's programs, sound against it, and functions read off the given program with the proofs that it runs so; no condition. -/
import Derived.Test.YtobjdbpikecnnaaOwnE
set_option linter.all false
set_option linter.unnecessarySimpa false
set_option linter.unusedVariables false
set_option linter.unusedSimpArgs false
/- part P5 -/
/- Plain lemmas: looking for one in a list; keys; the two words of 'awake'. -/
namespace Go.Val
set_option linter.unusedVariables false
def find {α : Type} (g : α → Bool) (l : List α) : Int := if l.findIdx g < l.length then (l.findIdx g : Int) else -1
theorem IndexFunc_str {s : List Str} {f : Str → Option Bool} {g : Str → Bool} (hf : ∀ x ∈ s, f x = some (g x)) (hl : s.length ≤ 140737488355328) : slices_IndexFunc_string_string s f = some (find g s) := by
  unfold slices_IndexFunc_string_string
  have hle : s.findIdx g ≤ s.length := List.findIdx_le_length
  have := Loop_int (b := slices_IndexFunc_string_string.b1 s f) (i := 0) (n := s.findIdx g) (Nat.zero_le _) (fun j _ hj => by
    have hlt : j < s.length := by omega
    have hx : s[j]? = some s[j] := List.getElem?_eq_getElem hlt
    have hg : g s[j] = false := by simpa using List.not_of_lt_findIdx hj
    rw [slices_IndexFunc_string_string.b1, if_pos (by simp; omega), idx_nat, hx, Option.bind_some, hf _ (List.getElem_mem _), Option.bind_some, if_neg (by simp [hg]), w64s (by omega)])
  rw [show ((0 : Nat) : Int) = 0 from rfl] at this
  rw [this]
  unfold find
  by_cases h : s.findIdx g < s.length
  · rw [if_pos h]
    apply Loop_done
    have hx : s[s.findIdx g]? = some s[s.findIdx g] := List.getElem?_eq_getElem h
    have hg : g s[s.findIdx g] = true := List.findIdx_getElem
    rw [slices_IndexFunc_string_string.b1, if_pos (by rw [decide_eq_true_eq]; omega), idx_nat, hx, Option.bind_some, hf _ (List.getElem_mem _), Option.bind_some, if_pos hg]
  · rw [if_neg h]
    apply Loop_done
    rw [slices_IndexFunc_string_string.b1, if_neg (by rw [decide_eq_true_eq]; omega)]
    rfl
theorem IndexFunc_edge {s : List TEdge} {f : TEdge → Option Bool} {g : TEdge → Bool} (hf : ∀ x ∈ s, f x = some (g x)) (hl : s.length ≤ 140737488355328) : slices_IndexFunc_api_Edge_api_Edge s f = some (find g s) := by
  unfold slices_IndexFunc_api_Edge_api_Edge
  have hle : s.findIdx g ≤ s.length := List.findIdx_le_length
  have := Loop_int (b := slices_IndexFunc_api_Edge_api_Edge.b1 s f) (i := 0) (n := s.findIdx g) (Nat.zero_le _) (fun j _ hj => by
    have hlt : j < s.length := by omega
    have hx : s[j]? = some s[j] := List.getElem?_eq_getElem hlt
    have hg : g s[j] = false := by simpa using List.not_of_lt_findIdx hj
    rw [slices_IndexFunc_api_Edge_api_Edge.b1, if_pos (by simp; omega), idx_nat, hx, Option.bind_some, hf _ (List.getElem_mem _), Option.bind_some, if_neg (by simp [hg]), w64s (by omega)])
  rw [show ((0 : Nat) : Int) = 0 from rfl] at this
  rw [this]
  unfold find
  by_cases h : s.findIdx g < s.length
  · rw [if_pos h]
    apply Loop_done
    have hx : s[s.findIdx g]? = some s[s.findIdx g] := List.getElem?_eq_getElem h
    have hg : g s[s.findIdx g] = true := List.findIdx_getElem
    rw [slices_IndexFunc_api_Edge_api_Edge.b1, if_pos (by rw [decide_eq_true_eq]; omega), idx_nat, hx, Option.bind_some, hf _ (List.getElem_mem _), Option.bind_some, if_pos hg]
  · rw [if_neg h]
    apply Loop_done
    rw [slices_IndexFunc_api_Edge_api_Edge.b1, if_neg (by rw [decide_eq_true_eq]; omega)]
    rfl
/-- A key's bytes of an edge. -/
def kb (x : TEdge) : List UInt8 := [x.Label, u8 (IntKind.u8.wrap (shR .i64 x.To 24)), u8 (IntKind.u8.wrap (shR .i64 x.To 16)), u8 (IntKind.u8.wrap (shR .i64 x.To 8)), u8 (IntKind.u8.wrap x.To)]
def keyOf (f : Bool) (es : List TEdge) : List UInt8 := (if f then 1 else 0) :: es.flatMap kb
theorem key_loop {es : List TEdge} {out : List UInt8} (ho : out.length = 1) (hl : es.length ≤ 1000000) : dawg_key.k1 es out = some (out ++ es.flatMap kb) := by
  unfold dawg_key.k1
  have hlen : ∀ k, k ≤ es.length → (out ++ (es.take k).flatMap kb).length = 1 + 5 * k := fun k hk => by
    rw [List.length_append, ho]
    have : ∀ l : List TEdge, (l.flatMap kb).length = 5 * l.length := by
      intro l
      induction l with
      | nil => rfl
      | cons x l ih => simp [kb] at ih ⊢; omega
    rw [this, List.length_take, Nat.min_eq_left hk]
  have := Loop_run (b := dawg_key.b1 es) (fun k => (out ++ (es.take k).flatMap kb, (k : Int))) (i := 0) (n := es.length) (Nat.zero_le _) (fun k _ hk => by
    have hx : es[k]? = some es[k] := List.getElem?_eq_getElem hk
    rw [dawg_key.b1, if_pos (by simp; omega), idx_nat, hx, Option.bind_some, room_ok (by rw [hlen k (by omega)]; omega), Option.bind_some, w64s (by omega), take_snoc hx]
    simp only [List.flatMap_append, List.flatMap_cons, List.flatMap_nil, List.append_nil, kb, List.append_assoc])
  simp only [List.take_zero, List.take_length, List.flatMap_nil, List.append_nil] at this
  rw [show ((0 : Nat) : Int) = 0 from rfl] at this
  rw [this]
  apply Loop_end
  rw [dawg_key.b1, if_neg (by simp)]
  rfl
theorem key_eq {f : Bool} {es : List TEdge} (hl : es.length ≤ 1000000) : dawg_key f es = some (keyOf f es) := by
  unfold dawg_key
  cases f with
  | true =>
    rw [if_pos rfl]
    simp only [List.getElem?_cons_zero, Option.bind_some]
    rw [key_loop (by simp) hl]
    rfl
  | false =>
    rw [if_neg (by simp), key_loop rfl hl]
    rfl

/-! ### two words -/
def wA : Str := [97, 98]
def wB : Str := [99, 98]
theorem label_f {s : Str} {i : Nat} {c d : UInt8} (h : s[i]? = some d) : dawg_builder_state_1 s (i : Int) c = some ((d.toNat : Int) != (c.toNat : Int)) := by
  unfold dawg_builder_state_1; rw [idx_nat, h]; rfl
theorem st_end (k : Nat) (b : Tdawg_builder) (s : Str) (hs : s.length = 2) {i : Int} {b' : Tdawg_builder} (h : dawg_builder_state.k2 true [] b.Graph.Final b.Graph.Edges b.known = some (i, b')) : dawg_builder_state.r (k + 1) b [s] 2 = some (i, b') := by
  rw [dawg_builder_state.r]
  simp only [List.length_cons, List.length_nil, List.getElem?_cons_zero, Option.bind_some, hs]
  simp only [dawg_builder_state.k1, cutL]
  simp
  apply Loop_end
  rw [dawg_builder_state.b1, if_neg (by simp), h]
theorem st_one (k : Nat) (b b1 b2 : Tdawg_builder) (c : UInt8) {i j : Int} (h1 : dawg_builder_state.r (k + 1) b [[c, 98]] 2 = some (i, b1)) (h2 : dawg_builder_state.k2 false [⟨98, i⟩] b1.Graph.Final b1.Graph.Edges b1.known = some (j, b2)) :
    dawg_builder_state.r (k + 2) b [[c, 98]] 1 = some (j, b2) := by
  rw [dawg_builder_state.r]
  have e1 : ((([[c, 98]] : List Str).length : Int) > 0) := by simp
  rw [if_pos (by simp)]
  simp only [List.getElem?_cons_zero, Option.bind_some]
  rw [if_neg (by simp)]
  unfold dawg_builder_state.k1
  have hf : slices_IndexFunc_string_string [[c, 98]] (fun x0 => dawg_builder_state_1 x0 1 98) = some (-1) := by
    rw [IndexFunc_str (g := fun _ => false) (fun x hx => by
      simp at hx; subst hx
      exact label_f (i := 1) (d := 98) rfl) (by simp)]
    rfl
  have step : dawg_builder_state.b1 (dawg_builder_state.r (k + 1)) 1 false ([[c, 98]], [], b.Graph.Final, b.Graph.Edges, b.known) = some (.next ([], [⟨98, i⟩], b1.Graph.Final, b1.Graph.Edges, b1.known)) := by
    rw [dawg_builder_state.b1, if_pos (by simp)]
    simp only [List.getElem?_cons_zero, Option.bind_some]
    rw [show (1 : Int) = ((1 : Nat) : Int) from rfl, idx_nat]
    simp only [List.getElem?_cons_succ, List.getElem?_cons_zero, Option.bind_some]
    rw [show ((1 : Nat) : Int) = 1 from rfl, hf, Option.bind_some, if_pos (by simp)]
    unfold dawg_builder_state.k4
    have ew : IntKind.i64.wrap (1 + 1) = 2 := by rw [w64] <;> omega
    simp only [List.length_cons, List.length_nil, cutH, cutL, ew]
    simp [h1, room_ok]
  change Loop (dawg_builder_state.b1 (dawg_builder_state.r (k + 1)) 1 false) _ = _
  rw [Loop_next step]
  apply Loop_end
  rw [dawg_builder_state.b1, if_neg (by simp), h2]
def bF : Tdawg_builder := ⟨⟨[true], [[]]⟩, [([1], 0)]⟩
def bG : Tdawg_builder := ⟨⟨[true, false], [[], [⟨98, 0⟩]]⟩, [([1], 0), ([0, 98, 0, 0, 0, 0], 1)]⟩
def bH : Tdawg_builder := ⟨⟨[true, false, false], [[], [⟨98, 0⟩], [⟨97, 1⟩, ⟨99, 1⟩]]⟩, [([1], 0), ([0, 98, 0, 0, 0, 0], 1), ([0, 97, 0, 0, 0, 1, 99, 0, 0, 0, 1], 2)]⟩
theorem kk1 : keyOf true [] = [1] := rfl
theorem kk2 : keyOf false [⟨98, 0⟩] = [0, 98, 0, 0, 0, 0] := by decide
theorem kk3 : keyOf false [⟨97, 1⟩, ⟨99, 1⟩] = [0, 97, 0, 0, 0, 1, 99, 0, 0, 0, 1] := by decide
theorem s1 : dawg_builder_state.k2 true [] [] [] [] = some (0, bF) := by
  unfold dawg_builder_state.k2
  rw [key_eq (by simp), Option.bind_some, kk1]
  simp [aget, room_ok, dawg_builder_state.k3, aput, bF]
theorem s2 : dawg_builder_state.k2 true [] bG.Graph.Final bG.Graph.Edges bG.known = some (0, bG) := by
  unfold dawg_builder_state.k2
  rw [key_eq (by simp), Option.bind_some, kk1]
  simp [aget, room_ok, dawg_builder_state.k3, aput, bG]
theorem s3 : dawg_builder_state.k2 false [⟨98, 0⟩] bF.Graph.Final bF.Graph.Edges bF.known = some (1, bG) := by
  unfold dawg_builder_state.k2
  rw [key_eq (by simp), Option.bind_some, kk2]
  simp [aget, room_ok, dawg_builder_state.k3, aput, bG, bF]
theorem s4 : dawg_builder_state.k2 false [⟨98, 0⟩] bG.Graph.Final bG.Graph.Edges bG.known = some (1, bG) := by
  unfold dawg_builder_state.k2
  rw [key_eq (by simp), Option.bind_some, kk2]
  simp [aget, room_ok, dawg_builder_state.k3, aput, bG, bF]
theorem s5 : dawg_builder_state.k2 false [⟨97, 1⟩, ⟨99, 1⟩] bG.Graph.Final bG.Graph.Edges bG.known = some (2, bH) := by
  unfold dawg_builder_state.k2
  rw [key_eq (by simp), Option.bind_some, kk3]
  simp [aget, room_ok, dawg_builder_state.k3, aput, bG, bH]
theorem stA (k : Nat) : dawg_builder_state.r (k + 2) ⟨⟨[], []⟩, []⟩ [wA] 1 = some (1, bG) := st_one k _ bF bG 97 (st_end k _ _ rfl s1) s3
theorem stB (k : Nat) : dawg_builder_state.r (k + 2) bG [wB] 1 = some (1, bG) := st_one k _ bG bG 99 (st_end k _ _ rfl s2) s4
theorem stAB (k : Nat) : dawg_builder_state.r (k + 3) ⟨⟨[], []⟩, []⟩ [wA, wB] 0 = some (2, bH) := by
  rw [dawg_builder_state.r]
  rw [if_pos (by simp)]
  simp only [List.getElem?_cons_zero, Option.bind_some]
  rw [if_neg (by simp [wA])]
  unfold dawg_builder_state.k1
  have hfA : slices_IndexFunc_string_string [wA, wB] (fun x0 => dawg_builder_state_1 x0 0 97) = some 1 := by
    rw [IndexFunc_str (g := fun s => s == wB) (fun x hx => by
      simp at hx
      rcases hx with rfl | rfl
      · exact label_f (i := 0) (d := 97) rfl
      · exact label_f (i := 0) (d := 99) rfl) (by simp)]
    rfl
  have hfB : slices_IndexFunc_string_string [wB] (fun x0 => dawg_builder_state_1 x0 0 99) = some (-1) := by
    rw [IndexFunc_str (g := fun s => false) (fun x hx => by
      simp at hx; subst hx
      exact label_f (i := 0) (d := 99) rfl) (by simp)]
    rfl
  have ew : IntKind.i64.wrap (0 + 1) = 1 := by rw [w64] <;> omega
  have step1 : dawg_builder_state.b1 (dawg_builder_state.r (k + 2)) 0 false ([wA, wB], [], [], [], []) = some (.next ([wB], [⟨97, 1⟩], bG.Graph.Final, bG.Graph.Edges, bG.known)) := by
    rw [dawg_builder_state.b1, if_pos (by simp)]
    simp only [List.getElem?_cons_zero, Option.bind_some]
    rw [show (0 : Int) = ((0 : Nat) : Int) from rfl, idx_nat, show wA[0]? = some 97 from rfl, Option.bind_some]
    rw [show ((0 : Nat) : Int) = 0 from rfl, hfA, Option.bind_some, if_neg (by simp)]
    unfold dawg_builder_state.k4
    simp only [List.length_cons, List.length_nil, cutH, cutL, ew]
    simp [stA, room_ok]
  have step2 : dawg_builder_state.b1 (dawg_builder_state.r (k + 2)) 0 false ([wB], [⟨97, 1⟩], bG.Graph.Final, bG.Graph.Edges, bG.known) = some (.next ([], [⟨97, 1⟩, ⟨99, 1⟩], bG.Graph.Final, bG.Graph.Edges, bG.known)) := by
    rw [dawg_builder_state.b1, if_pos (by simp)]
    simp only [List.getElem?_cons_zero, Option.bind_some]
    rw [show (0 : Int) = ((0 : Nat) : Int) from rfl, idx_nat, show wB[0]? = some 99 from rfl, Option.bind_some]
    rw [show ((0 : Nat) : Int) = 0 from rfl, hfB, Option.bind_some, if_pos (by simp)]
    unfold dawg_builder_state.k4
    have e : dawg_builder_state.r (k + 2) ⟨⟨bG.Graph.Final, bG.Graph.Edges⟩, bG.known⟩ [wB] 1 = some (1, bG) := stB k
    simp only [List.length_cons, List.length_nil, cutH, cutL, ew]
    simp [e, room_ok]
  change Loop (dawg_builder_state.b1 (dawg_builder_state.r (k + 2)) 0 false) _ = _
  rw [Loop_next step1, Loop_next step2]
  apply Loop_end
  rw [dawg_builder_state.b1, if_neg (by simp), s5]
theorem rise2 : dawg_rise [wA, wB] = some true := by
  unfold dawg_rise
  have step : dawg_rise.b1 [wA, wB] 1 = some (.next 2) := by
    unfold dawg_rise.b1
    have ew : IntKind.i64.wrap (1 - 1) = ((0 : Nat) : Int) := by rw [w64] <;> simp
    have ew2 : IntKind.i64.wrap (1 + 1) = 2 := by rw [w64] <;> omega
    rw [if_pos (by simp), ew, idx_nat, show (1 : Int) = ((1 : Nat) : Int) from rfl, idx_nat]
    simp only [List.getElem?_cons_succ, List.getElem?_cons_zero, Option.bind_some]
    rw [if_neg (by decide)]
    rw [show ((1 : Nat) : Int) = 1 from rfl, ew2]
  rw [Loop_next step]
  apply Loop_end
  unfold dawg_rise.b1
  rw [if_neg (by simp)]
  unfold dawg_rise.k1
  have hc : slices_ContainsFunc_string_string [wA, wB] dawg_rise_1 = some false := by
    unfold slices_ContainsFunc_string_string
    rw [IndexFunc_str (g := fun _ => false) (fun x hx => by
      simp at hx
      rcases hx with rfl | rfl <;> rfl) (by simp)]
    rfl
  simp [hc]
theorem Build2 : dawg_Build [wA, wB] = some (bH.Graph, 0) := by
  unfold dawg_Build
  have hs : dawg_builder_state ⟨⟨[], []⟩, []⟩ [wA, wB] 0 = some (2, bH) := lim_eq 3 fun k hk => by
    obtain ⟨j, rfl⟩ : ∃ j, k = j + 3 := ⟨k - 3, by omega⟩
    exact stAB j
  rw [rise2, Option.bind_some, if_neg (by simp), hs]
  rfl
theorem lab_f {x : TEdge} {s : Str} {i : Nat} {d : UInt8} (h : s[i]? = some d) : dawg_walk_1 x s (i : Int) = some ((x.Label.toNat : Int) == (d.toNat : Int)) := by
  unfold dawg_walk_1; rw [idx_nat, h]; rfl
theorem right2 : RightP bH.Graph where
  lo := by simp [bH]
  hi := by simp [bH]
  len := rfl
  rows := fun s hs xs hx k hk x hx2 => by
    have h3 : s < 3 := hs
    match s, h3 with
    | 0, _ => cases hx; simp at hk
    | 1, _ =>
      cases hx
      match k, hk with
      | 0, _ => cases hx2; exact ⟨by simp, by simp, fun h => by omega⟩
    | 2, _ =>
      cases hx
      match k, hk with
      | 0, _ => cases hx2; exact ⟨by simp, by simp, fun h => by omega⟩
      | 1, _ => cases hx2; exact ⟨by simp, by simp, fun _ x1 h1 => by cases h1; decide⟩
end Go.Val

/- part P6 -/
/- Plain lemmas: walks through a graph; Has. -/
namespace Go.Val
set_option linter.unusedVariables false
theorem lab_eq {a b : UInt8} : (((a.toNat : Int)) == (b.toNat : Int)) = (a == b) := by
  by_cases h : a = b
  · subst h; simp
  · have : a.toNat ≠ b.toNat := fun e => h (UInt8.toNat_inj.1 e)
    have h2 : ((a.toNat : Int)) ≠ (b.toNat : Int) := by omega
    rw [beq_eq_false_iff_ne.2 h, beq_eq_false_iff_ne.2 h2]
def isLab (c : UInt8) (x : TEdge) : Bool := x.Label == c
def nextS (g : TGraph) (s : Int) (c : UInt8) : Option Int := (g.Edges[s.toNat]?).bind fun xs => (xs[xs.findIdx (isLab c)]?).map TEdge.To
def runS (g : TGraph) : Int → Str → Option Int
  | s, [] => some s
  | s, c :: w => (nextS g s c).bind fun t => runS g t w
theorem runS_snoc {g : TGraph} {c : UInt8} : ∀ {w : Str} {s : Int}, runS g s (w ++ [c]) = (runS g s w).bind fun t => nextS g t c
  | [], s => by simp [runS]
  | d :: w, s => by
    simp only [List.cons_append, runS]
    cases nextS g s d with
    | none => rfl
    | some t => exact runS_snoc
/-- Where an edge leads lies below. -/
theorem next_ok {g : TGraph} (hr : RightP g) {s t : Int} {c : UInt8} (h0 : 0 ≤ s) (h1 : s < g.Final.length) (h : nextS g s c = some t) : 0 ≤ t ∧ t < s := by
  unfold nextS at h
  obtain ⟨xs, hx, h⟩ := Option.bind_eq_some_iff.1 h
  obtain ⟨x, hk, rfl⟩ := Option.map_eq_some_iff.1 h
  have hlt := (List.getElem?_eq_some_iff.1 hx).1
  have := hr.rows s.toNat hlt xs hx _ (List.getElem?_eq_some_iff.1 hk).1 x hk
  omega
theorem runS_ok {g : TGraph} (hr : RightP g) : ∀ {w : Str} {s t : Int}, 0 ≤ s → s < g.Final.length → runS g s w = some t → 0 ≤ t ∧ t < g.Final.length
  | [], s, t, h0, h1, h => by simp [runS] at h; omega
  | c :: w, s, t, h0, h1, h => by
    simp only [runS] at h
    obtain ⟨u, hu, h⟩ := Option.bind_eq_some_iff.1 h
    have := next_ok hr h0 h1 hu
    exact runS_ok hr (s := u) this.1 (by omega) h
theorem row_at {g : TGraph} (hr : RightP g) {s : Int} (h0 : 0 ≤ s) (h1 : s < g.Final.length) : ∃ xs, idx g.Edges s = some xs ∧ g.Edges[s.toNat]? = some xs ∧ xs ∈ g.Edges := by
  have hlt : s.toNat < g.Edges.length := by have := hr.len; omega
  have hx : g.Edges[s.toNat]? = some g.Edges[s.toNat] := List.getElem?_eq_getElem hlt
  exact ⟨_, idx_some h0 hx, hx, List.getElem_mem hlt⟩
theorem ref_to_eq {g : TGraph} (hs : Short g) (hr : RightP g) {s : Int} (h0 : 0 ≤ s) (h1 : s < g.Final.length) (c : UInt8) : scansionref17_to g s c = some ((nextS g s c).getD (-1)) := by
  obtain ⟨xs, hi, hx, hm⟩ := row_at hr h0 h1
  have hl := hs xs hm
  unfold scansionref17_to nextS
  rw [hx, Option.bind_some]
  have hle : xs.findIdx (isLab c) ≤ xs.length := List.findIdx_le_length
  have := Loop_int (b := scansionref17_to.b1 g s c) (i := 0) (n := xs.findIdx (isLab c)) (Nat.zero_le _) (fun j _ hj => by
    have hlt : j < xs.length := by omega
    have hj1 : xs[j]? = some xs[j] := List.getElem?_eq_getElem hlt
    have hg : isLab c xs[j] = false := by simpa using List.not_of_lt_findIdx hj
    unfold scansionref17_to.b1
    rw [hi, Option.bind_some, if_pos (by rw [decide_eq_true_eq]; omega), idx_nat, hj1, Option.bind_some, lab_eq, if_neg (by unfold isLab at hg; simp [hg]), w64s (by omega)])
  rw [show ((0 : Nat) : Int) = 0 from rfl] at this
  rw [this]
  by_cases h : xs.findIdx (isLab c) < xs.length
  · have hx1 : xs[xs.findIdx (isLab c)]? = some xs[xs.findIdx (isLab c)] := List.getElem?_eq_getElem h
    have hg : isLab c xs[xs.findIdx (isLab c)] = true := List.findIdx_getElem
    rw [hx1]
    apply Loop_done
    unfold scansionref17_to.b1
    rw [hi, Option.bind_some, if_pos (by rw [decide_eq_true_eq]; omega), idx_nat, hx1, Option.bind_some, lab_eq, if_pos (by unfold isLab at hg; exact hg)]
    rfl
  · rw [List.getElem?_eq_none (by omega)]
    apply Loop_done
    unfold scansionref17_to.b1
    rw [hi, Option.bind_some, if_neg (by rw [decide_eq_true_eq]; omega)]
    rfl
/-- Has: does a word end where it leads? -/
def hasS (g : TGraph) (w : Str) : Bool := ((runS g ((g.Final.length : Int) - 1) w).bind fun s => g.Final[s.toNat]?).getD false
theorem start_w {g : TGraph} (hr : RightP g) : IntKind.i64.wrap ((g.Final.length : Int) - 1) = (g.Final.length : Int) - 1 := by
  have := hr.lo; have := hr.hi; rw [w64 (by omega) (by omega)]
theorem final_at {g : TGraph} {s : Int} (h0 : 0 ≤ s) (h1 : s < g.Final.length) : ∃ b, idx g.Final s = some b ∧ g.Final[s.toNat]? = some b := by
  have hx : g.Final[s.toNat]? = some (g.Final[s.toNat]'(by omega)) := List.getElem?_eq_getElem _
  exact ⟨_, idx_some h0 hx, hx⟩
theorem run_take_next {g : TGraph} {s : Int} {w : Str} {k : Nat} {c : UInt8} (hc : w[k]? = some c) : runS g s (w.take (k + 1)) = (runS g s (w.take k)).bind fun t => nextS g t c := by
  rw [take_snoc hc, runS_snoc]
theorem run_take_none {g : TGraph} {s : Int} {w : Str} {k : Nat} (h : runS g s (w.take k) = none) : ∀ j, k ≤ j → runS g s (w.take j) = none := by
  intro j hj
  induction j with
  | zero => obtain rfl : k = 0 := by omega
            exact h
  | succ j ih =>
    by_cases e : k = j + 1
    · rw [← e]; exact h
    · have := ih (by omega)
      cases hc : w[j]? with
      | none => rw [List.take_of_length_le (by have := List.getElem?_eq_none_iff.1 hc; omega)]; rw [List.take_of_length_le (List.getElem?_eq_none_iff.1 hc)] at this; exact this
      | some c => rw [run_take_next hc, this]; rfl
/-- Either all of a word leads on, or there is a first place from which it doesn't. -/
theorem run_split (g : TGraph) (s : Int) (w : Str) : (∀ k, k ≤ w.length → ∃ t, runS g s (w.take k) = some t) ∨ ∃ k t c, k < w.length ∧ w[k]? = some c ∧ (∀ j, j ≤ k → ∃ t, runS g s (w.take j) = some t) ∧ runS g s (w.take k) = some t ∧ nextS g t c = none := by
  have key : ∀ n, n ≤ w.length → (∀ k, k ≤ n → ∃ t, runS g s (w.take k) = some t) ∨ ∃ k t c, k < n ∧ w[k]? = some c ∧ (∀ j, j ≤ k → ∃ t, runS g s (w.take j) = some t) ∧ runS g s (w.take k) = some t ∧ nextS g t c = none := by
    intro n
    induction n with
    | zero => intro _; exact .inl fun k hk => ⟨s, by obtain rfl : k = 0 := by omega
                                                     rfl⟩
    | succ n ih =>
      intro hn
      rcases ih (by omega) with h | ⟨k, t, c, h1, h2⟩
      · obtain ⟨t, ht⟩ := h n (Nat.le_refl _)
        have hc : w[n]? = some w[n] := List.getElem?_eq_getElem (by omega)
        cases hnx : nextS g t w[n] with
        | none => exact .inr ⟨n, t, w[n], by omega, hc, h, ht, hnx⟩
        | some u =>
          refine .inl fun k hk => ?_
          by_cases e : k = n + 1
          · subst e; exact ⟨u, by rw [run_take_next hc, ht]; exact hnx⟩
          · exact h k (by omega)
      · exact .inr ⟨k, t, c, by omega, h2⟩
  exact key w.length (Nat.le_refl _)
theorem ref_Has_eq {g : TGraph} (hs : Short g) (hr : RightP g) {w : Str} (hw : w.length ≤ 1000) : scansionref17_Has g w = some (hasS g w) := by
  unfold scansionref17_Has
  rw [ref_Right_eq hs, Option.bind_some, if_neg (by simp [hr]), start_w hr]
  have hst0 : 0 ≤ (g.Final.length : Int) - 1 := by have := hr.lo; omega
  have hst1 : (g.Final.length : Int) - 1 < g.Final.length := by omega
  have step : ∀ k t, k < w.length → runS g ((g.Final.length : Int) - 1) (w.take k) = some t → ∀ c, w[k]? = some c → scansionref17_Has.b1 g w (t, (k : Int)) = (match nextS g t c with | some u => some (.next (u, ((k + 1 : Nat) : Int))) | none => some (.done false)) := fun k t hk ht c hc => by
    have hb := runS_ok hr hst0 hst1 ht
    rw [scansionref17_Has.b1, if_pos (by rw [decide_eq_true_eq]; omega), idx_nat, hc, Option.bind_some, ref_to_eq hs hr hb.1 hb.2, Option.bind_some]
    cases hn : nextS g t c with
    | none => rfl
    | some u =>
      have := next_ok hr hb.1 hb.2 hn
      simp only [Option.getD_some]
      rw [if_neg (by rw [decide_eq_true_eq]; omega), w64s (by omega)]
  rcases run_split g ((g.Final.length : Int) - 1) w with hall | ⟨k, t, c, hk, hc, hpre, ht, hn⟩
  · have := Loop_run (b := scansionref17_Has.b1 g w) (fun k => ((runS g ((g.Final.length : Int) - 1) (w.take k)).getD 0, (k : Int))) (i := 0) (n := w.length) (Nat.zero_le _) (fun k _ hk => by
      obtain ⟨t, ht⟩ := hall k (by omega)
      obtain ⟨u, hu⟩ := hall (k + 1) (by omega)
      have hc : w[k]? = some w[k] := List.getElem?_eq_getElem hk
      have hn : nextS g t w[k] = some u := by rw [run_take_next hc, ht] at hu; exact hu
      simp only [ht, hu, Option.getD_some]
      rw [step k t hk ht _ hc, hn])
    simp only [List.take_zero, List.take_length, runS, Option.getD_some] at this
    rw [show ((0 : Nat) : Int) = 0 from rfl] at this
    rw [this]
    obtain ⟨t, ht⟩ := hall w.length (Nat.le_refl _)
    rw [List.take_length] at ht
    have hb := runS_ok hr hst0 hst1 ht
    obtain ⟨b, hb1, hb2⟩ := final_at hb.1 hb.2
    apply Loop_end
    rw [ht, Option.getD_some, scansionref17_Has.b1, if_neg (by rw [decide_eq_true_eq]; omega)]
    unfold scansionref17_Has.k1
    rw [hb1]
    simp [hasS, ht, hb2]
  · have := Loop_run (b := scansionref17_Has.b1 g w) (fun k => ((runS g ((g.Final.length : Int) - 1) (w.take k)).getD 0, (k : Int))) (i := 0) (n := k) (Nat.zero_le _) (fun j _ hj => by
      obtain ⟨t, ht⟩ := hpre j (by omega)
      obtain ⟨u, hu⟩ := hpre (j + 1) (by omega)
      have hc : w[j]? = some (w[j]'(by omega)) := List.getElem?_eq_getElem _
      have hn : nextS g t (w[j]'(by omega)) = some u := by rw [run_take_next hc, ht] at hu; exact hu
      simp only [ht, hu, Option.getD_some]
      rw [step j t (by omega) ht _ hc, hn])
    simp only [List.take_zero, runS, Option.getD_some, ht] at this
    rw [show ((0 : Nat) : Int) = 0 from rfl] at this
    rw [this]
    have hnone : runS g ((g.Final.length : Int) - 1) w = none := by
      have h1 : runS g ((g.Final.length : Int) - 1) (w.take (k + 1)) = none := by rw [run_take_next hc, ht]; exact hn
      have := run_take_none h1 w.length (by omega)
      rwa [List.take_length] at this
    rw [Loop_done (r := false) (by rw [step k t hk ht c hc, hn])]
    simp [hasS, hnone]
end Go.Val

/- part P7 -/
/- Plain lemmas: the farm's walk and Has. -/
namespace Go.Val
set_option linter.unusedVariables false
def stsS (g : TGraph) (s : Int) (w : Str) (j : Nat) : List Int := (List.range (j + 1)).map fun k => (runS g s (w.take k)).getD 0
theorem stsS_len {g : TGraph} {s : Int} {w : Str} {j : Nat} : (stsS g s w j).length = j + 1 := by simp [stsS]
theorem stsS_at {g : TGraph} {s : Int} {w : Str} {j k : Nat} {t : Int} (hk : k ≤ j) (h : runS g s (w.take k) = some t) : idx (stsS g s w j) (k : Int) = some t := by
  rw [idx_nat]
  unfold stsS
  rw [List.getElem?_map, List.getElem?_range (by omega)]
  simp [h]
theorem stsS_snoc {g : TGraph} {s : Int} {w : Str} {j : Nat} {t : Int} (h : runS g s (w.take (j + 1)) = some t) : stsS g s w (j + 1) = stsS g s w j ++ [t] := by
  unfold stsS
  rw [List.range_succ (n := j + 1), List.map_append]
  simp [h]
theorem walk_step {g : TGraph} (hs : Short g) (hr : RightP g) {w : Str} (hw : w.length ≤ 1000000) {s : Int} (h0 : 0 ≤ s) (h1 : s < g.Final.length) {k : Nat} {t : Int} {c : UInt8} (hk : k < w.length) (hc : w[k]? = some c) (ht : runS g s (w.take k) = some t) :
    dawg_walk.b1 g w (stsS g s w k, (k : Int)) = (match nextS g t c with | some u => some (.next (stsS g s w (k + 1), ((k + 1 : Nat) : Int))) | none => some (.done ([], false))) := by
  have hb := runS_ok hr h0 h1 ht
  obtain ⟨xs, hi, hx, hm⟩ := row_at hr hb.1 hb.2
  have hl := hs xs hm
  have hf : slices_IndexFunc_api_Edge_api_Edge xs (fun x0 => dawg_walk_1 x0 w (k : Int)) = some (find (isLab c) xs) :=
    IndexFunc_edge (fun x _ => by rw [lab_f hc, lab_eq]; rfl) hl
  have hlen : (stsS g s w k).length = k + 1 := stsS_len
  rw [dawg_walk.b1, if_pos (by rw [decide_eq_true_eq]; omega), stsS_at (Nat.le_refl _) ht, Option.bind_some, hi, Option.bind_some, hf, Option.bind_some]
  have hn : nextS g t c = (xs[xs.findIdx (isLab c)]?).map TEdge.To := by unfold nextS; rw [hx, Option.bind_some]
  rw [hn]
  by_cases h : xs.findIdx (isLab c) < xs.length
  · have hx1 : xs[xs.findIdx (isLab c)]? = some xs[xs.findIdx (isLab c)] := List.getElem?_eq_getElem h
    have hfd : find (isLab c) xs = (xs.findIdx (isLab c) : Int) := by unfold find; rw [if_pos h]
    have hnext : runS g s (w.take (k + 1)) = some (xs[xs.findIdx (isLab c)]).To := by rw [run_take_next hc, ht, Option.bind_some, hn, hx1]; rfl
    rw [hfd, if_neg (by rw [decide_eq_true_eq]; omega), idx_nat, hx1, Option.bind_some, room_ok (by rw [hlen]; omega), Option.bind_some, w64s (by omega), stsS_snoc hnext]
    rfl
  · have hfd : find (isLab c) xs = -1 := by unfold find; rw [if_neg h]
    rw [hfd, if_pos (by decide), List.getElem?_eq_none (by omega)]
    rfl
/-- The walk: the states on the way, or nothing. -/
theorem dawg_walk_eq {g : TGraph} (hs : Short g) (hr : RightP g) {w : Str} (hw : w.length ≤ 1000000) : dawg_walk g w = some (if (runS g ((g.Final.length : Int) - 1) w).isSome then (stsS g ((g.Final.length : Int) - 1) w w.length, true) else ([], false)) := by
  unfold dawg_walk
  rw [start_w hr]
  have hst0 : 0 ≤ (g.Final.length : Int) - 1 := by have := hr.lo; omega
  have hst1 : (g.Final.length : Int) - 1 < g.Final.length := by omega
  have e0 : [(g.Final.length : Int) - 1] = stsS g ((g.Final.length : Int) - 1) w 0 := by simp [stsS, runS]
  rw [e0]
  rcases run_split g ((g.Final.length : Int) - 1) w with hall | ⟨k, t, c, hk, hc, hpre, ht, hn⟩
  · have := Loop_run (b := dawg_walk.b1 g w) (fun k => (stsS g ((g.Final.length : Int) - 1) w k, (k : Int))) (i := 0) (n := w.length) (Nat.zero_le _) (fun k _ hk => by
      obtain ⟨t, ht⟩ := hall k (by omega)
      obtain ⟨u, hu⟩ := hall (k + 1) (by omega)
      have hc : w[k]? = some w[k] := List.getElem?_eq_getElem hk
      have hn : nextS g t w[k] = some u := by rw [run_take_next hc, ht] at hu; exact hu
      show dawg_walk.b1 g w (stsS g _ w k, (k : Int)) = _
      rw [walk_step hs hr hw hst0 hst1 hk hc ht, hn])
    simp only [show ((0 : Nat) : Int) = 0 from rfl] at this
    rw [this]
    obtain ⟨t, ht⟩ := hall w.length (Nat.le_refl _)
    rw [List.take_length] at ht
    apply Loop_end
    simp only [ht, Option.isSome_some, if_true]
    rw [dawg_walk.b1, if_neg (by rw [decide_eq_true_eq]; omega)]
    rfl
  · have := Loop_run (b := dawg_walk.b1 g w) (fun k => (stsS g ((g.Final.length : Int) - 1) w k, (k : Int))) (i := 0) (n := k) (Nat.zero_le _) (fun j _ hj => by
      obtain ⟨t, ht⟩ := hpre j (by omega)
      obtain ⟨u, hu⟩ := hpre (j + 1) (by omega)
      have hc : w[j]? = some (w[j]'(by omega)) := List.getElem?_eq_getElem _
      have hn : nextS g t (w[j]'(by omega)) = some u := by rw [run_take_next hc, ht] at hu; exact hu
      show dawg_walk.b1 g w (stsS g _ w j, (j : Int)) = _
      rw [walk_step hs hr hw hst0 hst1 (by omega) hc ht, hn])
    simp only [show ((0 : Nat) : Int) = 0 from rfl] at this
    rw [this]
    have hnone : runS g ((g.Final.length : Int) - 1) w = none := by
      have h1 : runS g ((g.Final.length : Int) - 1) (w.take (k + 1)) = none := by rw [run_take_next hc, ht]; exact hn
      have := run_take_none h1 w.length (by omega)
      rwa [List.take_length] at this
    rw [Loop_done (r := ([], false)) (by rw [walk_step hs hr hw hst0 hst1 hk hc ht, hn]), hnone]
    rfl
theorem run_last {g : TGraph} (hr : RightP g) {w : Str} {t : Int} (h : runS g ((g.Final.length : Int) - 1) w = some t) : idx (stsS g ((g.Final.length : Int) - 1) w w.length) (w.length : Int) = some t ∧ 0 ≤ t ∧ t < g.Final.length :=
  ⟨stsS_at (Nat.le_refl _) (by rw [List.take_length]; exact h), runS_ok hr (by have := hr.lo; omega) (by omega) h⟩
end Go.Val

/- part P8 -/
/- Plain lemmas: Number of both. -/
namespace Go.Val
set_option linter.unusedVariables false
def numRow (cs : List Int) (n : Int) (xs : List TEdge) (c : UInt8) : Int := xs.foldl (fun n x => if x.Label.toNat < c.toNat then n + cs.getD x.To.toNat 0 else n) n
theorem numRow_snoc {cs : List Int} {n : Int} {xs : List TEdge} {x : TEdge} {c : UInt8} : numRow cs n (xs ++ [x]) c = if x.Label.toNat < c.toNat then numRow cs n xs c + cs.getD x.To.toNat 0 else numRow cs n xs c := by simp [numRow]
theorem numRow_bound {cs : List Int} (hc : ∀ c ∈ cs, 0 ≤ c ∧ c ≤ cap) {n : Int} (h0 : 0 ≤ n) (c : UInt8) (xs : List TEdge) : n ≤ numRow cs n xs c ∧ numRow cs n xs c ≤ n + xs.length * cap := by
  induction xs using snoc_ind with
  | h0 => simp [numRow]
  | h1 l x ih =>
    rw [numRow_snoc]
    have := getD_bound hc x.To.toNat
    have e : ((l ++ [x]).length : Int) * cap = l.length * cap + cap := by rw [List.length_append]; simp [Int.add_mul]
    have hcap : (0 : Int) ≤ cap := by unfold cap; omega
    split <;> omega
theorem cnt_at {g : TGraph} (hr : RightP g) {t : Int} (h0 : 0 ≤ t) (h1 : t < g.Final.length) : idx (counts (rowsOf g)) t = some ((counts (rowsOf g)).getD t.toNat 0) := by
  have hl : (counts (rowsOf g)).length = g.Final.length := by rw [counts_len, rows_len hr.len]
  have hx : (counts (rowsOf g))[t.toNat]? = some ((counts (rowsOf g))[t.toNat]'(by omega)) := List.getElem?_eq_getElem _
  rw [idx_some h0 hx]
  rw [List.getD_eq_getElem?_getD, hx]; rfl
theorem row_ok {g : TGraph} (hr : RightP g) {s : Int} (h0 : 0 ≤ s) (h1 : s < g.Final.length) {xs : List TEdge} (hx : g.Edges[s.toNat]? = some xs) {x : TEdge} {k : Nat} (hk : xs[k]? = some x) : 0 ≤ x.To ∧ x.To < s ∧ (0 < k → ∀ x1, xs[k - 1]? = some x1 → x1.Label.toNat < x.Label.toNat) := by
  have := hr.rows s.toNat (List.getElem?_eq_some_iff.1 hx).1 xs hx _ (List.getElem?_eq_some_iff.1 hk).1 x hk
  exact ⟨this.1, by omega, this.2.2⟩
/-- One row of the farm's Number. -/
theorem dawg_num_row {g : TGraph} (hr : RightP g) {s : Int} (h0 : 0 ≤ s) (h1 : s < g.Final.length) {xs : List TEdge} (hx : g.Edges[s.toNat]? = some xs) (hl : xs.length ≤ 300) {w : Str} {v : Nat} {c : UInt8} (hc : w[v]? = some c) (hv : v < 1000) (e : Int) {n : Int} (hn0 : 0 ≤ n) (hn1 : n ≤ 1000000000000000000) :
    Loop (dawg_Number.b2 w (counts (rowsOf g), e) (v : Int) xs) (n, 0) = some (.next (numRow (counts (rowsOf g)) n xs c, ((v + 1 : Nat) : Int))) := by
  have hcb := counts_bound (rowsOf g)
  have := Loop_run (b := dawg_Number.b2 w (counts (rowsOf g), e) (v : Int) xs) (fun k => (numRow (counts (rowsOf g)) n (xs.take k) c, (k : Int))) (i := 0) (n := xs.length) (Nat.zero_le _) (fun j _ hj => by
    have hj1 : xs[j]? = some xs[j] := List.getElem?_eq_getElem hj
    have hk := row_ok hr h0 h1 hx hj1
    have hb := numRow_bound hcb hn0 c (xs.take j)
    have hg := getD_bound hcb xs[j].To.toNat
    have hlen : (xs.take j).length = j := by rw [List.length_take]; omega
    rw [hlen] at hb
    have hm : (j : Int) * cap ≤ 300 * cap := Int.mul_le_mul_of_nonneg_right (by omega) (by unfold cap; omega)
    unfold cap at hb hg hm
    show dawg_Number.b2 w _ (v : Int) xs (_, (j : Int)) = _
    rw [dawg_Number.b2, if_pos (by rw [decide_eq_true_eq]; omega), idx_nat, hj1, Option.bind_some, idx_nat, hc, Option.bind_some, take_snoc hj1, numRow_snoc]
    by_cases h : xs[j].Label.toNat < c.toNat
    · rw [if_pos (by rw [decide_eq_true_eq]; omega), cnt_at hr hk.1 (by omega), Option.bind_some, if_pos h, w64 (by omega) (by omega)]
      unfold dawg_Number.k4
      rw [w64s (by omega)]
    · rw [if_neg (by rw [decide_eq_true_eq]; omega), if_neg h]
      unfold dawg_Number.k4
      rw [w64s (by omega)])
  simp only [List.take_zero, List.take_length, show ((0 : Nat) : Int) = 0 from rfl] at this
  rw [show numRow (counts (rowsOf g)) n [] c = n from rfl] at this
  rw [this]
  apply Loop_done
  rw [dawg_Number.b2, if_neg (by rw [decide_eq_true_eq]; omega)]
  unfold dawg_Number.k2
  rw [w64s (by omega)]
  rfl
/-- Past the first label that is not below, nothing counts. -/
theorem numRow_cut {cs : List Int} {n : Int} {xs : List TEdge} {c : UInt8} {m : Nat} (hsort : ∀ k x, xs[k]? = some x → 0 < k → ∀ x1, xs[k - 1]? = some x1 → x1.Label.toNat < x.Label.toNat) (hm : ∀ x, xs[m]? = some x → c.toNat ≤ x.Label.toNat) : numRow cs n xs c = numRow cs n (xs.take m) c := by
  have key : ∀ j, m ≤ j → (∀ x, xs[j]? = some x → c.toNat ≤ x.Label.toNat) ∧ numRow cs n (xs.take j) c = numRow cs n (xs.take m) c := by
    intro j hj
    induction j with
    | zero => obtain rfl : m = 0 := by omega
              exact ⟨hm, rfl⟩
    | succ j ih =>
      by_cases e : m = j + 1
      · subst e; exact ⟨hm, rfl⟩
      · obtain ⟨i1, i2⟩ := ih (by omega)
        refine ⟨fun x hx => ?_, ?_⟩
        · have hlt := (List.getElem?_eq_some_iff.1 hx).1
          have hj1 : xs[j]? = some (xs[j]'(by omega)) := List.getElem?_eq_getElem _
          have := hsort (j + 1) x hx (by omega) _ (by rw [Nat.add_sub_cancel]; exact hj1)
          have := i1 _ hj1
          omega
        · cases hx : xs[j]? with
          | none => rw [List.take_of_length_le (by have := List.getElem?_eq_none_iff.1 hx; omega), ← i2, List.take_of_length_le (List.getElem?_eq_none_iff.1 hx)]
          | some x => rw [take_snoc hx, numRow_snoc, if_neg (by have := i1 x hx; omega), i2]
  by_cases h : m ≤ xs.length
  · have := (key xs.length h).2
    rwa [List.take_length] at this
  · rw [List.take_of_length_le (by omega)]
/-- One row of the reference's Number: the sum below the label. -/
theorem ref_num_row {g : TGraph} (hr : RightP g) {s : Int} (h0 : 0 ≤ s) (h1 : s < g.Final.length) {xs : List TEdge} (hx : g.Edges[s.toNat]? = some xs) (hl : xs.length ≤ 300) {w : Str} {v : Nat} {c : UInt8} (hc : w[v]? = some c) (hv : v < 1000) (e : Int) {n : Int} (hn0 : 0 ≤ n) (hn1 : n ≤ 1000000000000000000) :
    Loop (scansionref17_Number.b2 g w (counts (rowsOf g), e) s (v : Int)) (n, 0) = scansionref17_Number.k4 g w s (v : Int) (numRow (counts (rowsOf g)) n xs c) := by
  have hcb := counts_bound (rowsOf g)
  have hi : idx g.Edges s = some xs := idx_some h0 hx
  have hle : xs.findIdx (fun x => decide (c.toNat ≤ x.Label.toNat)) ≤ xs.length := List.findIdx_le_length
  generalize hM : xs.findIdx (fun x => decide (c.toNat ≤ x.Label.toNat)) = m at hle
  have := Loop_run (b := scansionref17_Number.b2 g w (counts (rowsOf g), e) s (v : Int)) (fun k => (numRow (counts (rowsOf g)) n (xs.take k) c, (k : Int))) (i := 0) (n := m) (Nat.zero_le _) (fun j _ hj => by
    have hj0 : j < xs.length := by omega
    have hj1 : xs[j]? = some xs[j] := List.getElem?_eq_getElem hj0
    have hg0 : decide (c.toNat ≤ xs[j].Label.toNat) = false := by
      have := List.not_of_lt_findIdx (p := fun x : TEdge => decide (c.toNat ≤ x.Label.toNat)) (xs := xs) (i := j) (by omega)
      simpa using this
    have hlt : xs[j].Label.toNat < c.toNat := by simpa using hg0
    have hk := row_ok hr h0 h1 hx hj1
    have hb := numRow_bound hcb hn0 c (xs.take j)
    have hg := getD_bound hcb xs[j].To.toNat
    have hlen : (xs.take j).length = j := by rw [List.length_take]; omega
    rw [hlen] at hb
    have hm : (j : Int) * cap ≤ 300 * cap := Int.mul_le_mul_of_nonneg_right (by omega) (by unfold cap; omega)
    unfold cap at hb hg hm
    show scansionref17_Number.b2 g w _ s (v : Int) (_, (j : Int)) = _
    rw [scansionref17_Number.b2, hi, Option.bind_some, if_pos (by rw [decide_eq_true_eq]; omega), idx_nat, hj1, Option.bind_some, idx_nat, hc, Option.bind_some, Option.bind_some, if_pos (by rw [decide_eq_true_eq]; omega), Option.bind_some, idx_nat, hj1, Option.bind_some, cnt_at hr hk.1 (by omega), Option.bind_some, w64 (by omega) (by omega), w64s (by omega), take_snoc hj1, numRow_snoc, if_pos hlt])
  simp only [List.take_zero, show ((0 : Nat) : Int) = 0 from rfl] at this
  rw [show numRow (counts (rowsOf g)) n [] c = n from rfl] at this
  rw [this]
  have hcut : numRow (counts (rowsOf g)) n xs c = numRow (counts (rowsOf g)) n (xs.take m) c := numRow_cut (fun k x hk h x1 hx1 => (row_ok hr h0 h1 hx hk).2.2 h x1 hx1) (fun x hxm => by
    have hlt := (List.getElem?_eq_some_iff.1 hxm).1
    have h2 := List.findIdx_getElem (p := fun x : TEdge => decide (c.toNat ≤ x.Label.toNat)) (xs := xs) (w := by omega)
    subst hM
    rw [List.getElem?_eq_getElem hlt] at hxm
    injection hxm with hxm
    subst hxm
    simpa using h2)
  rw [hcut]
  apply Loop_end
  rw [scansionref17_Number.b2, hi, Option.bind_some]
  by_cases h : m < xs.length
  · have hj1 : xs[m]? = some xs[m] := List.getElem?_eq_getElem h
    have h2 := List.findIdx_getElem (p := fun x : TEdge => decide (c.toNat ≤ x.Label.toNat)) (xs := xs) (w := by omega)
    have h3 : c.toNat ≤ xs[m].Label.toNat := by subst hM; simpa using h2
    rw [if_pos (by rw [decide_eq_true_eq]; omega), idx_nat, hj1, Option.bind_some, idx_nat, hc, Option.bind_some, Option.bind_some, if_neg (by rw [decide_eq_true_eq]; omega)]
  · rw [if_neg (by rw [decide_eq_true_eq]; omega), Option.bind_some, if_neg (by decide)]
def stOf (g : TGraph) (w : Str) (k : Nat) : Int := (runS g ((g.Final.length : Int) - 1) (w.take k)).getD 0
def numA (g : TGraph) (w : Str) : Nat → Int
  | 0 => 0
  | k + 1 => numRow (counts (rowsOf g)) (numA g w k + if (g.Final[(stOf g w k).toNat]?).getD false then 1 else 0) ((g.Edges[(stOf g w k).toNat]?).getD []) (w.getD k 0)
theorem numA_succ {g : TGraph} {w : Str} {k : Nat} : numA g w (k + 1) = numRow (counts (rowsOf g)) (numA g w k + if (g.Final[(stOf g w k).toNat]?).getD false then 1 else 0) ((g.Edges[(stOf g w k).toNat]?).getD []) (w.getD k 0) := rfl
def Rows300 (g : TGraph) : Prop := ∀ xs ∈ g.Edges, xs.length ≤ 300
theorem numA_bound {g : TGraph} (h3 : Rows300 g) {w : Str} : ∀ k, 0 ≤ numA g w k ∧ numA g w k ≤ k * (1 + 300 * cap)
  | 0 => by simp [numA]
  | k + 1 => by
    have ih := numA_bound h3 (w := w) k
    unfold numA
    generalize hf : (if (g.Final[(stOf g w k).toNat]?).getD false then (1 : Int) else 0) = f
    have hf2 : 0 ≤ f ∧ f ≤ 1 := by rw [← hf]; split <;> omega
    have hl : ((g.Edges[(stOf g w k).toNat]?).getD []).length ≤ 300 := by
      cases h : g.Edges[(stOf g w k).toNat]? with
      | none => simp
      | some xs => exact h3 xs (List.mem_of_getElem? h)
    generalize (g.Edges[(stOf g w k).toNat]?).getD [] = xs at hl ⊢
    have hb := numRow_bound (counts_bound (rowsOf g)) (n := numA g w k + f) (by omega) (w.getD k 0) xs
    have hm : (xs.length : Int) * cap ≤ 300 * cap := Int.mul_le_mul_of_nonneg_right (by omega) (by unfold cap; omega)
    have e : ((k + 1 : Nat) : Int) * (1 + 300 * cap) = k * (1 + 300 * cap) + (1 + 300 * cap) := by rw [Int.natCast_succ, Int.add_mul, Int.one_mul]
    rw [e]
    omega
theorem numA_ok {g : TGraph} (h3 : Rows300 g) {w : Str} {k : Nat} (hk : k ≤ 1000) : 0 ≤ numA g w k ∧ numA g w k ≤ 900000000000000000 := by
  have := numA_bound h3 (w := w) k
  have hm : (k : Int) * (1 + 300 * cap) ≤ 1000 * (1 + 300 * cap) := Int.mul_le_mul_of_nonneg_right (by omega) (by unfold cap; omega)
  unfold cap at hm this
  omega
/-- What Number answers at a word that the graph has. -/
def numS (g : TGraph) (w : Str) : Int := mn (numA g w w.length) 1099511627776
theorem all_of {g : TGraph} {s t : Int} {w : Str} (h : runS g s w = some t) : ∀ k, k ≤ w.length → ∃ u, runS g s (w.take k) = some u := by
  intro k hk
  cases e : runS g s (w.take k) with
  | some u => exact ⟨u, rfl⟩
  | none =>
    have := run_take_none e w.length hk
    rw [List.take_length, h] at this
    cases this
theorem dawg_num_loop {g : TGraph} (h3 : Rows300 g) (hr : RightP g) {w : Str} (hw : w.length ≤ 100) {t : Int} (h : runS g ((g.Final.length : Int) - 1) w = some t) (e : Int) (b : Bool) : Loop (dawg_Number.b1 g w (counts (rowsOf g), e) (stsS g ((g.Final.length : Int) - 1) w w.length, b)) (0, 0) = some (numS g w, 0) := by
  have hall := all_of h
  have hst0 : 0 ≤ (g.Final.length : Int) - 1 := by have := hr.lo; omega
  have hst1 : (g.Final.length : Int) - 1 < g.Final.length := by omega
  have := Loop_run (b := dawg_Number.b1 g w (counts (rowsOf g), e) (stsS g ((g.Final.length : Int) - 1) w w.length, b)) (fun k => (numA g w k, (k : Int))) (i := 0) (n := w.length) (Nat.zero_le _) (fun k _ hk => by
    obtain ⟨u, hu⟩ := hall k (by omega)
    have hb := runS_ok hr hst0 hst1 hu
    obtain ⟨xs, hi, hx, hm⟩ := row_at hr hb.1 hb.2
    obtain ⟨f, hf1, hf2⟩ := final_at hb.1 hb.2
    have hc : w[k]? = some w[k] := List.getElem?_eq_getElem hk
    have hn := numA_ok h3 (w := w) (k := k) (by omega)
    have hst : stOf g w k = u := by unfold stOf; rw [hu]; rfl
    have hrow := fun (n : Int) h0 h1 => dawg_num_row hr hb.1 hb.2 hx (h3 xs hm) hc (by omega) e (n := n) h0 h1
    show dawg_Number.b1 g w _ _ (numA g w k, (k : Int)) = _
    rw [dawg_Number.b1, if_pos (by rw [decide_eq_true_eq]; omega), stsS_at (by omega) hu, Option.bind_some, hf1, Option.bind_some]
    unfold dawg_Number.k3
    rw [hi, Option.bind_some, Option.bind_some]
    show _ = some (Step.next (numA g w (k + 1), _))
    rw [numA_succ, hst, hf2, hx, List.getD_eq_getElem?_getD, hc]
    cases f with
    | true => rw [if_pos rfl, w64 (by omega) (by omega), hrow _ (by omega) (by omega)]; rfl
    | false => rw [if_neg (by decide), hrow _ (by omega) (by omega)]; simp)
  simp only [show ((0 : Nat) : Int) = 0 from rfl] at this
  rw [show numA g w 0 = 0 from rfl] at this
  rw [this]
  apply Loop_end
  rw [dawg_Number.b1, if_neg (by rw [decide_eq_true_eq]; omega)]
  rfl
theorem ref_num_loop {g : TGraph} (hs : Short g) (h3 : Rows300 g) (hr : RightP g) {w : Str} (hw : w.length ≤ 100) {t : Int} (h : runS g ((g.Final.length : Int) - 1) w = some t) (e : Int) : Loop (scansionref17_Number.b1 g w (counts (rowsOf g), e)) (0, (g.Final.length : Int) - 1, 0) = some (numS g w, 0) := by
  have hall := all_of h
  have hst0 : 0 ≤ (g.Final.length : Int) - 1 := by have := hr.lo; omega
  have hst1 : (g.Final.length : Int) - 1 < g.Final.length := by omega
  have := Loop_run (b := scansionref17_Number.b1 g w (counts (rowsOf g), e)) (fun k => (numA g w k, stOf g w k, (k : Int))) (i := 0) (n := w.length) (Nat.zero_le _) (fun k _ hk => by
    obtain ⟨u, hu⟩ := hall k (by omega)
    obtain ⟨v, hv⟩ := hall (k + 1) (by omega)
    have hb := runS_ok hr hst0 hst1 hu
    obtain ⟨xs, hi, hx, hm⟩ := row_at hr hb.1 hb.2
    obtain ⟨f, hf1, hf2⟩ := final_at hb.1 hb.2
    have hc : w[k]? = some w[k] := List.getElem?_eq_getElem hk
    have hn := numA_ok h3 (w := w) (k := k) (by omega)
    have hst : stOf g w k = u := by unfold stOf; rw [hu]; rfl
    have hst2 : stOf g w (k + 1) = v := by unfold stOf; rw [hv]; rfl
    have hnx : nextS g u w[k] = some v := by rw [run_take_next hc, hu] at hv; exact hv
    have hrow := fun (n : Int) h0 h1 => ref_num_row hr hb.1 hb.2 hx (h3 xs hm) hc (by omega) e (n := n) h0 h1
    show scansionref17_Number.b1 g w _ (numA g w k, stOf g w k, (k : Int)) = _
    rw [scansionref17_Number.b1, hst, if_pos (by rw [decide_eq_true_eq]; omega), hf1, Option.bind_some]
    unfold scansionref17_Number.k3
    show _ = some (Step.next (numA g w (k + 1), stOf g w (k + 1), _))
    have hk4 : ∀ n, scansionref17_Number.k4 g w u (k : Int) n = some (.next (n, v, ((k + 1 : Nat) : Int))) := fun n => by
      unfold scansionref17_Number.k4 scansionref17_Number.k2
      rw [idx_nat, hc, Option.bind_some, ref_to_eq hs hr hb.1 hb.2, Option.bind_some, hnx, w64s (by omega)]
      rfl
    rw [hst2, numA_succ, hst, hf2, hx, List.getD_eq_getElem?_getD, hc]
    cases f with
    | true => rw [if_pos rfl, w64 (by omega) (by omega), hrow _ (by omega) (by omega), hk4]; rfl
    | false => rw [if_neg (by decide), hrow _ (by omega) (by omega), hk4]; simp)
  simp only [show ((0 : Nat) : Int) = 0 from rfl] at this
  rw [show numA g w 0 = 0 from rfl, show stOf g w 0 = (g.Final.length : Int) - 1 from rfl] at this
  rw [this]
  apply Loop_end
  rw [scansionref17_Number.b1, if_neg (by rw [decide_eq_true_eq]; omega)]
  rfl
theorem dawg_Number_eq {g : TGraph} (hs : Short g) (h3 : Rows300 g) (hr : RightP g) {w : Str} (hw : w.length ≤ 100) : dawg_Number g w = some (if hasS g w then (numS g w, 0) else (0, 4)) := by
  unfold dawg_Number
  rw [dawg_Count_eq hs hr, Option.bind_some, if_neg (by simp), dawg_walk_eq hs hr (by omega), Option.bind_some]
  cases h : runS g ((g.Final.length : Int) - 1) w with
  | none => simp [hasS, h]
  | some t =>
    obtain ⟨h1, h2, h4⟩ := run_last hr h
    obtain ⟨b, hb1, hb2⟩ := final_at h2 h4
    simp only [Option.isSome_some, if_true]
    rw [if_neg (by decide), h1, Option.bind_some, hb1, Option.bind_some, Option.bind_some, dawg_num_loop h3 hr hw h]
    cases b <;> simp [hasS, h, hb2]
theorem ref_Number_eq {g : TGraph} (hs : Short g) (h3 : Rows300 g) (hr : RightP g) {w : Str} (hw : w.length ≤ 100) : scansionref17_Number g w = some (if hasS g w then (numS g w, 0) else (0, 4)) := by
  unfold scansionref17_Number
  rw [ref_Count_eq hs hr, Option.bind_some, if_neg (by simp), ref_Has_eq hs hr (by omega), Option.bind_some, start_w hr]
  cases hh : hasS g w with
  | false => rfl
  | true =>
    rw [if_neg (by decide)]
    cases h : runS g ((g.Final.length : Int) - 1) w with
    | none => simp [hasS, h] at hh
    | some t => rw [ref_num_loop hs h3 hr hw h]; rfl
end Go.Val

/- part P9 -/
/- Plain lemmas: Word of both. -/
namespace Go.Val
set_option linter.unusedVariables false
theorem cnt_sum {g : TGraph} (hr : RightP g) {s : Nat} {f : Bool} {xs : List TEdge} (h1 : g.Final[s]? = some f) (h2 : g.Edges[s]? = some xs) : (counts (rowsOf g)).getD s 0 = mn (sumTo (counts (rowsOf g)) (if f then 1 else 0) xs) cap := by
  have hl := rows_len hr.len
  have hlt := (List.getElem?_eq_some_iff.1 h2).1
  have hlf := hr.len
  have hrow := hr.rows s hlt xs h2
  have hpre := counts_bound ((rowsOf g).take s)
  have e0 : counts ((rowsOf g).take (s + 1)) = (counts (rowsOf g)).take (s + 1) := counts_take _ _
  have e := congrArg (fun l => l[s]?) (counts_next h1 h2)
  simp only [e0, List.getElem?_take] at e
  rw [if_pos (by omega)] at e
  have hll : (counts ((rowsOf g).take s)).length = s := by rw [counts_len, List.length_take]; omega
  rw [List.getElem?_append_right (by omega), hll, Nat.sub_self] at e
  rw [List.getD_eq_getElem?_getD, e]
  show crow _ _ xs = _
  rw [crow_sum hpre (by split <;> omega) (by split <;> omega)]
  congr 1
  exact sumTo_congr fun x hx => by
    obtain ⟨k, hk⟩ := List.getElem?_of_mem hx
    have hok := hrow k (List.getElem?_eq_some_iff.1 hk).1 _ hk
    rw [counts_take, List.getD_eq_getElem?_getD, List.getD_eq_getElem?_getD, List.getElem?_take, if_pos (by omega)]
/-- The edge that holds word number n of a row, and the number left. -/
def pick (cs : List Int) : Int → List TEdge → Option (Int × TEdge)
  | n, [] => none
  | n, x :: xs => if n < cs.getD x.To.toNat 0 then some (n, x) else pick cs (n - cs.getD x.To.toNat 0) xs
theorem pick_none {cs : List Int} : ∀ {xs : List TEdge} {n a : Int}, pick cs n xs = none → 0 ≤ n → sumTo cs a xs ≤ a + n
  | [], n, a, h, h0 => by simp [sumTo]; omega
  | x :: xs, n, a, h, h0 => by
    unfold pick at h
    split at h
    · cases h
    · have := pick_none (a := a + cs.getD x.To.toNat 0) h (by omega)
      have e : sumTo cs a (x :: xs) = sumTo cs (a + cs.getD x.To.toNat 0) xs := rfl
      rw [e]; omega
theorem pick_some {cs : List Int} (hc : ∀ c ∈ cs, 0 ≤ c ∧ c ≤ cap) : ∀ {xs : List TEdge} {n m : Int} {x : TEdge}, pick cs n xs = some (m, x) → 0 ≤ n → 0 ≤ m ∧ m ≤ n ∧ m < cs.getD x.To.toNat 0 ∧ x ∈ xs
  | [], n, m, x, h, h0 => by simp [pick] at h
  | y :: xs, n, m, x, h, h0 => by
    unfold pick at h
    split at h
    · injection h with h; injection h with h1 h2; subst h1 h2; exact ⟨h0, by omega, by assumption, by simp⟩
    · have := pick_some hc h (by omega)
      have := getD_bound hc y.To.toNat
      refine ⟨by omega, by omega, by omega, by simp [*]⟩
theorem drop_at {α : Type} {xs ys : List α} {x : α} {k : Nat} (h : xs.drop k = x :: ys) : xs[k]? = some x ∧ xs.drop (k + 1) = ys ∧ k < xs.length := by
  have h1 : (xs.drop k)[0]? = some x := by rw [h]; rfl
  rw [List.getElem?_drop, Nat.add_zero] at h1
  refine ⟨h1, ?_, (List.getElem?_eq_some_iff.1 h1).1⟩
  rw [← List.tail_drop, h]; rfl
theorem dawg_word_row {g : TGraph} (hr : RightP g) {s : Int} (h0 : 0 ≤ s) (h1 : s < g.Final.length) {xs : List TEdge} (hx : g.Edges[s.toNat]? = some xs) (hl : xs.length ≤ 300) {word : List UInt8} (hw : word.length ≤ 1000000) {m : Int} {x : TEdge} (e : Int) : ∀ (ys : List TEdge) (k : Nat) (n : Int), xs.drop k = ys → 0 ≤ n → n ≤ cap → pick (counts (rowsOf g)) n ys = some (m, x) →
    Loop (dawg_Word.b2 (counts (rowsOf g), e) s word xs) (n, (k : Int)) = some (.next (m, x.To, word ++ [x.Label]))
  | [], k, n, hd, n0, n1, hp => by simp [pick] at hp
  | y :: ys, k, n, hd, n0, n1, hp => by
    obtain ⟨hk, hd2, hlt⟩ := drop_at hd
    have hok := row_ok hr h0 h1 hx hk
    have hcb := counts_bound (rowsOf g)
    have hg := getD_bound hcb y.To.toNat
    unfold pick at hp
    by_cases h : n < (counts (rowsOf g)).getD y.To.toNat 0
    · rw [if_pos h] at hp
      injection hp with hp; injection hp with hp1 hp2; subst hp1 hp2
      apply Loop_end
      rw [dawg_Word.b2, if_pos (by rw [decide_eq_true_eq]; omega), idx_nat, hk, Option.bind_some, cnt_at hr hok.1 (by omega), Option.bind_some, if_pos (by rw [decide_eq_true_eq]; omega), room_ok (by omega), Option.bind_some]
      rfl
    · rw [if_neg h] at hp
      unfold cap at hg n1
      rw [← dawg_word_row hr h0 h1 hx hl hw e ys (k + 1) (n - (counts (rowsOf g)).getD y.To.toNat 0) hd2 (by omega) (by unfold cap; omega) hp]
      apply Loop_next
      rw [dawg_Word.b2, if_pos (by rw [decide_eq_true_eq]; omega), idx_nat, hk, Option.bind_some, cnt_at hr hok.1 (by omega), Option.bind_some, if_neg (by rw [decide_eq_true_eq]; omega), w64 (by omega) (by omega), w64s (by omega)]
theorem ref_word_row {g : TGraph} (hr : RightP g) {s : Int} (h0 : 0 ≤ s) (h1 : s < g.Final.length) {xs : List TEdge} (hx : g.Edges[s.toNat]? = some xs) (hl : xs.length ≤ 300) {word : Str} (hw : word.length ≤ 1000000) {m : Int} {x : TEdge} (e : Int) : ∀ (ys : List TEdge) (k : Nat) (n : Int), xs.drop k = ys → 0 ≤ n → n ≤ cap → pick (counts (rowsOf g)) n ys = some (m, x) →
    Loop (scansionref17_Word.b2 g (counts (rowsOf g), e) s word) (n, (k : Int)) = some (.next (m, x.To, word ++ [x.Label]))
  | [], k, n, hd, n0, n1, hp => by simp [pick] at hp
  | y :: ys, k, n, hd, n0, n1, hp => by
    obtain ⟨hk, hd2, hlt⟩ := drop_at hd
    have hok := row_ok hr h0 h1 hx hk
    have hcb := counts_bound (rowsOf g)
    have hg := getD_bound hcb y.To.toNat
    have hi : idx g.Edges s = some xs := idx_some h0 hx
    unfold pick at hp
    by_cases h : n < (counts (rowsOf g)).getD y.To.toNat 0
    · rw [if_pos h] at hp
      injection hp with hp; injection hp with hp1 hp2; subst hp1 hp2
      apply Loop_end
      rw [scansionref17_Word.b2, hi, Option.bind_some, idx_nat, hk, Option.bind_some, cnt_at hr hok.1 (by omega), Option.bind_some, if_neg (by rw [decide_eq_true_eq]; omega)]
      unfold scansionref17_Word.k3 scansionref17_Word.k1
      rw [hi, Option.bind_some, idx_nat, hk, Option.bind_some, roomS_ok (by omega), Option.bind_some]
    · rw [if_neg h] at hp
      unfold cap at hg n1
      rw [← ref_word_row hr h0 h1 hx hl hw e ys (k + 1) (n - (counts (rowsOf g)).getD y.To.toNat 0) hd2 (by omega) (by unfold cap; omega) hp]
      apply Loop_next
      rw [scansionref17_Word.b2, hi, Option.bind_some, idx_nat, hk, Option.bind_some, cnt_at hr hok.1 (by omega), Option.bind_some, if_pos (by rw [decide_eq_true_eq]; omega), w64 (by omega) (by omega), w64s (by omega)]
/-- From a state that holds more than n words, both spell the same word. -/
theorem word_run {g : TGraph} (hr : RightP g) (h3 : Rows300 g) (e : Int) : ∀ (N : Nat) (s n : Int) (word : Str), s.toNat ≤ N → 0 ≤ s → s < g.Final.length → 0 ≤ n → n < (counts (rowsOf g)).getD s.toNat 0 → word.length + N ≤ 100000 →
    ∃ r : Str, Loop (dawg_Word.b1 g (counts (rowsOf g), e)) (n, s, word) = some (r, 0) ∧ Loop (scansionref17_Word.b1 g (counts (rowsOf g), e)) (n, s, word) = some (r, 0) := by
  intro N
  induction N with
  | zero =>
    intro s n word hN h0 h1 n0 n1 hw
    obtain ⟨xs, hi, hx, hm⟩ := row_at hr h0 h1
    obtain ⟨f, hf1, hf2⟩ := final_at h0 h1
    have hs := cnt_sum hr hf2 hx
    rw [hs] at n1
    cases xs with
    | cons x l => have := row_ok hr h0 h1 hx (x := x) (k := 0) rfl; omega
    | nil =>
      cases f with
      | false => simp [sumTo, mn, cap] at n1; omega
      | true =>
        have : n = 0 := by simp [sumTo, mn, cap] at n1; omega
        subst this
        refine ⟨word, Loop_done ?_, Loop_done ?_⟩
        · rw [dawg_Word.b1, hf1]; rfl
        · rw [scansionref17_Word.b1, hf1]; rfl
  | succ N ih =>
    intro s n word hN h0 h1 n0 n1 hw
    obtain ⟨xs, hi, hx, hm⟩ := row_at hr h0 h1
    obtain ⟨f, hf1, hf2⟩ := final_at h0 h1
    have hs := cnt_sum hr hf2 hx
    have hcb := counts_bound (rowsOf g)
    have hg := getD_bound hcb s.toNat
    rw [hs] at n1
    have hn2 : n < sumTo (counts (rowsOf g)) (if f then 1 else 0) xs := Int.lt_of_lt_of_le n1 mn_le.2
    have hcap : n < cap := Int.lt_of_lt_of_le n1 mn_le.1
    have go : ∀ n' : Int, 0 ≤ n' → n' ≤ n → (if f then 1 else 0) + n' ≤ n → ∃ r : Str, ((dawg_Word.k2 g (counts (rowsOf g), e) s word n').bind fun st => match st with | .next st => Loop (dawg_Word.b1 g (counts (rowsOf g), e)) st | .done r => some r) = some (r, 0) ∧ ((scansionref17_Word.k2 g (counts (rowsOf g), e) s word n').bind fun st => match st with | .next st => Loop (scansionref17_Word.b1 g (counts (rowsOf g), e)) st | .done r => some r) = some (r, 0) ∧ ∃ st, dawg_Word.k2 g (counts (rowsOf g), e) s word n' = some (.next st) ∧ scansionref17_Word.k2 g (counts (rowsOf g), e) s word n' = some (.next st) := fun n' p0 p1 p2 => by
      cases hp : pick (counts (rowsOf g)) n' xs with
      | none => have := pick_none (a := if f then 1 else 0) hp p0; omega
      | some mx =>
        obtain ⟨m, x⟩ := mx
        obtain ⟨q0, q1, q2, q3⟩ := pick_some hcb hp p0
        obtain ⟨k, hk⟩ := List.getElem?_of_mem q3
        have hok := row_ok hr h0 h1 hx hk
        have hd := dawg_word_row hr h0 h1 hx (h3 xs hm) (word := word) (by omega) e xs 0 n' rfl p0 (by omega) hp
        have hf := ref_word_row hr h0 h1 hx (h3 xs hm) (word := word) (by omega) e xs 0 n' rfl p0 (by omega) hp
        obtain ⟨r, r1, r2⟩ := ih x.To m (word ++ [x.Label]) (by omega) hok.1 (by omega) q0 q2 (by simp; omega)
        have e1 : dawg_Word.k2 g (counts (rowsOf g), e) s word n' = some (.next (m, x.To, word ++ [x.Label])) := by
          unfold dawg_Word.k2; rw [hi, Option.bind_some]; exact hd
        have e2 : scansionref17_Word.k2 g (counts (rowsOf g), e) s word n' = some (.next (m, x.To, word ++ [x.Label])) := by
          unfold scansionref17_Word.k2; exact hf
        refine ⟨r, ?_, ?_, _, e1, e2⟩
        · rw [e1]; exact r1
        · rw [e2]; exact r2
    have fin : ∀ n' : Int, 0 ≤ n' → n' ≤ n → (if f then 1 else 0) + n' ≤ n → dawg_Word.b1 g (counts (rowsOf g), e) (n, s, word) = dawg_Word.k2 g (counts (rowsOf g), e) s word n' → scansionref17_Word.b1 g (counts (rowsOf g), e) (n, s, word) = scansionref17_Word.k2 g (counts (rowsOf g), e) s word n' → ∃ r : Str, Loop (dawg_Word.b1 g (counts (rowsOf g), e)) (n, s, word) = some (r, 0) ∧ Loop (scansionref17_Word.b1 g (counts (rowsOf g), e)) (n, s, word) = some (r, 0) := fun n' p0 p1 p2 e1 e2 => by
      obtain ⟨r, r1, r2, st, s1, s2⟩ := go n' p0 p1 p2
      rw [s1] at r1 e1
      rw [s2] at r2 e2
      exact ⟨r, by rw [Loop_next e1]; exact r1, by rw [Loop_next e2]; exact r2⟩
    cases f with
    | false =>
      refine fin n n0 (Int.le_refl _) (by simp) ?_ ?_
      · rw [dawg_Word.b1, hf1]; rfl
      · rw [scansionref17_Word.b1, hf1]; rfl
    | true =>
      by_cases hz : n = 0
      · subst hz
        refine ⟨word, Loop_done ?_, Loop_done ?_⟩
        · rw [dawg_Word.b1, hf1]; rfl
        · rw [scansionref17_Word.b1, hf1]; rfl
      · unfold cap at hcap
        refine fin (n - 1) (by omega) (by omega) (by simp; omega) ?_ ?_
        · rw [dawg_Word.b1, hf1, Option.bind_some, if_pos rfl, if_neg (by simpa using hz), w64 (by omega) (by omega)]
        · rw [scansionref17_Word.b1, hf1, Option.bind_some, if_pos rfl, if_neg (by simpa using hz), w64 (by omega) (by omega)]
/-- Word of both. -/
theorem Word_eq {g : TGraph} (hs : Short g) (h3 : Rows300 g) (hr : RightP g) (n : Int) : ∃ r, dawg_Word g n = some r ∧ scansionref17_Word g n = some r := by
  have hlen : (counts (rowsOf g)).length = g.Final.length := by rw [counts_len, rows_len hr.len]
  have hst0 : 0 ≤ (g.Final.length : Int) - 1 := by have := hr.lo; omega
  have hst1 : (g.Final.length : Int) - 1 < g.Final.length := by omega
  have D := dawg_Count_eq hs hr
  have R := ref_Count_eq hs hr
  by_cases hn : n < 0
  · refine ⟨([], 4), ?_, ?_⟩
    · unfold dawg_Word; rw [D, Option.bind_some, if_neg (by simp), if_pos (by rw [decide_eq_true_eq]; exact hn)]; rfl
    · unfold scansionref17_Word; rw [R, Option.bind_some, if_neg (by simp), if_pos (by rw [decide_eq_true_eq]; exact hn)]; rfl
  · have hn' : ¬ (decide (n < 0) = true) := by rw [decide_eq_true_eq]; exact hn
    by_cases hb : n ≥ (counts (rowsOf g)).getD ((g.Final.length : Int) - 1).toNat 0
    · have hb' : decide (n ≥ (counts (rowsOf g)).getD ((g.Final.length : Int) - 1).toNat 0) = true := by rw [decide_eq_true_eq]; exact hb
      refine ⟨([], 4), ?_, ?_⟩
      · unfold dawg_Word; rw [D, Option.bind_some, if_neg (by simp), if_neg hn']; simp only [hlen]; rw [start_w hr, cnt_at hr hst0 hst1, Option.bind_some, Option.bind_some, if_pos hb']
      · unfold scansionref17_Word; rw [R, Option.bind_some, if_neg (by simp), if_neg hn']; rw [start_w hr]; dsimp only; rw [cnt_at hr hst0 hst1, Option.bind_some, Option.bind_some, if_pos hb']
    · have hb' : ¬ (decide (n ≥ (counts (rowsOf g)).getD ((g.Final.length : Int) - 1).toNat 0) = true) := by rw [decide_eq_true_eq]; exact hb
      obtain ⟨r, r1, r2⟩ := word_run hr h3 0 65536 ((g.Final.length : Int) - 1) n [] (by have := hr.hi; omega) hst0 hst1 (by omega) (by omega) (by simp)
      refine ⟨(r, 0), ?_, ?_⟩
      · unfold dawg_Word; rw [D, Option.bind_some, if_neg (by simp), if_neg hn']; simp only [hlen]; rw [start_w hr, cnt_at hr hst0 hst1, Option.bind_some, Option.bind_some, if_neg hb']; exact r1
      · unfold scansionref17_Word; rw [R, Option.bind_some, if_neg (by simp), if_neg hn']; rw [start_w hr]; dsimp only; rw [cnt_at hr hst0 hst1, Option.bind_some, Option.bind_some, if_neg hb']; exact r2
theorem Same_ok {cs : List Int} (hl : cs.length ≤ 1000000) : scansionref01_SameInts cs cs = some true := by
  unfold scansionref01_SameInts
  rw [if_neg (by simp)]
  have := Loop_int (b := scansionref01_SameInts.b1 cs cs) (i := 0) (n := cs.length) (Nat.zero_le _) (fun j _ hj => by
    have hj1 : cs[j]? = some cs[j] := List.getElem?_eq_getElem hj
    rw [scansionref01_SameInts.b1, if_pos (by rw [decide_eq_true_eq]; omega), idx_nat, hj1, Option.bind_some, Option.bind_some, if_neg (by simp), w64s (by omega)])
  rw [show ((0 : Nat) : Int) = 0 from rfl] at this
  rw [this]
  apply Loop_end
  rw [scansionref01_SameInts.b1, if_neg (by simp)]
  rfl
end Go.Val

/- part P10 -/
/- Plain lemmas: few, rise and right. -/
namespace Go.Val
set_option linter.unusedVariables false
/-- A word of the right length. -/
def lenOk (s : Str) : Bool := !((decide ((s.length : Int) < 1)) || (decide ((s.length : Int) > 64)))
/-- Word number i lies above the one before it. -/
def upAt (l : List Str) (i : Nat) : Prop := ∀ a b, l[i - 1]? = some a → l[i]? = some b → (Op.bytesLess b a || b == a) = false
def RiseP (l : List Str) : Prop := (∀ s ∈ l, lenOk s = true) ∧ ∀ i, 0 < i → i < l.length → upAt l i
theorem ref_right_eq {l : List Str} (hl : l.length ≤ 5000) : (RiseP l → scansionref17_right l = some true) ∧ (¬ RiseP l → scansionref17_right l = some false) := by
  unfold scansionref17_right
  rw [if_neg (by rw [decide_eq_true_eq]; omega)]
  have val : ∀ j (hj : j < l.length), ∃ v, ((idx l (j : Int)).bind fun s => if decide ((s.length : Int) < 1) = true then some true else if decide ((s.length : Int) > 64) = true then some true else if decide ((j : Int) > 0) = true then (idx l (IntKind.i64.wrap ((j : Int) - 1))).bind fun s1 => some (Op.bytesLess s s1 || s == s1) else some false) = some v ∧ (v = false ↔ (lenOk l[j] = true ∧ (0 < j → upAt l j))) := fun j hj => by
    have hj1 : l[j]? = some l[j] := List.getElem?_eq_getElem hj
    rw [idx_nat, hj1, Option.bind_some]
    by_cases h1 : (l[j].length : Int) < 1
    · exact ⟨true, by rw [if_pos (by rw [decide_eq_true_eq]; exact h1)], by simp [lenOk]; intro h; omega⟩
    · rw [if_neg (by rw [decide_eq_true_eq]; exact h1)]
      by_cases h2 : (l[j].length : Int) > 64
      · exact ⟨true, by rw [if_pos (by rw [decide_eq_true_eq]; exact h2)], by simp [lenOk]; intro h; omega⟩
      · rw [if_neg (by rw [decide_eq_true_eq]; exact h2)]
        have hlen : lenOk l[j] = true := by unfold lenOk; rw [decide_eq_false h1, decide_eq_false h2]; rfl
        by_cases h3 : 0 < j
        · have hp1 : l[j - 1]? = some (l[j - 1]'(by omega)) := List.getElem?_eq_getElem _
          rw [if_pos (by rw [decide_eq_true_eq]; omega), w64 (by omega) (by omega), show ((j : Int) - 1) = ((j - 1 : Nat) : Int) by omega, idx_nat, hp1, Option.bind_some]
          refine ⟨_, rfl, fun h => ⟨hlen, fun _ a b ha hb => ?_⟩, fun h => h.2 h3 _ _ hp1 hj1⟩
          rw [hp1] at ha; rw [hj1] at hb; injection ha with ha; injection hb with hb; subst ha hb; exact h
        · exact ⟨false, by rw [if_neg (by rw [decide_eq_true_eq]; omega)], by simp [hlen, h3]⟩
  have := Loop_all0 (b := scansionref17_right.b1 l) (fun j => ∀ hj : j < l.length, lenOk l[j] = true ∧ (0 < j → upAt l j)) l.length (r := false) (R := true) (fun j hj hp => by
    obtain ⟨v, h1, h2⟩ := val j hj
    rw [scansionref17_right.b1, if_pos (by rw [decide_eq_true_eq]; omega), h1, Option.bind_some, h2.2 (hp hj), if_neg (by decide), w64s (by omega)]) (fun j hj hp => by
    obtain ⟨v, h1, h2⟩ := val j hj
    have hv : v = true := by cases v with
      | true => rfl
      | false => exact absurd (fun _ => h2.1 rfl) hp
    rw [scansionref17_right.b1, if_pos (by rw [decide_eq_true_eq]; omega), h1, Option.bind_some, hv, if_pos rfl]) (by
    rw [scansionref17_right.b1, if_neg (by rw [decide_eq_true_eq]; omega)]; rfl)
  have e : RiseP l ↔ ∀ j, j < l.length → ∀ hj : j < l.length, lenOk l[j] = true ∧ (0 < j → upAt l j) := ⟨fun h j _ hj => ⟨h.1 _ (List.getElem_mem hj), fun h0 => h.2 j h0 hj⟩, fun h => ⟨fun s hs => by
    obtain ⟨k, hk, rfl⟩ := List.getElem_of_mem hs
    exact (h k hk hk).1, fun i h0 hi => (h i hi hi).2 h0⟩⟩
  rw [e]; exact this
end Go.Val

/- part P11 -/
/- Plain lemmas: the farm's rise. -/
namespace Go.Val
set_option linter.unusedVariables false
theorem find_nonneg {α : Type} {g : α → Bool} {l : List α} : decide (find g l ≥ 0) = l.any g := by
  unfold find
  by_cases h : l.findIdx g < l.length
  · rw [if_pos h]
    have h2 : l.any g = true := by rw [List.any_eq_true]; exact ⟨_, List.getElem_mem h, List.findIdx_getElem (w := h)⟩
    rw [h2, decide_eq_true_eq]; omega
  · rw [if_neg h]
    have h2 : l.any g = false := by
      rw [List.any_eq_false]; intro x hx hg
      exact h (List.findIdx_lt_length_of_exists ⟨x, hx, hg⟩)
    rw [h2]; rfl
theorem rise_k1 {l : List Str} (hl : l.length ≤ 5000) : dawg_rise.k1 l = some (l.all lenOk) := by
  unfold dawg_rise.k1 slices_ContainsFunc_string_string
  rw [if_pos (by rw [decide_eq_true_eq]; omega), IndexFunc_str (g := fun s => !lenOk s) (fun x _ => by unfold dawg_rise_1 lenOk; rw [Bool.not_not]) (by omega), Option.bind_some, find_nonneg, Option.bind_some, Option.bind_some]
  simp [List.any_eq_not_all_not]
theorem dawg_rise_eq {l : List Str} (hl : l.length ≤ 5000) : (RiseP l → dawg_rise l = some true) ∧ (¬ RiseP l → dawg_rise l = some false) := by
  unfold dawg_rise
  have hk := rise_k1 hl
  have hn : l.length ≤ max 1 l.length := Nat.le_max_right _ _
  have h1n : 1 ≤ max 1 l.length := Nat.le_max_left _ _
  by_cases h0 : l.length ≤ 1
  · have hs : Loop (dawg_rise.b1 l) 1 = dawg_rise.k1 l := Loop_end (by rw [dawg_rise.b1, if_neg (by rw [decide_eq_true_eq]; omega)])
    rw [hs, hk]
    have e : RiseP l ↔ l.all lenOk = true := ⟨fun h => List.all_eq_true.2 h.1, fun h => ⟨List.all_eq_true.1 h, fun i h1 h2 => by omega⟩⟩
    rw [e]
    cases l.all lenOk <;> simp
  · have step : ∀ j, 1 ≤ j → j < l.length → dawg_rise.b1 l (j : Int) = (if (Op.bytesLess (l[j]?.getD []) (l[j - 1]?.getD []) || l[j]?.getD [] == l[j - 1]?.getD []) = true then some (.done false) else some (.next ((j + 1 : Nat) : Int))) := fun j h1 hj => by
      have hj1 : l[j]? = some l[j] := List.getElem?_eq_getElem hj
      have hp1 : l[j - 1]? = some (l[j - 1]'(by omega)) := List.getElem?_eq_getElem _
      rw [dawg_rise.b1, if_pos (by rw [decide_eq_true_eq]; omega), idx_nat, hj1, Option.bind_some, w64 (by omega) (by omega), show ((j : Int) - 1) = ((j - 1 : Nat) : Int) by omega, idx_nat, hp1, Option.bind_some, w64s (by omega)]
      rfl
    have up_iff : ∀ j, 1 ≤ j → j < l.length → (upAt l j ↔ ¬ (Op.bytesLess (l[j]?.getD []) (l[j - 1]?.getD []) || l[j]?.getD [] == l[j - 1]?.getD []) = true) := fun j h1 hj => by
      have hj1 : l[j]? = some l[j] := List.getElem?_eq_getElem hj
      have hp1 : l[j - 1]? = some (l[j - 1]'(by omega)) := List.getElem?_eq_getElem _
      rw [Bool.not_eq_true]
      refine ⟨fun h => ?_, fun h a b ha hb => ?_⟩
      · have := h _ _ hp1 hj1
        rw [hj1, hp1]; exact this
      · rw [ha, hb] at h; exact h
    have fst : ∀ m, m ≤ l.length → (∀ j, 1 ≤ j → j < m → upAt l j) ∨ ∃ k, 1 ≤ k ∧ k < m ∧ ¬ upAt l k ∧ ∀ j, 1 ≤ j → j < k → upAt l j := by
      intro m
      induction m with
      | zero => intro _; exact .inl fun j _ h => by omega
      | succ m ih =>
        intro hm
        rcases ih (by omega) with h | ⟨k, h1, h2, h3⟩
        · by_cases hz : 1 ≤ m
          · by_cases hu : upAt l m
            · exact .inl fun j h1 h2 => by
                by_cases e : j = m
                · subst e; exact hu
                · exact h j h1 (by omega)
            · exact .inr ⟨m, hz, by omega, hu, h⟩
          · exact .inl fun j h1 h2 => by omega
        · exact .inr ⟨k, h1, by omega, h3⟩
    rcases fst l.length (Nat.le_refl _) with h | ⟨k, h1, h2, h3, h4⟩
    · have hrun := Loop_int (b := dawg_rise.b1 l) (i := 1) (n := l.length) (by omega) (fun j q1 q2 => by rw [step j q1 q2, if_neg ((up_iff j q1 q2).1 (h j q1 q2))])
      rw [show ((1 : Nat) : Int) = 1 from rfl] at hrun
      have hs : Loop (dawg_rise.b1 l) 1 = dawg_rise.k1 l := by rw [hrun]; exact Loop_end (by rw [dawg_rise.b1, if_neg (by rw [decide_eq_true_eq]; omega)])
      rw [hs, hk]
      have e : RiseP l ↔ l.all lenOk = true := ⟨fun h => List.all_eq_true.2 h.1, fun hh => ⟨List.all_eq_true.1 hh, fun i q1 q2 => h i q1 q2⟩⟩
      rw [e]
      cases l.all lenOk <;> simp
    · have hrun := Loop_int (b := dawg_rise.b1 l) (i := 1) (n := k) (by omega) (fun j q1 q2 => by rw [step j q1 (by omega), if_neg ((up_iff j q1 (by omega)).1 (h4 j q1 q2))])
      rw [show ((1 : Nat) : Int) = 1 from rfl] at hrun
      have hs : Loop (dawg_rise.b1 l) 1 = some false := by
        rw [hrun]
        refine Loop_done ?_
        rw [step k h1 h2, if_pos]
        exact Classical.byContradiction fun hh => h3 ((up_iff k h1 h2).2 hh)
      exact ⟨fun hr => absurd (hr.2 k h1 h2) h3, fun _ => hs⟩
end Go.Val

/- part P12 -/
/- Plain lemmas: what is behind a letter; the one text of a set of ends. -/
namespace Go.Val
set_option linter.unusedVariables false
def hasL (b : UInt8) (s : Str) : Bool := s.head? == some b
/-- What stands behind a letter. -/
def beh (ends : List Str) (b : UInt8) : List Str := (ends.filter (hasL b)).map List.tail
theorem beh_snoc {l : List Str} {s : Str} {b : UInt8} : beh (l ++ [s]) b = beh l b ++ (if hasL b s then [s.tail] else []) := by
  unfold beh
  rw [List.filter_append, List.map_append]
  cases h : hasL b s <;> simp [List.filter, h]
theorem beh_len {l : List Str} {b : UInt8} : (beh l b).length ≤ l.length := by
  unfold beh; rw [List.length_map]; exact List.length_filter_le _ _
theorem ref_behind_eq {l : List Str} (hl : l.length ≤ 1000000) (b : UInt8) : scansionref17_behind l b = some (beh l b) := by
  unfold scansionref17_behind
  have := Loop_run (b := scansionref17_behind.b1 l b) (fun k => (beh (l.take k) b, (k : Int))) (i := 0) (n := l.length) (Nat.zero_le _) (fun j _ hj => by
    have hj1 : l[j]? = some l[j] := List.getElem?_eq_getElem hj
    have hbl : (beh (l.take j) b).length ≤ 1000000 := Nat.le_trans beh_len (by rw [List.length_take]; omega)
    show scansionref17_behind.b1 l b (_, (j : Int)) = _
    rw [scansionref17_behind.b1, if_pos (by rw [decide_eq_true_eq]; omega), idx_nat, hj1, Option.bind_some, take_snoc hj1, beh_snoc]
    unfold scansionref17_behind.k2
    cases hs : l[j] with
    | nil =>
      rw [if_neg (by simp), Option.bind_some, if_neg (by decide), w64s (by omega)]
      simp [hasL]
    | cons c t =>
      rw [if_pos (by simp)]
      have hc : (c :: t)[0]? = some c := rfl
      rw [hc, Option.bind_some, Option.bind_some, lab_eq]
      have hh : hasL b (c :: t) = (c == b) := by unfold hasL; rw [List.head?_cons]; rfl
      rw [hh]
      cases h : c == b with
      | false => rw [if_neg (by decide), if_neg (by decide), w64s (by omega), List.append_nil]
      | true =>
        rw [if_pos rfl, if_pos rfl, Option.bind_some, room_ok (by omega), w64s (by omega)]
        have hcut : cutL (c :: t) (1 : Int) = some t := by unfold cutL; rw [if_pos (by simp; omega)]; rfl
        rw [hcut]
        rfl)
  simp only [List.take_zero, List.take_length, show ((0 : Nat) : Int) = 0 from rfl] at this
  rw [show beh [] b = [] from rfl] at this
  rw [this]
  apply Loop_end
  rw [scansionref17_behind.b1, if_neg (by rw [decide_eq_true_eq]; omega)]
  rfl
/-- The one text: each end with its length ahead. -/
def oneS (ends : List Str) : Str := ends.flatMap fun s => u8 (IntKind.u8.wrap (s.length : Int)) :: s
theorem oneS_snoc {l : List Str} {s : Str} : oneS (l ++ [s]) = oneS l ++ (u8 (IntKind.u8.wrap (s.length : Int)) :: s) := by unfold oneS; rw [List.flatMap_append]; simp
theorem ref_one_eq {l : List Str} (hl : l.length ≤ 1000000) (h7 : ∀ s ∈ l, s.length ≤ 70) : scansionref17_one l = some (oneS l) := by
  unfold scansionref17_one
  have hlen : ∀ k, k ≤ l.length → (oneS (l.take k)).length ≤ 71 * k := by
    intro k
    induction k with
    | zero => intro _; simp [oneS]
    | succ k ih =>
      intro hk
      have hk1 : l[k]? = some (l[k]'(by omega)) := List.getElem?_eq_getElem _
      have h1 := ih (by omega)
      have h2 := h7 (l[k]'(by omega)) (List.getElem_mem _)
      rw [take_snoc hk1]
      rw [oneS_snoc, List.length_append, List.length_cons]; omega
  have := Loop_run (b := scansionref17_one.b1 l) (fun k => (oneS (l.take k), (k : Int))) (i := 0) (n := l.length) (Nat.zero_le _) (fun j _ hj => by
    have hj1 : l[j]? = some l[j] := List.getElem?_eq_getElem hj
    have h1 := hlen j (by omega)
    have h2 := h7 l[j] (List.getElem_mem _)
    show scansionref17_one.b1 l (_, (j : Int)) = _
    rw [scansionref17_one.b1, if_pos (by rw [decide_eq_true_eq]; omega), idx_nat, hj1, Option.bind_some, roomS_ok (by omega), Option.bind_some, roomS_ok (by omega), Option.bind_some, w64s (by omega), take_snoc hj1, oneS_snoc, List.append_assoc]
    rfl)
  simp only [List.take_zero, List.take_length, show ((0 : Nat) : Int) = 0 from rfl] at this
  rw [show oneS [] = [] from rfl] at this
  rw [this]
  apply Loop_end
  rw [scansionref17_one.b1, if_neg (by rw [decide_eq_true_eq]; omega)]
  rfl
end Go.Val

/- part P13 -/
/- Plain lemmas: the one text tells the ends. -/
namespace Go.Val
set_option linter.unusedVariables false
theorem u8_len {n m : Nat} (hn : n ≤ 255) (hm : m ≤ 255) (h : u8 (IntKind.u8.wrap (n : Int)) = u8 (IntKind.u8.wrap (m : Int))) : n = m := by
  have e : ∀ k : Nat, k ≤ 255 → (u8 (IntKind.u8.wrap (k : Int))).toNat = k := by
    intro k hk
    have hw : IntKind.u8.wrap (k : Int) = (k : Int) := by
      simp [IntKind.wrap, IntKind.signed, IntKind.bits]; omega
    rw [hw]
    unfold u8
    simp
    omega
  rw [← e n hn, ← e m hm, h]
theorem oneS_inj : ∀ {l m : List Str}, (∀ s ∈ l, s.length ≤ 70) → (∀ s ∈ m, s.length ≤ 70) → oneS l = oneS m → l = m
  | [], [], _, _, _ => rfl
  | [], s :: m, _, _, h => by simp [oneS] at h
  | s :: l, [], _, _, h => by simp [oneS] at h
  | s :: l, t :: m, h1, h2, h => by
    have e1 : oneS (s :: l) = u8 (IntKind.u8.wrap (s.length : Int)) :: (s ++ oneS l) := by unfold oneS; rw [List.flatMap_cons]; rfl
    have e2 : oneS (t :: m) = u8 (IntKind.u8.wrap (t.length : Int)) :: (t ++ oneS m) := by unfold oneS; rw [List.flatMap_cons]; rfl
    rw [e1, e2] at h
    injection h with ha hb
    have hs := h1 s (by simp)
    have ht := h2 t (by simp)
    have hl := u8_len (by omega) (by omega) ha
    obtain ⟨q1, q2⟩ := List.append_inj hb hl
    rw [q1, oneS_inj (fun x hx => h1 x (by simp [hx])) (fun x hx => h2 x (by simp [hx])) q2]
end Go.Val

/- part P14 -/
/- Plain lemmas: the farm's key tells the state. -/
namespace Go.Val
set_option linter.unusedVariables false
theorem u8w {n : Int} : ((u8 (IntKind.u8.wrap n)).toNat : Int) = n % 256 := by
  rw [u8_wrap]; simp [IntKind.wrap, IntKind.signed, IntKind.bits]
theorem sh24 {n : Int} : shR .i64 n 24 = n / 16777216 := by unfold shR; rw [show (2 : Int) ^ (min (24 : Int).toNat IntKind.i64.bits) = 16777216 from rfl, Int.fdiv_eq_ediv_of_nonneg _ (by omega)]
theorem sh16 {n : Int} : shR .i64 n 16 = n / 65536 := by unfold shR; rw [show (2 : Int) ^ (min (16 : Int).toNat IntKind.i64.bits) = 65536 from rfl, Int.fdiv_eq_ediv_of_nonneg _ (by omega)]
theorem sh8 {n : Int} : shR .i64 n 8 = n / 256 := by unfold shR; rw [show (2 : Int) ^ (min (8 : Int).toNat IntKind.i64.bits) = 256 from rfl, Int.fdiv_eq_ediv_of_nonneg _ (by omega)]
def ToOk (x : TEdge) : Prop := 0 ≤ x.To ∧ x.To < 4294967296
theorem kb_inj {x y : TEdge} (hx : ToOk x) (hy : ToOk y) (h : kb x = kb y) : x = y := by
  obtain ⟨l1, t1⟩ := x; obtain ⟨l2, t2⟩ := y
  unfold ToOk at hx hy
  unfold kb at h
  simp only [List.cons.injEq, and_true] at h hx hy
  obtain ⟨h0, h1, h2, h3, h4⟩ := h
  have c : ∀ {a b : Int}, u8 (IntKind.u8.wrap a) = u8 (IntKind.u8.wrap b) → a % 256 = b % 256 := fun {a b} e => by rw [← u8w, ← u8w, e]
  have g1 := c h1; have g2 := c h2; have g3 := c h3; have g4 := c h4
  rw [sh24, sh24] at g1; rw [sh16, sh16] at g2; rw [sh8, sh8] at g3
  have : t1 = t2 := by omega
  rw [h0, this]
theorem kbs_inj : ∀ {es fs : List TEdge}, (∀ x ∈ es, ToOk x) → (∀ x ∈ fs, ToOk x) → es.flatMap kb = fs.flatMap kb → es = fs
  | [], [], _, _, _ => rfl
  | [], y :: fs, _, _, h => by simp [kb] at h
  | x :: es, [], _, _, h => by simp [kb] at h
  | x :: es, y :: fs, h1, h2, h => by
    rw [List.flatMap_cons, List.flatMap_cons] at h
    obtain ⟨q1, q2⟩ := List.append_inj h rfl
    rw [kb_inj (h1 x (by simp)) (h2 y (by simp)) q1, kbs_inj (fun z hz => h1 z (by simp [hz])) (fun z hz => h2 z (by simp [hz])) q2]
theorem key_inj {f e : Bool} {es fs : List TEdge} (h1 : ∀ x ∈ es, ToOk x) (h2 : ∀ x ∈ fs, ToOk x) (h : keyOf f es = keyOf e fs) : f = e ∧ es = fs := by
  unfold keyOf at h
  injection h with ha hb
  exact ⟨by cases f <;> cases e <;> simp_all, kbs_inj h1 h2 hb⟩
end Go.Val

/- part P16 -/
/- Plain lemmas: the table of ends, and the graph of a table. -/
namespace Go.Val
set_option linter.unusedVariables false
def letters : List UInt8 := (List.range 256).map fun n => UInt8.ofNat n
theorem letters_len : letters.length = 256 := by simp [letters]
theorem letters_at {n : Nat} (h : n < 256) : letters[n]? = some (UInt8.ofNat n) := by
  unfold letters; rw [List.getElem?_map, List.getElem?_range h]; rfl
theorem letters_mem (c : UInt8) : c ∈ letters := by
  unfold letters; rw [List.mem_map]; exact ⟨c.toNat, List.mem_range.2 c.toNat_lt, UInt8.ofNat_toNat⟩
/-- The table after a set of ends, and all that is behind it, was looked for. -/
def adds : Nat → List (List Str) → List Str → List (List Str)
  | 0, T, _ => T
  | k + 1, T, e => if e ∈ T then T else (letters.foldl (fun T c => if beh e c = [] then T else adds k T (beh e c)) T) ++ [e]
def rowOf (T : List (List Str)) (e : List Str) : List TEdge := letters.filterMap fun c => if beh e c = [] then none else some ⟨c, (T.idxOf (beh e c) : Int)⟩
def finOf (e : List Str) : Bool := e.head? == some []
def graphT (T : List (List Str)) : TGraph := ⟨T.map finOf, T.map (rowOf T)⟩
structure Good (T : List (List Str)) : Prop where
  nodup : T.Nodup
  beh : ∀ i e, T[i]? = some e → ∀ c, beh e c ≠ [] → beh e c ∈ T.take i
theorem Good.mem {T : List (List Str)} (h : Good T) {e : List Str} (he : e ∈ T) (c : UInt8) (hc : Go.Val.beh e c ≠ []) : Go.Val.beh e c ∈ T := by
  obtain ⟨i, hi⟩ := List.getElem?_of_mem he
  exact List.mem_of_mem_take (h.beh i e hi c hc)
theorem idxOf_app {α : Type} [BEq α] [LawfulBEq α] {l m : List α} {x : α} (h : x ∈ l) : (l ++ m).idxOf x = l.idxOf x := by rw [List.idxOf_append, if_pos h]
/-- A row stays as it is when the table grows. -/
theorem rowOf_app {T U : List (List Str)} {e : List Str} (h : ∀ c, beh e c ≠ [] → beh e c ∈ T) : rowOf (T ++ U) e = rowOf T e := by
  unfold rowOf
  congr 1
  funext c
  by_cases hc : beh e c = []
  · rw [if_pos hc, if_pos hc]
  · rw [if_neg hc, if_neg hc, idxOf_app (h c hc)]
theorem Good.snoc {T : List (List Str)} (h : Good T) {e : List Str} (he : e ∉ T) (hb : ∀ c, Go.Val.beh e c ≠ [] → Go.Val.beh e c ∈ T) : Good (T ++ [e]) where
  nodup := by
    rw [List.nodup_append]
    exact ⟨h.nodup, by simp, fun a ha b hb2 => by simp at hb2; subst hb2; exact fun e2 => he (e2 ▸ ha)⟩
  beh := fun i f hf c hc => by
    by_cases hi : i < T.length
    · rw [List.getElem?_append_left hi] at hf
      rw [List.take_append_of_le_length (by omega)]
      exact h.beh i f hf c hc
    · have hil := (List.getElem?_eq_some_iff.1 hf).1
      have : i = T.length := by simp at hil; omega
      subst this
      rw [List.getElem?_append_right (Nat.le_refl _)] at hf
      simp at hf; subst hf
      rw [List.take_append_of_le_length (Nat.le_refl _), List.take_length]
      exact hb c hc
theorem graphT_snoc {T : List (List Str)} (h : Good T) {e : List Str} (hb : ∀ c, Go.Val.beh e c ≠ [] → Go.Val.beh e c ∈ T) : graphT (T ++ [e]) = ⟨(graphT T).Final ++ [finOf e], (graphT T).Edges ++ [rowOf T e]⟩ := by
  unfold graphT
  simp only [List.map_append, List.map_cons, List.map_nil]
  rw [rowOf_app hb]
  congr 2
  apply List.map_congr_left
  intro f hf
  exact rowOf_app fun c hc => h.mem hf c hc
end Go.Val

/- part P17 -/
/- Plain lemmas: the table stays good. -/
namespace Go.Val
set_option linter.unusedVariables false
def Low (k : Nat) (e : List Str) : Prop := 0 < k ∧ ∀ s ∈ e, s.length < k
theorem beh_mem {e : List Str} {c : UInt8} {t : Str} (h : t ∈ beh e c) : ∃ s ∈ e, s = c :: t := by
  unfold beh at h
  obtain ⟨s, hs, rfl⟩ := List.mem_map.1 h
  obtain ⟨h1, h2⟩ := List.mem_filter.1 hs
  refine ⟨s, h1, ?_⟩
  cases s with
  | nil => simp [hasL] at h2
  | cons d s => simp [hasL] at h2; rw [h2]; rfl
theorem Low.beh {k : Nat} {e : List Str} (h : Low (k + 1) e) {c : UInt8} (hc : Go.Val.beh e c ≠ []) : Low k (Go.Val.beh e c) := by
  have key : ∀ t ∈ Go.Val.beh e c, t.length < k := fun t ht => by
    obtain ⟨s, hs, rfl⟩ := beh_mem ht
    have := h.2 _ hs
    simp at this; exact this
  obtain ⟨t, ht⟩ := List.exists_mem_of_ne_nil _ hc
  exact ⟨by have := key t ht; omega, key⟩
def fstep (k : Nat) (e : List Str) (T : List (List Str)) (c : UInt8) : List (List Str) := if beh e c = [] then T else adds k T (beh e c)
theorem adds_succ {k : Nat} {T : List (List Str)} {e : List Str} : adds (k + 1) T e = if e ∈ T then T else (letters.foldl (fstep k e) T) ++ [e] := rfl
def tot (e : List Str) : Nat := (e.map List.length).sum
theorem tot_beh {e : List Str} {c : UInt8} : tot (beh e c) + (beh e c).length ≤ tot e := by
  induction e using snoc_ind with
  | h0 => simp [tot, beh]
  | h1 l s ih =>
    rw [beh_snoc]
    by_cases h : hasL c s
    · rw [if_pos h]
      have : 1 ≤ s.length := by cases s with
        | nil => simp [hasL] at h
        | cons d s => simp
      simp [tot] at ih ⊢; omega
    · rw [if_neg h, List.append_nil]
      simp [tot] at ih ⊢; omega
theorem tot_lt {e : List Str} {c : UInt8} (h : beh e c ≠ []) : tot (beh e c) < tot e := by
  have := tot_beh (e := e) (c := c)
  have := List.length_pos_iff.2 h
  omega
theorem adds_good : ∀ (k : Nat) (T : List (List Str)) (e : List Str), Low k e → Good T → Good (adds k T e) ∧ e ∈ adds k T e ∧ ∃ V, adds k T e = T ++ V ∧ ∀ f ∈ V, tot f ≤ tot e
  | 0, T, e, hl, hg => by have := hl.1; omega
  | k + 1, T, e, hl, hg => by
    rw [adds_succ]
    by_cases he : e ∈ T
    · rw [if_pos he]; exact ⟨hg, he, [], by simp, by simp⟩
    · rw [if_neg he]
      have fold : ∀ (cs : List UInt8) (T : List (List Str)), Good T → Good (cs.foldl (fstep k e) T) ∧ (∃ V, cs.foldl (fstep k e) T = T ++ V ∧ ∀ f ∈ V, tot f < tot e) ∧ ∀ c ∈ cs, beh e c ≠ [] → beh e c ∈ cs.foldl (fstep k e) T := by
        intro cs
        induction cs with
        | nil => intro T hg; exact ⟨hg, ⟨[], by simp, by simp⟩, fun c hc => by cases hc⟩
        | cons c cs ih =>
          intro T hg
          have h1 : Good (fstep k e T c) ∧ (∃ V, fstep k e T c = T ++ V ∧ ∀ f ∈ V, tot f < tot e) ∧ (beh e c ≠ [] → beh e c ∈ fstep k e T c) := by
            unfold fstep
            by_cases hc : beh e c = []
            · rw [if_pos hc]; exact ⟨hg, ⟨[], by simp, by simp⟩, fun h => absurd hc h⟩
            · rw [if_neg hc]
              obtain ⟨a1, a2, V, a3, a4⟩ := adds_good k T (beh e c) (hl.beh hc) hg
              exact ⟨a1, ⟨V, a3, fun f hf => Nat.lt_of_le_of_lt (a4 f hf) (tot_lt hc)⟩, fun _ => a2⟩
          obtain ⟨b1, ⟨V, b2, b4⟩, b3⟩ := ih _ h1.1
          obtain ⟨W, hW, hW2⟩ := h1.2.1
          rw [List.foldl_cons]
          refine ⟨b1, ⟨W ++ V, by rw [b2, hW, List.append_assoc], fun f hf => ?_⟩, fun d hd hne => ?_⟩
          · rcases List.mem_append.1 hf with h | h
            · exact hW2 f h
            · exact b4 f h
          · rcases List.mem_cons.1 hd with rfl | hd
            · rw [b2]; exact List.mem_append_left _ (h1.2.2 hne)
            · exact b3 d hd hne
      obtain ⟨f1, ⟨V, f2, f4⟩, f3⟩ := fold letters T hg
      have hne : e ∉ letters.foldl (fstep k e) T := by
        rw [f2]; intro h
        rcases List.mem_append.1 h with h | h
        · exact he h
        · exact absurd (f4 e h) (Nat.lt_irrefl _)
      refine ⟨f1.snoc hne fun c hc => f3 c (letters_mem c) hc, by simp, V ++ [e], by rw [f2, List.append_assoc], fun f hf => ?_⟩
      rcases List.mem_append.1 hf with h | h
      · exact Nat.le_of_lt (f4 f h)
      · simp at h; subst h; exact Nat.le_refl _
end Go.Val

/- part P18 -/
/- Plain lemmas: the reference looks for a set of ends. -/
namespace Go.Val
set_option linter.unusedVariables false
theorem maker_look {self : Tscansionref17_maker → (List Str) → Option ((Int × Tscansionref17_maker))} {m : Tscansionref17_maker} {e : List Str} {r : Str} (hl : m.ends.length ≤ 1000000) : Loop (scansionref17_maker_state.b2 self m e r) 0 = if r ∈ m.ends then some ((m.ends.idxOf r : Int), m) else scansionref17_maker_state.k1 self m e r := by
  have hle : m.ends.idxOf r ≤ m.ends.length := List.idxOf_le_length
  have hrun := Loop_int (b := scansionref17_maker_state.b2 self m e r) (i := 0) (n := m.ends.idxOf r) (Nat.zero_le _) (fun j _ hj => by
    have hj1 : m.ends[j]? = some (m.ends[j]'(by omega)) := List.getElem?_eq_getElem _
    have hne : ((m.ends[j]'(by omega)) == r) = false := by
      have := List.not_of_lt_findIdx (p := fun x => x == r) (xs := m.ends) (i := j) hj
      simpa using this
    rw [scansionref17_maker_state.b2, if_pos (by rw [decide_eq_true_eq]; omega), idx_nat, hj1, Option.bind_some, hne, if_neg (by decide), w64s (by omega)])
  rw [show ((0 : Nat) : Int) = 0 from rfl] at hrun
  rw [hrun]
  by_cases h : r ∈ m.ends
  · have hlt := List.idxOf_lt_length_iff.2 h
    have hj1 : m.ends[m.ends.idxOf r]? = some r := by rw [List.getElem?_eq_getElem hlt, List.getElem_idxOf]
    rw [if_pos h]
    apply Loop_done
    rw [scansionref17_maker_state.b2, if_pos (by rw [decide_eq_true_eq]; omega), idx_nat, hj1, Option.bind_some, if_pos (by simp)]
  · have : m.ends.idxOf r = m.ends.length := List.idxOf_eq_length h
    rw [if_neg h]
    apply Loop_end
    rw [scansionref17_maker_state.b2, if_neg (by rw [decide_eq_true_eq]; omega)]
end Go.Val

/- part P19 -/
/- Plain lemmas: how many sets of ends there are. -/
namespace Go.Val
set_option linter.unusedVariables false
def wt (e : List Str) (c : UInt8) : Nat := tot (beh e c) + (beh e c).length
theorem wt_snoc {l : List Str} {s : Str} {c : UInt8} : wt (l ++ [s]) c = wt l c + (if hasL c s then s.length else 0) := by
  unfold wt
  rw [beh_snoc]
  by_cases h : hasL c s
  · rw [if_pos h, if_pos h]
    have : 1 ≤ s.length := by cases s with
      | nil => simp [hasL] at h
      | cons d s => simp
    simp [tot]; omega
  · rw [if_neg h, if_neg h, List.append_nil]; omega
theorem sum_one {s : Str} {n : Nat} : ∀ {cs : List UInt8}, cs.Nodup → (cs.map fun c => if hasL c s then n else 0).sum ≤ n
  | [], _ => by simp
  | c :: cs, h => by
    rw [List.nodup_cons] at h
    have ih := sum_one (s := s) (n := n) h.2
    rw [List.map_cons, List.sum_cons]
    by_cases hc : hasL c s
    · have hz : (cs.map fun c => if hasL c s then n else 0).sum = 0 := by
        have : (cs.map fun c => if hasL c s then n else 0) = cs.map fun _ => 0 := List.map_congr_left fun d hd => by
          rw [if_neg]
          intro hd2
          unfold hasL at hc hd2
          rw [beq_iff_eq] at hc hd2
          rw [hc] at hd2; injection hd2 with e; subst e; exact h.1 hd
        rw [this]
        clear this ih h
        induction cs with
        | nil => rfl
        | cons d cs ih => rw [List.map_cons, List.sum_cons, ih]
      rw [if_pos hc, hz]; omega
    · rw [if_neg hc]; omega
theorem wt_sum {cs : List UInt8} (h : cs.Nodup) (e : List Str) : (cs.map (wt e)).sum ≤ tot e := by
  induction e using snoc_ind with
  | h0 => induction cs with
    | nil => simp
    | cons c cs ih => rw [List.map_cons, List.sum_cons]; have := ih (List.nodup_cons.1 h).2; simp [wt, beh, tot] at this ⊢; exact this
  | h1 l s ih =>
    have e1 : (cs.map (wt (l ++ [s]))).sum = (cs.map (wt l)).sum + (cs.map fun c => if hasL c s then s.length else 0).sum := by
      clear ih h
      induction cs with
      | nil => rfl
      | cons c cs ih => rw [List.map_cons, List.sum_cons, ih, wt_snoc, List.map_cons, List.sum_cons, List.map_cons, List.sum_cons]; omega
    have := sum_one (s := s) (n := s.length) h
    have : tot (l ++ [s]) = tot l + s.length := by simp [tot]
    omega
end Go.Val

/- part P20 -/
/- Plain lemmas: how long the table grows. -/
namespace Go.Val
set_option linter.unusedVariables false
theorem letters_nodup : letters.Nodup := by
  unfold letters List.Nodup
  rw [List.pairwise_map]
  refine List.Pairwise.imp_of_mem (R := fun a b => a ≠ b) (fun {a b} ha hb hne h => hne ?_) List.nodup_range
  have ha := List.mem_range.1 ha
  have hb := List.mem_range.1 hb
  have := congrArg UInt8.toNat h
  simp at this
  omega
theorem adds_len : ∀ (k : Nat) (T : List (List Str)) (e : List Str), Low k e → (adds k T e).length ≤ T.length + 1 + tot e
  | 0, T, e, hl => by have := hl.1; omega
  | k + 1, T, e, hl => by
    rw [adds_succ]
    by_cases he : e ∈ T
    · rw [if_pos he]; omega
    · rw [if_neg he]
      have fold : ∀ (cs : List UInt8) (T : List (List Str)), (cs.foldl (fstep k e) T).length ≤ T.length + (cs.map (wt e)).sum := by
        intro cs
        induction cs with
        | nil => intro T; simp
        | cons c cs ih =>
          intro T
          rw [List.foldl_cons, List.map_cons, List.sum_cons]
          have h1 := ih (fstep k e T c)
          have h2 : (fstep k e T c).length ≤ T.length + wt e c := by
            unfold fstep
            by_cases hc : beh e c = []
            · rw [if_pos hc]; omega
            · rw [if_neg hc]
              have := adds_len k T (beh e c) (hl.beh hc)
              have := List.length_pos_iff.2 hc
              unfold wt; omega
          omega
      have h1 := fold letters T
      have h2 := wt_sum letters_nodup e
      rw [List.length_append, List.length_singleton]; omega
end Go.Val

/- part P21 -/
/- Plain lemmas: the one texts of a table. -/
namespace Go.Val
set_option linter.unusedVariables false
def Sh (e : List Str) : Prop := ∀ s ∈ e, s.length ≤ 70
theorem one_mem {T : List (List Str)} (hT : ∀ f ∈ T, Sh f) {e : List Str} (he : Sh e) : oneS e ∈ T.map oneS ↔ e ∈ T := by
  rw [List.mem_map]
  exact ⟨fun ⟨f, hf, h⟩ => by rw [← oneS_inj (hT f hf) he h]; exact hf, fun h => ⟨e, h, rfl⟩⟩
theorem one_idx {e : List Str} (he : Sh e) : ∀ {T : List (List Str)}, (∀ f ∈ T, Sh f) → (T.map oneS).idxOf (oneS e) = T.idxOf e
  | [], _ => rfl
  | f :: T, hT => by
    rw [List.map_cons, List.idxOf_cons, List.idxOf_cons, one_idx he fun g hg => hT g (by simp [hg])]
    by_cases h : f = e
    · subst h; simp
    · have : ¬ oneS f = oneS e := fun h2 => h (oneS_inj (hT f (by simp)) he h2)
      rw [beq_eq_false_iff_ne.2 h, beq_eq_false_iff_ne.2 this]
theorem beh_sh {e : List Str} (h : Sh e) (c : UInt8) : Sh (beh e c) := fun t ht => by
  obtain ⟨s, hs, rfl⟩ := beh_mem ht
  have := h _ hs
  simp at this; omega
end Go.Val

/- part P22 -/
/- Plain lemmas: all ends of the table are short. -/
namespace Go.Val
set_option linter.unusedVariables false
theorem adds_sh : ∀ (k : Nat) {T : List (List Str)} {e : List Str}, (∀ f ∈ T, Sh f) → Sh e → ∀ f ∈ adds k T e, Sh f
  | 0, T, e, hT, he => hT
  | k + 1, T, e, hT, he => by
    rw [adds_succ]
    by_cases hm : e ∈ T
    · rw [if_pos hm]; exact hT
    · rw [if_neg hm]
      have fold : ∀ (cs : List UInt8) (T : List (List Str)), (∀ f ∈ T, Sh f) → ∀ f ∈ cs.foldl (fstep k e) T, Sh f := by
        intro cs
        induction cs with
        | nil => intro T hT; exact hT
        | cons c cs ih =>
          intro T hT
          rw [List.foldl_cons]
          refine ih _ ?_
          unfold fstep
          by_cases hc : beh e c = []
          · rw [if_pos hc]; exact hT
          · rw [if_neg hc]; exact adds_sh k hT (beh_sh he c)
      intro f hf
      rcases List.mem_append.1 hf with h | h
      · exact fold letters T hT f h
      · simp at h; subst h; exact he
end Go.Val

/- part P23 -/
/- Plain lemmas: the fold over letters, told by its prefixes. -/
namespace Go.Val
set_option linter.unusedVariables false
def tabAt (k : Nat) (e : List Str) (T : List (List Str)) (n : Nat) : List (List Str) := (letters.take n).foldl (fstep k e) T
theorem tabAt_succ {k : Nat} {e : List Str} {T : List (List Str)} {n : Nat} (h : n < 256) : tabAt k e T (n + 1) = fstep k e (tabAt k e T n) (UInt8.ofNat n) := by
  unfold tabAt
  rw [take_snoc (letters_at h), List.foldl_append]; rfl
theorem tabAt_last {k : Nat} {e : List Str} {T : List (List Str)} : tabAt k e T 256 = letters.foldl (fstep k e) T := by
  unfold tabAt; rw [List.take_of_length_le (by rw [letters_len]; omega)]
theorem tabAt_good {k : Nat} {e : List Str} {T : List (List Str)} (hl : Low (k + 1) e) (hg : Good T) : ∀ n, n ≤ 256 → Good (tabAt k e T n)
  | 0, _ => hg
  | n + 1, h => by
    rw [tabAt_succ (by omega)]
    unfold fstep
    by_cases hc : beh e (UInt8.ofNat n) = []
    · rw [if_pos hc]; exact tabAt_good hl hg n (by omega)
    · rw [if_neg hc]; exact (adds_good k _ _ (hl.beh hc) (tabAt_good hl hg n (by omega))).1
theorem tabAt_sh {k : Nat} {e : List Str} {T : List (List Str)} (hT : ∀ f ∈ T, Sh f) (he : Sh e) : ∀ n, n ≤ 256 → ∀ f ∈ tabAt k e T n, Sh f
  | 0, _ => hT
  | n + 1, h => by
    rw [tabAt_succ (by omega)]
    unfold fstep
    by_cases hc : beh e (UInt8.ofNat n) = []
    · rw [if_pos hc]; exact tabAt_sh hT he n (by omega)
    · rw [if_neg hc]; exact adds_sh k (tabAt_sh hT he n (by omega)) (beh_sh he _)
theorem tabAt_grow {k : Nat} {e : List Str} {T : List (List Str)} (hl : Low (k + 1) e) (hg : Good T) {n : Nat} : ∀ d, n + d ≤ 256 → ∃ V, tabAt k e T (n + d) = tabAt k e T n ++ V
  | 0, _ => ⟨[], by simp⟩
  | d + 1, h => by
    obtain ⟨V, hV⟩ := tabAt_grow hl hg (n := n) d (by omega)
    rw [← Nat.add_assoc, tabAt_succ (by omega)]
    unfold fstep
    by_cases hc : beh e (UInt8.ofNat (n + d)) = []
    · rw [if_pos hc]; exact ⟨V, hV⟩
    · rw [if_neg hc]
      obtain ⟨_, _, W, hW, _⟩ := adds_good k _ _ (hl.beh hc) (tabAt_good hl hg (n + d) (by omega))
      exact ⟨V ++ W, by rw [hW, hV, List.append_assoc]⟩
end Go.Val

/- part P24 -/
/- Plain lemmas: room for the table while it grows. -/
namespace Go.Val
set_option linter.unusedVariables false
theorem tabAt_len {k : Nat} {e : List Str} {T : List (List Str)} (hl : Low (k + 1) e) : ∀ n, n ≤ 256 → (tabAt k e T n).length ≤ T.length + ((letters.take n).map (wt e)).sum
  | 0, _ => by simp [tabAt]
  | n + 1, h => by
    have ih := tabAt_len (T := T) hl n (by omega)
    rw [tabAt_succ (by omega), take_snoc (letters_at (by omega)), List.map_append, List.sum_append]
    unfold fstep
    by_cases hc : beh e (UInt8.ofNat n) = []
    · rw [if_pos hc]; omega
    · rw [if_neg hc]
      have := adds_len k (tabAt k e T n) _ (hl.beh hc)
      have := List.length_pos_iff.2 hc
      simp [wt] at ih ⊢; omega
theorem sum_take {e : List Str} {n : Nat} (h : n < 256) : ((letters.take n).map (wt e)).sum + wt e (UInt8.ofNat n) ≤ tot e := by
  have h1 := wt_sum letters_nodup e
  have h2 : letters = letters.take (n + 1) ++ letters.drop (n + 1) := (List.take_append_drop _ _).symm
  rw [h2, take_snoc (letters_at h), List.map_append, List.map_append, List.sum_append, List.sum_append] at h1
  simp at h1 ⊢; omega
end Go.Val

/- part P25 -/
/- Plain lemmas: the reference's maker makes the table. -/
namespace Go.Val
set_option linter.unusedVariables false
def rowf (U : List (List Str)) (e : List Str) (c : UInt8) : Option TEdge := if beh e c = [] then none else some ⟨c, (U.idxOf (beh e c) : Int)⟩
def mkOf (T : List (List Str)) : Tscansionref17_maker := ⟨graphT T, T.map oneS⟩
theorem tabAt_low {k : Nat} {e : List Str} {T : List (List Str)} (hl : Low (k + 1) e) (hg : Good T) : ∀ n, n ≤ 256 → ∃ V, tabAt k e T n = T ++ V ∧ ∀ f ∈ V, tot f < tot e
  | 0, _ => ⟨[], by simp [tabAt], by simp⟩
  | n + 1, h => by
    obtain ⟨V, hV, hV2⟩ := tabAt_low hl hg n (by omega)
    rw [tabAt_succ (by omega)]
    unfold fstep
    by_cases hc : beh e (UInt8.ofNat n) = []
    · rw [if_pos hc]; exact ⟨V, hV, hV2⟩
    · rw [if_neg hc]
      obtain ⟨_, _, W, hW, hW2⟩ := adds_good k _ _ (hl.beh hc) (tabAt_good hl hg n (by omega))
      refine ⟨V ++ W, by rw [hW, hV, List.append_assoc], fun f hf => ?_⟩
      rcases List.mem_append.1 hf with h | h
      · exact hV2 f h
      · exact Nat.lt_of_le_of_lt (hW2 f h) (tot_lt hc)
theorem tabAt_has {k : Nat} {e : List Str} {T : List (List Str)} (hl : Low (k + 1) e) (hg : Good T) (c : UInt8) (hc : beh e c ≠ []) : beh e c ∈ tabAt k e T 256 := by
  have hn := c.toNat_lt
  obtain ⟨V, hV⟩ := tabAt_grow hl hg (n := c.toNat + 1) (255 - c.toNat) (by omega)
  rw [show c.toNat + 1 + (255 - c.toNat) = 256 by omega] at hV
  rw [hV, tabAt_succ (by omega)]
  unfold fstep
  rw [UInt8.ofNat_toNat, if_neg hc]
  exact List.mem_append_left _ (adds_good k _ _ (hl.beh hc) (tabAt_good hl hg c.toNat (by omega))).2.1
theorem maker_run : ∀ (k : Nat) (T : List (List Str)) (e : List Str), Low k e → Good T → (∀ f ∈ T, Sh f) → Sh e → e.length ≤ 1000 → T.length + 1 + tot e ≤ 1000000 →
    scansionref17_maker_state.r k (mkOf T) e = some (((adds k T e).idxOf e : Int), mkOf (adds k T e))
  | 0, T, e, hl, hg, hT, he, hn, hb => by have := hl.1; omega
  | k + 1, T, e, hl, hg, hT, he, hn, hb => by
    unfold scansionref17_maker_state.r
    rw [ref_one_eq (by omega) he, Option.bind_some, maker_look (by simp [mkOf]; omega)]
    have hends : (mkOf T).ends = T.map oneS := rfl
    rw [hends, adds_succ]
    by_cases hm : e ∈ T
    · rw [if_pos ((one_mem hT he).2 hm), if_pos hm, one_idx he hT]
    · rw [if_neg (fun h => hm ((one_mem hT he).1 h)), if_neg hm]
      unfold scansionref17_maker_state.k1
      rw [← tabAt_last]
      generalize hU : tabAt k e T 256 = U
      have hgU := tabAt_good hl hg 256 (Nat.le_refl _)
      have hrun := Loop_run (b := scansionref17_maker_state.b1 (scansionref17_maker_state.r k) e (oneS e)) (fun n => ((letters.take n).filterMap (rowf U e), (n : Int), (graphT (tabAt k e T n)).Final, (graphT (tabAt k e T n)).Edges, (tabAt k e T n).map oneS)) (i := 0) (n := 256) (Nat.zero_le _) (fun n _ hn => by
        have hc8 : u8 (IntKind.u8.wrap (n : Int)) = UInt8.ofNat n := by
          unfold u8
          congr 1
          simp [IntKind.wrap, IntKind.signed, IntKind.bits]; omega
        have hlen := tabAt_len (T := T) hl n (by omega)
        have hsum := sum_take (e := e) hn
        have hrl : ((letters.take n).filterMap (rowf U e)).length ≤ 256 := Nat.le_trans (List.length_filterMap_le _ _) (by rw [List.length_take, letters_len]; omega)
        show scansionref17_maker_state.b1 _ e (oneS e) (_, (n : Int), _, _, _) = _
        rw [scansionref17_maker_state.b1, if_pos (by rw [decide_eq_true_eq]; omega), hc8, ref_behind_eq (by omega), Option.bind_some, take_snoc (letters_at hn), List.filterMap_append, tabAt_succ hn]
        unfold fstep scansionref17_maker_state.k3
        by_cases hc : beh e (UInt8.ofNat n) = []
        · have hr : rowf U e (UInt8.ofNat n) = none := by unfold rowf; rw [if_pos hc]
          rw [if_neg (by rw [hc]; decide), if_pos hc, w64s (by omega)]
          simp [List.filterMap, hr]
        · obtain ⟨V, hV⟩ := tabAt_grow hl hg (n := n + 1) (255 - n) (by omega)
          rw [show n + 1 + (255 - n) = 256 by omega, hU, tabAt_succ hn] at hV
          unfold fstep at hV
          rw [if_neg hc] at hV
          have hin := (adds_good k _ _ (hl.beh hc) (tabAt_good hl hg n (by omega))).2.1
          have hr : rowf U e (UInt8.ofNat n) = some ⟨UInt8.ofNat n, ((adds k (tabAt k e T n) (beh e (UInt8.ofNat n))).idxOf (beh e (UInt8.ofNat n)) : Int)⟩ := by
            unfold rowf; rw [if_neg hc, hV, idxOf_app hin]
          have hpos := List.length_pos_iff.2 hc
          have hw : wt e (UInt8.ofNat n) = tot (beh e (UInt8.ofNat n)) + (beh e (UInt8.ofNat n)).length := rfl
          have ih := maker_run k (tabAt k e T n) (beh e (UInt8.ofNat n)) (hl.beh hc) (tabAt_good hl hg n (by omega)) (tabAt_sh hT he n (by omega)) (beh_sh he _) (Nat.le_trans beh_len (by omega)) (by omega)
          rw [if_pos (by rw [decide_eq_true_eq]; omega), if_neg hc]
          show ((scansionref17_maker_state.r k (mkOf (tabAt k e T n)) (beh e (UInt8.ofNat n))).bind _) = _
          rw [ih, Option.bind_some, room_ok (by omega), Option.bind_some, w64s (by omega)]
          simp [List.filterMap, hr, mkOf])
      simp only [List.take_zero, show ((0 : Nat) : Int) = 0 from rfl] at hrun
      have h0 : tabAt k e T 0 = T := rfl
      rw [h0, hU, List.take_of_length_le (by rw [letters_len]; omega : letters.length ≤ 256)] at hrun
      have hlen := tabAt_len (T := T) hl 256 (Nat.le_refl _)
      have hsum := wt_sum letters_nodup e
      rw [List.take_of_length_le (by rw [letters_len]; omega : letters.length ≤ 256), hU] at hlen
      have hgood := adds_good (k + 1) T e hl hg
      show Loop _ (([] : List TEdge), (0 : Int), (graphT T).Final, (graphT T).Edges, T.map oneS) = _
      rw [show ([] : List TEdge) = List.filterMap (rowf U e) [] from rfl, hrun]
      apply Loop_end
      rw [scansionref17_maker_state.b1, if_neg (by decide)]
      congr 1
      have hrow : letters.filterMap (rowf U e) = rowOf U e := rfl
      have hbm : ∀ c, beh e c ≠ [] → beh e c ∈ U := fun c hc => by
        rw [← hU]; exact tabAt_has hl hg c hc
      have hne : e ∉ U := by
        obtain ⟨V, hV, hV2⟩ := tabAt_low hl hg 256 (Nat.le_refl _)
        rw [← hU, hV]; intro h
        rcases List.mem_append.1 h with h | h
        · exact hm h
        · exact absurd (hV2 e h) (Nat.lt_irrefl _)
      have hgs := graphT_snoc (by rw [← hU]; exact tabAt_good hl hg 256 (Nat.le_refl _) : Good U) hbm
      unfold scansionref17_maker_state.k2
      have hfl : (graphT U).Final.length = U.length := by simp [graphT]
      have hel : (graphT U).Edges.length = U.length := by simp [graphT]
      rw [List.length_map, room_ok (by omega), Option.bind_some, hfl, hel, room_ok (by omega), room_ok (by omega)]
      have hfin : ((if decide ((e.length : Int) > 0) = true then (e[0]?).bind fun s => (some () : Option Unit).bind fun _ => some ((graphT U).Final ++ [s == ([] : Str)]) else (some () : Option Unit).bind fun _ => some ((graphT U).Final ++ [false])) : Option (List Bool)) = some ((graphT U).Final ++ [finOf e]) := by
        cases e with
        | nil => rfl
        | cons s e => rw [if_pos (by simp)]; rfl
      rw [hfin, Option.bind_some, Option.bind_some]
      have hidx : (U ++ [e]).idxOf e = U.length := by rw [List.idxOf_append, if_neg hne]; simp
      rw [hidx, List.length_append, List.length_map, List.length_singleton, w64 (by omega) (by omega)]
      unfold mkOf
      rw [hgs, List.map_append, hrow]
      congr 2
      omega
end Go.Val

/- part P26 -/
/- Plain lemmas: rising lists of texts. -/
namespace Go.Val
set_option linter.unusedVariables false
theorem bl_irr : ∀ a : Str, Op.bytesLess a a = false
  | [] => rfl
  | c :: a => by simp [Op.bytesLess, bl_irr a]
theorem bl_trans : ∀ {a b c : Str}, Op.bytesLess a b = true → Op.bytesLess b c = true → Op.bytesLess a c = true
  | _, [], _, h, _ => by cases ‹List UInt8› <;> simp [Op.bytesLess] at h
  | _, _ :: _, [], _, h => by simp [Op.bytesLess] at h
  | [], _ :: _, _ :: _, _, _ => rfl
  | x :: a, y :: b, z :: c, h1, h2 => by
    simp only [Op.bytesLess, Bool.or_eq_true, Bool.and_eq_true, decide_eq_true_eq, beq_iff_eq] at h1 h2 ⊢
    rcases h1 with h1 | ⟨rfl, h1⟩
    · rcases h2 with h2 | ⟨rfl, h2⟩
      · exact .inl (UInt8.lt_trans h1 h2)
      · exact .inl h1
    · rcases h2 with h2 | ⟨rfl, h2⟩
      · exact .inl h2
      · exact .inr ⟨rfl, bl_trans h1 h2⟩
theorem bl_tot : ∀ {a b : Str}, Op.bytesLess b a = false → (b == a) = false → Op.bytesLess a b = true
  | [], [], _, h => by simp at h
  | [], _ :: _, _, _ => rfl
  | _ :: _, [], h, _ => by simp [Op.bytesLess] at h
  | x :: a, y :: b, h1, h2 => by
    simp only [Op.bytesLess, Bool.or_eq_false_iff, Bool.or_eq_true, Bool.and_eq_true, decide_eq_true_eq, decide_eq_false_iff_not, beq_iff_eq] at h1 ⊢
    by_cases hx : x = y
    · subst hx
      refine .inr ⟨rfl, bl_tot ?_ ?_⟩
      · have := h1.2; simpa using this
      · simpa using h2
    · left
      have := h1.1
      rw [UInt8.lt_iff_toNat_lt] at this ⊢
      have : x.toNat ≠ y.toNat := fun e => hx (UInt8.toNat_inj.1 e)
      omega
theorem bl_cons {c : UInt8} {a b : Str} : Op.bytesLess (c :: a) (c :: b) = Op.bytesLess a b := by simp [Op.bytesLess]
theorem bl_head {c d : UInt8} {a b : Str} (h : Op.bytesLess (c :: a) (d :: b) = true) : c.toNat ≤ d.toNat := by
  simp only [Op.bytesLess, Bool.or_eq_true, Bool.and_eq_true, decide_eq_true_eq, beq_iff_eq] at h
  rcases h with h | ⟨rfl, _⟩
  · rw [UInt8.lt_iff_toNat_lt] at h; omega
  · exact Nat.le_refl _
def Ri (e : List Str) : Prop := List.Pairwise (fun a b => Op.bytesLess a b = true) e
theorem RiseP.ri {l : List Str} (h : RiseP l) : Ri l := by
  unfold Ri
  rw [List.pairwise_iff_getElem]
  have key : ∀ d i (hi : i + d + 1 < l.length), Op.bytesLess l[i] l[i + d + 1] = true := by
    intro d
    induction d with
    | zero => intro i hi; have := h.2 (i + 1) (by omega) hi l[i] l[i + 1] (by simp) (by simp); rw [Bool.or_eq_false_iff] at this; exact bl_tot this.1 this.2
    | succ d ih =>
      intro i hi
      have h1 := ih i (by omega)
      have h2 := h.2 (i + d + 1 + 1) (by omega) hi l[i + d + 1] l[i + d + 1 + 1] (by simp) (by simp)
      rw [Bool.or_eq_false_iff] at h2
      exact bl_trans h1 (bl_tot h2.1 h2.2)
  intro i j hi hj hij
  have := key (j - i - 1) i (by omega)
  simp only [show i + (j - i - 1) + 1 = j by omega] at this
  exact this
theorem Ri.nodup {e : List Str} (h : Ri e) : e.Nodup := by
  refine List.Pairwise.imp (fun {a b} hab e => ?_) h
  subst e; rw [bl_irr] at hab; cases hab
theorem Ri.beh {e : List Str} (h : Ri e) (c : UInt8) : Ri (Go.Val.beh e c) := by
  unfold Ri Go.Val.beh
  rw [List.pairwise_map]
  refine List.Pairwise.imp_of_mem (fun {a b} ha hb hab => ?_) (List.Pairwise.sublist List.filter_sublist h)
  have ha := (List.mem_filter.1 ha).2
  have hb := (List.mem_filter.1 hb).2
  cases a with
  | nil => simp [hasL] at ha
  | cons x a => cases b with
    | nil => simp [hasL] at hb
    | cons y b =>
      simp [hasL] at ha hb
      rw [ha, hb, bl_cons] at hab; exact hab
/-- Rising lists with the same texts are the same. -/
theorem Ri.ext : ∀ {e f : List Str}, Ri e → Ri f → (∀ s, s ∈ e ↔ s ∈ f) → e = f
  | [], [], _, _, _ => rfl
  | [], s :: f, _, _, h => by have := (h s).2 (by simp); simp at this
  | s :: e, [], _, _, h => by have := (h s).1 (by simp); simp at this
  | s :: e, t :: f, h1, h2, h => by
    have h1' := List.pairwise_cons.1 h1
    have h2' := List.pairwise_cons.1 h2
    have hst : s = t := by
      rcases List.mem_cons.1 ((h s).1 (by simp)) with q | q
      · exact q
      · rcases List.mem_cons.1 ((h t).2 (by simp)) with r | r
        · exact r.symm
        · have := bl_trans (h1'.1 t r) (h2'.1 s q)
          rw [bl_irr] at this; cases this
    subst hst
    rw [Ri.ext h1'.2 h2'.2 fun x => ⟨fun hx => by
      rcases List.mem_cons.1 ((h x).1 (by simp [hx])) with q | q
      · subst q; have := h1'.1 x hx; rw [bl_irr] at this; cases this
      · exact q, fun hx => by
      rcases List.mem_cons.1 ((h x).2 (by simp [hx])) with q | q
      · subst q; have := h2'.1 x hx; rw [bl_irr] at this; cases this
      · exact q⟩]
theorem mem_beh {e : List Str} {c : UInt8} {t : Str} : t ∈ beh e c ↔ c :: t ∈ e := by
  refine ⟨fun h => by obtain ⟨s, hs, rfl⟩ := beh_mem h; exact hs, fun h => ?_⟩
  unfold beh
  rw [List.mem_map]
  exact ⟨c :: t, List.mem_filter.2 ⟨h, by simp [hasL]⟩, rfl⟩
theorem Ri.fin {e : List Str} (h : Ri e) : finOf e = true ↔ [] ∈ e := by
  unfold finOf
  cases e with
  | nil => simp
  | cons s e =>
    rw [List.head?_cons]
    refine ⟨fun h => by simp at h; simp [h], fun hm => ?_⟩
    rcases List.mem_cons.1 hm with q | q
    · rw [← q]; rfl
    · have := (List.pairwise_cons.1 h).1 [] q
      cases s <;> simp [Op.bytesLess] at this
/-- A rising list is told by its end, and what is behind its letters. -/
theorem Ri.det {e f : List Str} (he : Ri e) (hf : Ri f) (h1 : finOf e = finOf f) (h2 : ∀ c, Go.Val.beh e c = Go.Val.beh f c) : e = f := by
  refine he.ext hf fun s => ?_
  cases s with
  | nil => rw [← he.fin, ← hf.fin, h1]
  | cons c t => rw [← mem_beh, ← mem_beh, h2]
theorem row_det {U : List (List Str)} {e f : List Str} (he : Ri e) (hf : Ri f) (ee : ∀ c, beh e c ≠ [] → beh e c ∈ U) (ef : ∀ c, beh f c ≠ [] → beh f c ∈ U) (h1 : finOf e = finOf f) (h2 : rowOf U e = rowOf U f) : e = f := by
  have key : ∀ {e f : List Str}, (∀ c, beh e c ≠ [] → beh e c ∈ U) → (∀ c, beh f c ≠ [] → beh f c ∈ U) → rowOf U e = rowOf U f → ∀ c, beh e c ≠ [] → beh e c = beh f c := by
    intro e f ee ef h2 c hc
    have : (⟨c, (U.idxOf (beh e c) : Int)⟩ : TEdge) ∈ rowOf U e := by
      unfold rowOf
      rw [List.mem_filterMap]
      exact ⟨c, letters_mem c, by rw [if_neg hc]⟩
    rw [h2] at this
    unfold rowOf at this
    rw [List.mem_filterMap] at this
    obtain ⟨d, _, hd⟩ := this
    by_cases hd2 : beh f d = []
    · rw [if_pos hd2] at hd; cases hd
    · rw [if_neg hd2] at hd
      injection hd with hd
      injection hd with q1 q2
      subst q1
      have q3 : U.idxOf (beh f d) = U.idxOf (beh e d) := by omega
      have m1 := List.idxOf_lt_length_iff.2 (ef d hd2)
      have m2 := List.idxOf_lt_length_iff.2 (ee d hc)
      have g1 := List.getElem_idxOf m1
      have g2 := List.getElem_idxOf m2
      rw [← g2, ← g1]
      congr 1
      exact q3.symm
  refine he.det hf h1 fun c => ?_
  by_cases hc : beh e c = []
  · by_cases hd : beh f c = []
    · rw [hc, hd]
    · exact (key ef ee h2.symm c hd).symm
  · exact key ee ef h2 c hc
theorem adds_all {P : List Str → Prop} (hP : ∀ e c, P e → P (beh e c)) : ∀ (k : Nat) {T : List (List Str)} {e : List Str}, (∀ f ∈ T, P f) → P e → ∀ f ∈ adds k T e, P f
  | 0, T, e, hT, he => hT
  | k + 1, T, e, hT, he => by
    rw [adds_succ]
    by_cases hm : e ∈ T
    · rw [if_pos hm]; exact hT
    · rw [if_neg hm]
      have fold : ∀ (cs : List UInt8) (T : List (List Str)), (∀ f ∈ T, P f) → ∀ f ∈ cs.foldl (fstep k e) T, P f := by
        intro cs
        induction cs with
        | nil => intro T hT; exact hT
        | cons c cs ih =>
          intro T hT
          rw [List.foldl_cons]
          refine ih _ ?_
          unfold fstep
          by_cases hc : beh e c = []
          · rw [if_pos hc]; exact hT
          · rw [if_neg hc]; exact adds_all hP k hT (hP e c he)
      intro f hf
      rcases List.mem_append.1 hf with h | h
      · exact fold letters T hT f h
      · simp at h; subst h; exact he
theorem tabAt_all {P : List Str → Prop} (hP : ∀ e c, P e → P (beh e c)) {k : Nat} {e : List Str} {T : List (List Str)} (hT : ∀ f ∈ T, P f) (he : P e) : ∀ n, n ≤ 256 → ∀ f ∈ tabAt k e T n, P f
  | 0, _ => hT
  | n + 1, h => by
    rw [tabAt_succ (by omega)]
    unfold fstep
    by_cases hc : beh e (UInt8.ofNat n) = []
    · rw [if_pos hc]; exact tabAt_all hP hT he n (by omega)
    · rw [if_neg hc]; exact adds_all hP k (tabAt_all hP hT he n (by omega)) (hP _ _ he)
end Go.Val

/- part P27 -/
/- Plain lemmas: the states that the builder knows. -/
namespace Go.Val
set_option linter.unusedVariables false
def tag {α κ : Type} (g : α → κ) : Nat → List α → List (κ × Int)
  | _, [] => []
  | n, x :: l => (g x, (n : Int)) :: tag g (n + 1) l
theorem tag_snoc {α κ : Type} {g : α → κ} {x : α} : ∀ {n : Nat} {l : List α}, tag g n (l ++ [x]) = tag g n l ++ [(g x, ((n + l.length : Nat) : Int))]
  | n, [] => rfl
  | n, y :: l => by
    rw [List.cons_append, tag, tag, tag_snoc, List.cons_append]
    rw [show n + 1 + l.length = n + (y :: l).length by simp; omega]
theorem tag_congr {α κ : Type} {g h : α → κ} : ∀ {n : Nat} {l : List α}, (∀ x ∈ l, g x = h x) → tag g n l = tag h n l
  | n, [], _ => rfl
  | n, y :: l, hh => by rw [tag, tag, hh y (by simp), tag_congr fun x hx => hh x (by simp [hx])]
theorem aget_tag_none {α κ : Type} [DecidableEq κ] {g : α → κ} {k : κ} : ∀ {n : Nat} {l : List α}, (∀ x ∈ l, g x ≠ k) → aget k (tag g n l) = none
  | n, [], _ => rfl
  | n, y :: l, h => by
    rw [tag, aget, if_neg (fun e => h y (by simp) e.symm), aget_tag_none fun x hx => h x (by simp [hx])]
theorem aget_tag {α κ : Type} [DecidableEq κ] [BEq α] [LawfulBEq α] {g : α → κ} {x : α} : ∀ {n : Nat} {l : List α}, x ∈ l → (∀ y ∈ l, g y = g x → y = x) → aget (g x) (tag g n l) = some ((n + l.idxOf x : Nat) : Int)
  | n, [], h, _ => by cases h
  | n, y :: l, h, hg => by
    rw [tag, aget]
    by_cases e : y = x
    · subst e; rw [if_pos rfl]; simp
    · rw [if_neg (fun e2 => e (hg y (by simp) e2.symm))]
      rw [aget_tag (List.mem_of_ne_of_mem (fun h => e h.symm) h) fun z hz => hg z (by simp [hz])]
      rw [List.idxOf_cons, beq_eq_false_iff_ne.2 e]
      simp; omega
theorem aput_new {κ ν : Type} [DecidableEq κ] {k : κ} {v : ν} : ∀ {l : List (κ × ν)}, aget k l = none → aput k v l = l ++ [(k, v)]
  | [], _ => rfl
  | (k', v') :: l, h => by
    rw [aget] at h
    by_cases e : k = k'
    · rw [if_pos e] at h; cases h
    · rw [if_neg e] at h; rw [aput, if_neg e, aput_new h]; rfl
def keyT (T : List (List Str)) (e : List Str) : Str := keyOf (finOf e) (rowOf T e)
def known (T : List (List Str)) : List (Str × Int) := tag (keyT T) 0 T
def bOf (T : List (List Str)) : Tdawg_builder := ⟨graphT T, known T⟩
theorem row_ToOk {T : List (List Str)} {e : List Str} (hT : T.length ≤ 1000000) : ∀ x ∈ rowOf T e, ToOk x := by
  intro x hx
  unfold rowOf at hx
  rw [List.mem_filterMap] at hx
  obtain ⟨c, _, hc⟩ := hx
  by_cases h : beh e c = []
  · rw [if_pos h] at hc; cases hc
  · rw [if_neg h] at hc
    injection hc with hc
    subst hc
    have : T.idxOf (beh e c) ≤ T.length := List.idxOf_le_length
    exact ⟨by show (0 : Int) ≤ (T.idxOf (beh e c) : Int); omega, by show (T.idxOf (beh e c) : Int) < _; omega⟩
theorem keyT_inj {T : List (List Str)} (hT : T.length ≤ 1000000) {e f : List Str} (he : Ri e) (hf : Ri f) (ee : ∀ c, beh e c ≠ [] → beh e c ∈ T) (ef : ∀ c, beh f c ≠ [] → beh f c ∈ T) (h : keyT T e = keyT T f) : e = f := by
  obtain ⟨h1, h2⟩ := key_inj (row_ToOk hT) (row_ToOk hT) h
  exact row_det he hf ee ef h1 h2
theorem known_snoc {T : List (List Str)} (h : Good T) {e : List Str} (hb : ∀ c, beh e c ≠ [] → beh e c ∈ T) : known (T ++ [e]) = known T ++ [(keyT T e, (T.length : Int))] := by
  unfold known
  rw [tag_snoc]
  have h1 : keyT (T ++ [e]) e = keyT T e := by unfold keyT; rw [rowOf_app hb]
  rw [h1, Nat.zero_add]
  congr 1
  exact tag_congr fun f hf => by unfold keyT; rw [rowOf_app fun c hc => h.mem hf c hc]
theorem known_has {T : List (List Str)} (hg : Good T) (hT : T.length ≤ 1000000) (hr : ∀ f ∈ T, Ri f) {e : List Str} (he : e ∈ T) : aget (keyT T e) (known T) = some (T.idxOf e : Int) := by
  have := aget_tag (g := keyT T) (n := 0) he fun y hy hk => keyT_inj hT (hr y hy) (hr e he) (fun c hc => hg.mem hy c hc) (fun c hc => hg.mem he c hc) hk
  rw [Nat.zero_add] at this
  exact this
theorem known_no {T : List (List Str)} (hg : Good T) (hT : T.length ≤ 1000000) (hr : ∀ f ∈ T, Ri f) {e : List Str} (he : e ∉ T) (hre : Ri e) (hb : ∀ c, beh e c ≠ [] → beh e c ∈ T) : aget (keyT T e) (known T) = none :=
  aget_tag_none fun x hx hk => he (keyT_inj hT (hr x hx) hre (fun c hc => hg.mem hx c hc) hb hk ▸ hx)
theorem row_len {T : List (List Str)} {e : List Str} : (rowOf T e).length ≤ 256 := Nat.le_trans (List.length_filterMap_le _ _) (by rw [letters_len]; omega)
/-- The end of the builder's step: a state that is known, or a new one. -/
theorem b_k2_has {T : List (List Str)} (hg : Good T) (hT : T.length ≤ 1000000) (hr : ∀ f ∈ T, Ri f) {e : List Str} (he : e ∈ T) : dawg_builder_state.k2 (finOf e) (rowOf T e) (graphT T).Final (graphT T).Edges (known T) = some ((T.idxOf e : Int), bOf T) := by
  unfold dawg_builder_state.k2
  rw [key_eq (Nat.le_trans row_len (by omega)), Option.bind_some]
  have := known_has hg hT hr he
  unfold keyT at this
  rw [this, if_neg (by simp)]
  rfl
theorem b_k2_new {T : List (List Str)} (hg : Good T) (hT : T.length < 1000000) (hr : ∀ f ∈ T, Ri f) {e : List Str} (he : e ∉ T) (hre : Ri e) (hb : ∀ c, beh e c ≠ [] → beh e c ∈ T) : dawg_builder_state.k2 (finOf e) (rowOf T e) (graphT T).Final (graphT T).Edges (known T) = some ((T.length : Int), bOf (T ++ [e])) := by
  unfold dawg_builder_state.k2
  rw [key_eq (Nat.le_trans row_len (by omega)), Option.bind_some]
  have h := known_no hg (by omega) hr he hre hb
  have hfl : (graphT T).Final.length = T.length := by simp [graphT]
  have hel : (graphT T).Edges.length = T.length := by simp [graphT]
  unfold bOf
  rw [graphT_snoc hg hb, known_snoc hg hb]
  rw [← aput_new h]
  unfold keyT at h ⊢
  rw [h, if_pos (by simp), hfl, hel, room_ok (by omega), Option.bind_some, room_ok (by omega), Option.bind_some]
  rfl
end Go.Val

/- part P28 -/
/- Plain lemmas: groups of one letter in a rising list. -/
namespace Go.Val
set_option linter.unusedVariables false
theorem beh_app {l m : List Str} {c : UInt8} : beh (l ++ m) c = beh l c ++ beh m c := by
  unfold beh; rw [List.filter_append, List.map_append]
theorem beh_all {l : List Str} {c : UInt8} (h : ∀ s ∈ l, hasL c s = true) : beh l c = l.map List.tail := by
  unfold beh; rw [List.filter_eq_self.2 h]
theorem beh_none {l : List Str} {c : UInt8} (h : ∀ s ∈ l, hasL c s = false) : beh l c = [] := by
  unfold beh
  rw [List.filter_eq_nil_iff.2 fun s hs => by rw [h s hs]; decide]; rfl
theorem hasL_lt {c d : UInt8} {s : Str} (h : hasL c s = true) (hd : c ≠ d) : hasL d s = false := by
  unfold hasL at h ⊢
  rw [beq_iff_eq] at h
  rw [h]
  simpa using hd
def cutN (c : UInt8) (ds : List Str) : Nat := ds.findIdx fun s => !hasL c s
theorem cutN_le {c : UInt8} {ds : List Str} : cutN c ds ≤ ds.length := List.findIdx_le_length
theorem cutN_lo {c : UInt8} {ds : List Str} : ∀ s ∈ ds.take (cutN c ds), hasL c s = true := by
  intro s hs
  obtain ⟨i, hi, rfl⟩ := List.getElem_of_mem hs
  rw [List.length_take] at hi
  rw [List.getElem_take]
  have := List.not_of_lt_findIdx (p := fun s => !hasL c s) (xs := ds) (i := i) (by unfold cutN at hi; omega)
  simpa using this
theorem cutN_hi {c : UInt8} {t : Str} {ds : List Str} (h : Ri ((c :: t) :: ds)) (hne : ∀ s ∈ ds, s ≠ []) : ∀ s ∈ ((c :: t) :: ds).drop (cutN c ((c :: t) :: ds)), ∃ d u, s = d :: u ∧ c.toNat < d.toNat := by
  have key : ∀ n, cutN c ((c :: t) :: ds) = n → ∀ i (hi : n + i < ((c :: t) :: ds).length), ∃ d u, ((c :: t) :: ds)[n + i] = d :: u ∧ c.toNat < d.toNat := by
   intro n hn i hi
   have hlt : n < ((c :: t) :: ds).length := by omega
   have hn0 : 0 < n := by
     have h0 : n ≠ 0 := by
       intro h0
       have := List.findIdx_getElem (p := fun s => !hasL c s) (xs := (c :: t) :: ds) (w := by show cutN c ((c :: t) :: ds) < _; rw [hn]; exact hlt)
       have e0 : ((c :: t) :: ds).findIdx (fun s => !hasL c s) = 0 := by show cutN c ((c :: t) :: ds) = 0; rw [hn, h0]
       simp only [e0] at this
       simp [hasL] at this
     omega
   have hbad : hasL c (((c :: t) :: ds)[n]'hlt) = false := by
     have := List.findIdx_getElem (p := fun s => !hasL c s) (xs := (c :: t) :: ds) (w := by show cutN c ((c :: t) :: ds) < _; rw [hn]; exact hlt)
     have e0 : ((c :: t) :: ds).findIdx (fun s => !hasL c s) = n := hn
     simp only [e0] at this
     simpa using this
   have hp := List.pairwise_iff_getElem.1 h
   have hmem : ∀ j (hj : j < ((c :: t) :: ds).length), 0 < j → ∃ d u, ((c :: t) :: ds)[j] = d :: u := fun j hj h0 => by
     obtain ⟨j, rfl⟩ : ∃ k, j = k + 1 := ⟨j - 1, by omega⟩
     rw [List.getElem_cons_succ]
     have hlen : j < ds.length := by simp at hj; omega
     have := hne ds[j] (List.getElem_mem hlen)
     cases hd : ds[j] with
     | nil => exact absurd hd this
     | cons d u => exact ⟨d, u, rfl⟩
   obtain ⟨d, u, hd⟩ := hmem n hlt hn0
   have h1 := hp 0 n (by simp) hlt hn0
   rw [hd, List.getElem_cons_zero] at h1
   rw [hd] at hbad
   have hcd : c.toNat < d.toNat := by
     have := bl_head h1
     have hne2 : c ≠ d := fun e => by subst e; simp [hasL] at hbad
     have : c.toNat ≠ d.toNat := fun e => hne2 (UInt8.toNat_inj.1 e)
     omega
   by_cases hi0 : i = 0
   · subst hi0
     simp only [Nat.add_zero]
     exact ⟨d, u, hd, hcd⟩
   · obtain ⟨x, v, hx⟩ := hmem (n + i) (by omega) (by omega)
     have h2 := hp n (n + i) hlt (by omega) (by omega)
     rw [hd, hx] at h2
     have := bl_head h2
     exact ⟨x, v, hx, by omega⟩
  intro s hs
  obtain ⟨i, hi, rfl⟩ := List.getElem_of_mem hs
  rw [List.length_drop] at hi
  rw [List.getElem_drop]
  exact key _ rfl i (by omega)
/-- Letters that none begins with leave all as it is. -/
theorem tab_skip {k : Nat} {e : List Str} {T : List (List Str)} {n : Nat} : ∀ d, n + d ≤ 256 → (∀ c : UInt8, n ≤ c.toNat → c.toNat < n + d → beh e c = []) → tabAt k e T (n + d) = tabAt k e T n ∧ ∀ U, (letters.take (n + d)).filterMap (rowf U e) = (letters.take n).filterMap (rowf U e)
  | 0, _, _ => ⟨rfl, fun _ => rfl⟩
  | d + 1, h, hc => by
    obtain ⟨i1, i2⟩ := tab_skip (n := n) (k := k) (T := T) d (by omega) fun c h1 h2 => hc c h1 (by omega)
    have hb : beh e (UInt8.ofNat (n + d)) = [] := hc _ (by simp; omega) (by simp; omega)
    rw [← Nat.add_assoc]
    refine ⟨?_, fun U => ?_⟩
    · rw [tabAt_succ (by omega)]
      unfold fstep
      rw [if_pos hb, i1]
    · rw [take_snoc (letters_at (by omega)), List.filterMap_append, i2 U]
      have : rowf U e (UInt8.ofNat (n + d)) = none := by unfold rowf; rw [if_pos hb]
      rw [List.filterMap_cons_none this, List.filterMap_nil, List.append_nil]
end Go.Val

/- part P29 -/
/- Plain lemmas: the builder makes the table. -/
namespace Go.Val
set_option linter.unusedVariables false
theorem room_g {n : Nat} (h : n ≤ 1000000) {sz : Nat} (hs : sz ≤ 1000000) : room sz n = some () := room_ok (by
  have : n * sz ≤ 1000000 * 1000000 := Nat.mul_le_mul h hs
  omega)
theorem drop_head {s : Str} {g : Nat} {c : UInt8} {t : Str} (h : s.drop g = c :: t) : s[g]? = some c := by
  have := congrArg (fun l => l[0]?) h
  simpa using this
theorem findIdx_map {α β : Type} {f : α → β} {p : β → Bool} : ∀ {l : List α}, (l.map f).findIdx p = l.findIdx (fun x => p (f x))
  | [] => rfl
  | x :: l => by rw [List.map_cons, List.findIdx_cons, List.findIdx_cons, findIdx_map]
def Maker (k : Nat) : Prop := ∀ (T : List (List Str)) (texts : List Str) (g : Nat), (∀ s ∈ texts, g ≤ s.length ∧ s.length ≤ 1000) → Low k (texts.map (List.drop g)) → Good T → (∀ f ∈ T, Ri f) → Ri (texts.map (List.drop g)) → texts.length ≤ 1000 → T.length + 1 + tot (texts.map (List.drop g)) ≤ 1000000 →
    dawg_builder_state.r k (bOf T) texts (g : Int) = some (((adds k T (texts.map (List.drop g))).idxOf (texts.map (List.drop g)) : Int), bOf (adds k T (texts.map (List.drop g))))
/-- One group of the builder's loop. -/
theorem b_step {k : Nat} (hk : Maker k) {e : List Str} {T U : List (List Str)} (hl : Low (k + 1) e) (hg : Good T) (hT : ∀ f ∈ T, Ri f) (he : Ri e) (hn : e.length ≤ 1000) (hb : T.length + 1 + tot e ≤ 1000000) (hU : tabAt k e T 256 = U) {g : Nat} (fin : Bool)
    {R : List Str} {s : Str} {c : UInt8} {t : Str} (hs : s.drop g = c :: t) (hR : Ri ((s :: R).map (List.drop g))) (hRn : (s :: R).length ≤ 1000) (hlong : ∀ x ∈ s :: R, x.length ≤ 1000) (hne : ∀ d ∈ (s :: R).map (List.drop g), d ≠ []) (hbe : beh e c = beh ((s :: R).map (List.drop g)) c) :
    dawg_builder_state.b1 (dawg_builder_state.r k) (g : Int) fin (s :: R, (letters.take c.toNat).filterMap (rowf U e), (graphT (tabAt k e T c.toNat)).Final, (graphT (tabAt k e T c.toNat)).Edges, known (tabAt k e T c.toNat)) =
      some (.next ((s :: R).drop (cutN c ((s :: R).map (List.drop g))), (letters.take (c.toNat + 1)).filterMap (rowf U e), (graphT (tabAt k e T (c.toNat + 1))).Final, (graphT (tabAt k e T (c.toNat + 1))).Edges, known (tabAt k e T (c.toNat + 1)))) := by
  have hc := c.toNat_lt
  have hg1 : g < 1000 := by
    have h1 := hlong s (by simp)
    have h2 := congrArg List.length hs
    rw [List.length_drop, List.length_cons] at h2
    omega
  generalize hds : (s :: R).map (List.drop g) = ds at hR hne hbe ⊢
  have hdl : ds.length = (s :: R).length := by rw [← hds, List.length_map]
  have hcut := cutN_le (c := c) (ds := ds)
  have hcons : ds = (c :: t) :: R.map (List.drop g) := by rw [← hds, List.map_cons, hs]
  have hcut0 : 0 < cutN c ds := by
    rw [hcons]
    unfold cutN
    rw [List.findIdx_cons]
    simp [hasL]
  rw [dawg_builder_state.b1, if_pos (by simp)]
  rw [show (s :: R)[0]? = some s from rfl, Option.bind_some, idx_nat, drop_head hs, Option.bind_some]
  have hidx : slices_IndexFunc_string_string (s :: R) (fun x0 => dawg_builder_state_1 x0 (g : Int) c) = some (find (fun x => !hasL c (x.drop g)) (s :: R)) := IndexFunc_str (fun x hx => by
    have hm : x.drop g ∈ ds := by rw [← hds]; exact List.mem_map_of_mem hx
    have := hne _ hm
    cases hd : x.drop g with
    | nil => exact absurd hd this
    | cons d u =>
      rw [label_f (drop_head hd)]
      have : hasL c (d :: u) = (d == c) := by unfold hasL; rw [List.head?_cons]; rfl
      rw [this]
      congr 1
      show ((d.toNat : Int) != (c.toNat : Int)) = !(d == c)
      rw [bne, ← lab_eq]) (by omega)
  have hfx : (s :: R).findIdx (fun x => !hasL c (x.drop g)) = cutN c ds := by
    unfold cutN; rw [← hds, findIdx_map]
  rw [hidx, Option.bind_some]
  unfold find
  rw [hfx]
  have hk4 : dawg_builder_state.k4 (dawg_builder_state.r k) (g : Int) (s :: R) ((letters.take c.toNat).filterMap (rowf U e)) (graphT (tabAt k e T c.toNat)).Final (graphT (tabAt k e T c.toNat)).Edges (known (tabAt k e T c.toNat)) c (cutN c ds : Int) = some (.next ((s :: R).drop (cutN c ds), (letters.take (c.toNat + 1)).filterMap (rowf U e), (graphT (tabAt k e T (c.toNat + 1))).Final, (graphT (tabAt k e T (c.toNat + 1))).Edges, known (tabAt k e T (c.toNat + 1)))) := by
    unfold dawg_builder_state.k4
    have hch : cutH (s :: R) (cutN c ds : Int) = some ((s :: R).take (cutN c ds)) := by
      unfold cutH; rw [if_pos (by omega)]; rfl
    have hcl : cutL (s :: R) (cutN c ds : Int) = some ((s :: R).drop (cutN c ds)) := by
      unfold cutL; rw [if_pos (by omega)]; rfl
    have htk : ((s :: R).take (cutN c ds)).map (List.drop (g + 1)) = beh e c := by
      rw [hbe]
      conv => rhs; rw [← List.take_append_drop (cutN c ds) ds]
      rw [beh_app, beh_all cutN_lo, beh_none (l := ds.drop (cutN c ds)) (fun x hx => by
        rw [hcons] at hx
        obtain ⟨d, u, rfl, hd⟩ := cutN_hi (hcons ▸ hR) (fun y hy => hne y (by rw [hcons]; exact List.mem_cons_of_mem _ hy)) x hx
        unfold hasL
        rw [List.head?_cons]
        have : d ≠ c := fun e => by subst e; omega
        simpa using this), List.append_nil, ← hds, ← List.map_take, List.map_map]
      apply List.map_congr_left
      intro x _
      simp [List.tail_drop]
    have hgl := tabAt_good hl hg c.toNat (by omega)
    have hbh : beh e c ≠ [] := by
      intro h
      have : c :: t ∈ e → False := fun hm => by rw [← mem_beh, h] at hm; cases hm
      have : t ∈ beh e c := by rw [hbe, mem_beh, hcons]; simp
      rw [h] at this; cases this
    have hlen := tabAt_len (T := T) hl c.toNat (by omega)
    have hsum := sum_take (e := e) hc
    rw [UInt8.ofNat_toNat] at hsum
    have hpos := List.length_pos_iff.2 hbh
    have hw : wt e c = tot (beh e c) + (beh e c).length := rfl
    have hsub := hk (tabAt k e T c.toNat) ((s :: R).take (cutN c ds)) (g + 1) (fun x hx => by
      have hm : x.drop g ∈ ds := by rw [← hds]; exact List.mem_map_of_mem (List.mem_of_mem_take hx)
      have := hne _ hm
      have : 0 < (x.drop g).length := List.length_pos_iff.2 this
      rw [List.length_drop] at this
      exact ⟨by omega, hlong x (List.mem_of_mem_take hx)⟩) (by rw [htk]; exact hl.beh hbh) hgl (tabAt_all (P := Ri) (fun e c h => h.beh c) hT he _ (by omega)) (by rw [htk]; exact he.beh c) (by rw [List.length_take]; omega) (by rw [htk]; omega)
    rw [htk] at hsub
    have hst : tabAt k e T (c.toNat + 1) = adds k (tabAt k e T c.toNat) (beh e c) := by
      rw [tabAt_succ hc]
      unfold fstep
      rw [UInt8.ofNat_toNat, if_neg hbh]
    have hin := (adds_good k _ _ (hl.beh hbh) hgl).2.1
    obtain ⟨V, hV⟩ := tabAt_grow hl hg (n := c.toNat + 1) (255 - c.toNat) (by omega)
    rw [show c.toNat + 1 + (255 - c.toNat) = 256 by omega, hU, hst] at hV
    have hr : rowf U e c = some ⟨c, ((adds k (tabAt k e T c.toNat) (beh e c)).idxOf (beh e c) : Int)⟩ := by
      unfold rowf; rw [if_neg hbh, hV, idxOf_app hin]
    have hrl : ((letters.take c.toNat).filterMap (rowf U e)).length ≤ 256 := Nat.le_trans (List.length_filterMap_le _ _) (by rw [List.length_take, letters_len]; omega)
    have hla := letters_at hc
    rw [UInt8.ofNat_toNat] at hla
    rw [hch, Option.bind_some]
    rw [show IntKind.i64.wrap ((g : Int) + 1) = ((g + 1 : Nat) : Int) from w64s (by omega)]
    rw [show Int.toNat (cutN c ds : Int) = cutN c ds from rfl]
    have hsub2 : dawg_builder_state.r k ⟨⟨(graphT (tabAt k e T c.toNat)).Final, (graphT (tabAt k e T c.toNat)).Edges⟩, known (tabAt k e T c.toNat)⟩ ((s :: R).take (cutN c ds)) ((g + 1 : Nat) : Int) = _ := hsub
    rw [hsub2, Option.bind_some, room_g (by omega) (by omega), Option.bind_some, hcl, Option.bind_some, hst, take_snoc hla, List.filterMap_append, List.filterMap_cons_some hr]
    rfl
  by_cases hlt : cutN c ds < (s :: R).length
  · rw [if_pos hlt, if_neg (by rw [decide_eq_true_eq]; omega), hk4]
  · rw [if_neg hlt, if_pos (by decide)]
    rw [show (s :: R).length = cutN c ds by omega]
    exact hk4
end Go.Val

/- part P30 -/
/- Plain lemmas: the builder makes the table: its loop, and the whole. -/
namespace Go.Val
set_option linter.unusedVariables false
theorem b_loop {k : Nat} (hk : Maker k) {e : List Str} {T U : List (List Str)} (hl : Low (k + 1) e) (hg : Good T) (hT : ∀ f ∈ T, Ri f) (he : Ri e) (hn : e.length ≤ 1000) (hb : T.length + 1 + tot e ≤ 1000000) (hU : tabAt k e T 256 = U) {g : Nat} (fin : Bool) :
    ∀ (m : Nat) (R : List Str) (n : Nat), R.length ≤ m → R.length ≤ 1000 → (∀ x ∈ R, x.length ≤ 1000) → n ≤ 256 → Ri (R.map (List.drop g)) → (∀ d ∈ R.map (List.drop g), ∃ c t, d = c :: t ∧ n ≤ c.toNat) → (∀ c : UInt8, n ≤ c.toNat → beh e c = beh (R.map (List.drop g)) c) →
      Loop (dawg_builder_state.b1 (dawg_builder_state.r k) (g : Int) fin) (R, (letters.take n).filterMap (rowf U e), (graphT (tabAt k e T n)).Final, (graphT (tabAt k e T n)).Edges, known (tabAt k e T n)) =
        dawg_builder_state.k2 fin (rowOf U e) (graphT U).Final (graphT U).Edges (known U)
  | m, [], n, _, _, _, hn2, hR, hne, hbe => by
    obtain ⟨i1, i2⟩ := tab_skip (k := k) (e := e) (T := T) (n := n) (256 - n) (by omega) fun c h1 _ => by rw [hbe c h1]; rfl
    rw [show n + (256 - n) = 256 by omega] at i1 i2
    rw [← i1, ← i2 U, hU]
    apply Loop_end
    rw [dawg_builder_state.b1, if_neg (by decide)]
    rw [show (letters.take 256).filterMap (rowf U e) = rowOf U e by rw [List.take_of_length_le (by rw [letters_len]; omega)]; rfl]
  | 0, s :: R, n, hm, _, _, hn2, hR, hne, hbe => by simp at hm
  | m + 1, s :: R, n, hm, hRn, hlen, hn2, hR, hne, hbe => by
    obtain ⟨c, t, hs, hnc⟩ := hne (s.drop g) (by simp)
    have hc := c.toNat_lt
    obtain ⟨i1, i2⟩ := tab_skip (k := k) (e := e) (T := T) (n := n) (c.toNat - n) (by omega) fun d h1 h2 => by
      rw [hbe d h1]
      refine beh_none fun x hx => ?_
      obtain ⟨b, u, rfl, _⟩ := hne x hx
      have hcb : c.toNat ≤ b.toNat := by
        rw [List.map_cons, hs] at hR hx
        rcases List.mem_cons.1 hx with q | q
        · injection q with q1 q2; subst q1; exact Nat.le_refl _
        · exact bl_head ((List.pairwise_cons.1 hR).1 _ q)
      unfold hasL
      rw [List.head?_cons]
      have : b ≠ d := fun e => by subst e; omega
      simpa using this
    rw [show n + (c.toNat - n) = c.toNat by omega] at i1 i2
    rw [← i1, ← i2 U]
    have hcut := cutN_le (c := c) (ds := (s :: R).map (List.drop g))
    have hcons : (s :: R).map (List.drop g) = (c :: t) :: R.map (List.drop g) := by rw [List.map_cons, hs]
    have hcut0 : 0 < cutN c ((s :: R).map (List.drop g)) := by
      rw [hcons]
      unfold cutN
      rw [List.findIdx_cons]
      simp [hasL]
    rw [Loop_next (b_step hk hl hg hT he hn hb hU fin hs hR hRn hlen (fun d hd => by obtain ⟨b, u, rfl, _⟩ := hne d hd; simp) (hbe c hnc))]
    have hhi := cutN_hi (hcons ▸ hR) (fun y hy => by
      obtain ⟨b, u, rfl, _⟩ := hne y (by rw [hcons]; exact List.mem_cons_of_mem _ hy)
      simp)
    rw [← hcons] at hhi
    refine b_loop hk hl hg hT he hn hb hU fin m _ (c.toNat + 1) ?_ ?_ (fun x hx => hlen x (List.mem_of_mem_drop hx)) (by omega) ?_ ?_ ?_
    · rw [List.length_drop]; have : (s :: R).length = R.length + 1 := rfl; omega
    · rw [List.length_drop]; omega
    · rw [List.map_drop]; exact List.Pairwise.sublist (List.drop_sublist _ _) hR
    · intro d hd
      rw [List.map_drop] at hd
      obtain ⟨b, u, rfl, hb2⟩ := hhi d hd
      exact ⟨b, u, rfl, hb2⟩
    · intro d hd
      rw [List.map_drop, hbe d (by omega)]
      conv => lhs; rw [← List.take_append_drop (cutN c ((s :: R).map (List.drop g))) ((s :: R).map (List.drop g))]
      rw [beh_app, beh_none (l := List.take _ _) (fun x hx => hasL_lt (cutN_lo x hx) (fun e => by subst e; omega)), List.nil_append]
theorem adds_mem {k : Nat} {T : List (List Str)} {e : List Str} (h : e ∈ T) : adds k T e = T := by
  cases k with
  | zero => rfl
  | succ k => rw [adds_succ, if_pos h]
theorem tabAt_mem {k : Nat} {T : List (List Str)} {e : List Str} (hg : Good T) (h : e ∈ T) : ∀ n, n ≤ 256 → tabAt k e T n = T
  | 0, _ => rfl
  | n + 1, hn => by
    rw [tabAt_succ (by omega), tabAt_mem hg h n (by omega)]
    unfold fstep
    by_cases hc : beh e (UInt8.ofNat n) = []
    · rw [if_pos hc]
    · rw [if_neg hc, adds_mem (hg.mem h _ hc)]
/-- The end of the builder's step, whether the state is known or not. -/
theorem b_end {k : Nat} {e : List Str} {T U : List (List Str)} (hl : Low (k + 1) e) (hg : Good T) (hT : ∀ f ∈ T, Ri f) (he : Ri e) (hb : T.length + 1 + tot e ≤ 1000000) (hU : tabAt k e T 256 = U) :
    dawg_builder_state.k2 (finOf e) (rowOf U e) (graphT U).Final (graphT U).Edges (known U) = some (((adds (k + 1) T e).idxOf e : Int), bOf (adds (k + 1) T e)) := by
  rw [adds_succ]
  by_cases hm : e ∈ T
  · rw [tabAt_mem hg hm 256 (Nat.le_refl _)] at hU
    subst hU
    rw [if_pos hm]
    exact b_k2_has hg (by omega) hT hm
  · rw [if_neg hm, ← tabAt_last, hU]
    have hgU : Good U := by rw [← hU]; exact tabAt_good hl hg 256 (Nat.le_refl _)
    have hrU : ∀ f ∈ U, Ri f := by rw [← hU]; exact tabAt_all (P := Ri) (fun e c h => h.beh c) hT he 256 (Nat.le_refl _)
    have hlen := tabAt_len (T := T) hl 256 (Nat.le_refl _)
    have hsum := wt_sum letters_nodup e
    rw [List.take_of_length_le (by rw [letters_len]; omega : letters.length ≤ 256), hU] at hlen
    have hne : e ∉ U := by
      obtain ⟨V, hV, hV2⟩ := tabAt_low hl hg 256 (Nat.le_refl _)
      rw [← hU, hV]; intro h
      rcases List.mem_append.1 h with h | h
      · exact hm h
      · exact absurd (hV2 e h) (Nat.lt_irrefl _)
    rw [b_k2_new hgU (by omega) hrU hne he fun c hc => by rw [← hU]; exact tabAt_has hl hg c hc]
    rw [List.idxOf_append, if_neg hne]
    simp
theorem maker_all : ∀ k, Maker k
  | 0 => fun T texts g _ hl => by have := hl.1; omega
  | k + 1 => fun T texts g hlen hl hg hT he hn hb => by
    have hk := maker_all k
    rw [dawg_builder_state.r]
    have he1 : (texts.map (List.drop g)).length ≤ 1000 := by rw [List.length_map]; exact hn
    have hfin : (if decide ((texts.length : Int) > 0) = true then (texts[0]?).bind fun s => some ((s.length : Int) == (g : Int)) else some false) = some (finOf (texts.map (List.drop g))) := by
      cases texts with
      | nil => rfl
      | cons s R =>
        rw [if_pos (by simp), show (s :: R)[0]? = some s from rfl, Option.bind_some]
        congr 1
        have := (hlen s (by simp)).1
        unfold finOf
        rw [List.map_cons, List.head?_cons]
        by_cases h : s.length = g
        · have hd : s.drop g = [] := List.drop_eq_nil_of_le (by omega)
          rw [hd, h]; simp
        · have hd : s.drop g ≠ [] := fun h2 => h (by have := List.drop_eq_nil_iff.1 h2; omega)
          rw [beq_eq_false_iff_ne.2 (by omega)]
          cases hd2 : s.drop g with
          | nil => exact absurd hd2 hd
          | cons c t => rfl
    rw [hfin, Option.bind_some]
    have h0 : tabAt k (texts.map (List.drop g)) T 0 = T := rfl
    cases texts with
    | nil =>
      have h1 := b_loop hk hl hg hT he he1 hb rfl (g := g) (finOf (([] : List Str).map (List.drop g))) 0 [] 0 (by simp) (by simp) (fun x hx => by cases hx) (by omega) List.Pairwise.nil (fun d hd => by cases hd) (fun c _ => rfl)
      rw [h0] at h1
      have hf : ¬ finOf (([] : List Str).map (List.drop g)) = true := by show ¬ (false = true); exact Bool.false_ne_true
      rw [if_neg hf]
      unfold dawg_builder_state.k1
      refine Eq.trans h1 (b_end hl hg hT he hb rfl)
    | cons s R =>
      by_cases hs : s.drop g = []
      · have hf : finOf ((s :: R).map (List.drop g)) = true := by rw [List.map_cons, hs]; rfl
        have hR := List.pairwise_cons.1 (by rw [List.map_cons, hs] at he; exact he : List.Pairwise (fun a b => Op.bytesLess a b = true) ([] :: R.map (List.drop g)))
        have h1 := b_loop hk hl hg hT he he1 hb rfl (g := g) true R.length R 0 (Nat.le_refl _) (by simp at hn; omega) (fun x hx => (hlen x (by simp [hx])).2) (by omega) hR.2 (fun d hd => by
          have := hR.1 d hd
          cases d with
          | nil => simp [Op.bytesLess] at this
          | cons c t => exact ⟨c, t, rfl, Nat.zero_le _⟩) (fun c _ => by
          rw [List.map_cons, hs, show (([] : Str) :: R.map (List.drop g)) = [[]] ++ R.map (List.drop g) from rfl, beh_app]
          rfl)
        rw [h0] at h1
        rw [hf, if_pos rfl]
        have hcl : cutL (s :: R) (1 : Int) = some R := by unfold cutL; rw [if_pos (by simp; omega)]; rfl
        rw [hcl, Option.bind_some]
        unfold dawg_builder_state.k1
        have h2 := b_end hl hg hT he hb rfl
        rw [hf] at h2
        exact Eq.trans h1 h2
      · have hf : finOf ((s :: R).map (List.drop g)) = false := by
          rw [List.map_cons]
          unfold finOf
          rw [List.head?_cons]
          cases hd : s.drop g with
          | nil => exact absurd hd hs
          | cons c t => rfl
        obtain ⟨c, t, hct⟩ : ∃ c t, s.drop g = c :: t := by
          cases hd : s.drop g with
          | nil => exact absurd hd hs
          | cons c t => exact ⟨c, t, rfl⟩
        have h1 := b_loop hk hl hg hT he he1 hb rfl (g := g) false (s :: R).length (s :: R) 0 (Nat.le_refl _) hn (fun x hx => (hlen x hx).2) (by omega) he (fun d hd => by
          rw [List.map_cons, hct] at he hd
          rcases List.mem_cons.1 hd with rfl | hd
          · exact ⟨c, t, rfl, Nat.zero_le _⟩
          · have := (List.pairwise_cons.1 he).1 d hd
            cases d with
            | nil => simp [Op.bytesLess] at this
            | cons b u => exact ⟨b, u, rfl, Nat.zero_le _⟩) (fun c _ => rfl)
        rw [h0] at h1
        rw [hf, if_neg (by decide)]
        unfold dawg_builder_state.k1
        have h2 := b_end hl hg hT he hb rfl
        rw [hf] at h2
        exact Eq.trans h1 h2
end Go.Val

/- part P31 -/
/- Plain lemmas: DawgBuilds. -/
namespace Go.Val
set_option linter.unusedVariables false
theorem adds_fuel : ∀ (k : Nat) (T : List (List Str)) (e : List Str), Low k e → adds (k + 1) T e = adds k T e
  | 0, T, e, hl => by have := hl.1; omega
  | k + 1, T, e, hl => by
    rw [adds_succ, adds_succ]
    have fold : ∀ (cs : List UInt8) (T : List (List Str)), cs.foldl (fstep (k + 1) e) T = cs.foldl (fstep k e) T := by
      intro cs
      induction cs with
      | nil => intro T; rfl
      | cons c cs ih =>
        intro T
        rw [List.foldl_cons, List.foldl_cons]
        have : fstep (k + 1) e T c = fstep k e T c := by
          unfold fstep
          by_cases hc : beh e c = []
          · rw [if_pos hc, if_pos hc]
          · rw [if_neg hc, if_neg hc, adds_fuel k T _ (hl.beh hc)]
        rw [this, ih]
    rw [fold]
theorem adds_fuels {k : Nat} {T : List (List Str)} {e : List Str} (hl : Low k e) : ∀ d, adds (k + d) T e = adds k T e
  | 0 => rfl
  | d + 1 => by rw [← Nat.add_assoc, adds_fuel _ _ _ ⟨by have := hl.1; omega, fun s hs => by have := hl.2 s hs; omega⟩, adds_fuels hl d]
/-- The table of a list of words. -/
def tabW (l : List Str) : List (List Str) := adds 65 [] l
theorem lenOk_iff {s : Str} : lenOk s = true ↔ 1 ≤ s.length ∧ s.length ≤ 64 := by
  unfold lenOk
  simp
  omega
theorem RiseP.low {l : List Str} (h : RiseP l) {k : Nat} (hk : 65 ≤ k) : Low k l := ⟨by omega, fun s hs => by have := (lenOk_iff.1 (h.1 s hs)).2; omega⟩
theorem tot_le {l : List Str} {n : Nat} (h : ∀ s ∈ l, s.length ≤ n) : tot l ≤ l.length * n := by
  induction l with
  | nil => simp [tot]
  | cons s l ih =>
    have h1 := ih fun x hx => h x (by simp [hx])
    have h2 := h s (by simp)
    unfold tot at h1 ⊢
    rw [List.map_cons, List.sum_cons, List.length_cons, Nat.succ_mul]
    omega
theorem RiseP.tot {l : List Str} (h : RiseP l) (hl : l.length ≤ 100) : Go.Val.tot l ≤ 6400 := by
  have := tot_le (l := l) (n := 64) fun s hs => (lenOk_iff.1 (h.1 s hs)).2
  have h2 : l.length * 64 ≤ 100 * 64 := Nat.mul_le_mul_right _ hl
  omega
theorem good_nil : Good [] := ⟨List.nodup_nil, fun i e h => by simp at h⟩
theorem Build_eq {l : List Str} (h : RiseP l) (hl : l.length ≤ 100) : dawg_Build l = some (graphT (tabW l), 0) := by
  unfold dawg_Build
  rw [(dawg_rise_eq (by omega)).1 h, Option.bind_some, if_neg (by decide)]
  have hm : l.map (List.drop 0) = l := by rw [show (List.drop 0 : Str → Str) = id from funext fun s => rfl, List.map_id]
  have ht := h.tot hl
  have hs : dawg_builder_state ⟨⟨[], []⟩, []⟩ l 0 = some (((tabW l).idxOf l : Int), bOf (tabW l)) := lim_eq 65 fun k hk => by
    obtain ⟨d, rfl⟩ : ∃ d, k = 65 + d := ⟨k - 65, by omega⟩
    have := maker_all (65 + d) [] l 0 (fun s hs => ⟨Nat.zero_le _, by have := (lenOk_iff.1 (h.1 s hs)).2; omega⟩) (by rw [hm]; exact h.low (by omega)) good_nil (fun f hf => by cases hf) (by rw [hm]; exact h.ri) (by omega) (by rw [hm]; simp; omega)
    rw [hm, adds_fuels (h.low (Nat.le_refl _))] at this
    exact this
  rw [hs, Option.bind_some]
  rfl
theorem refBuild_eq {l : List Str} (h : RiseP l) (hl : l.length ≤ 100) : scansionref17_Build l = some (graphT (tabW l), 0) := by
  unfold scansionref17_Build
  rw [(ref_right_eq (by omega)).1 h, Option.bind_some, if_neg (by decide)]
  have ht := h.tot hl
  have hs : scansionref17_maker_state ⟨⟨[], []⟩, []⟩ l = some (((tabW l).idxOf l : Int), mkOf (tabW l)) := lim_eq 65 fun k hk => by
    obtain ⟨d, rfl⟩ : ∃ d, k = 65 + d := ⟨k - 65, by omega⟩
    have := maker_run (65 + d) [] l (h.low (by omega)) good_nil (fun f hf => by cases hf) (fun s hs => by have := (lenOk_iff.1 (h.1 s hs)).2; omega) (by omega) (by simp; omega)
    rw [adds_fuels (h.low (Nat.le_refl _))] at this
    exact this
  rw [hs, Option.bind_some]
  rfl
end Go.Val

/- part P32 -/
/- Plain lemmas: a rising list, letter by letter. -/
namespace Go.Val
set_option linter.unusedVariables false
theorem letters_rise : List.Pairwise (fun a b : UInt8 => a.toNat < b.toNat) letters := by
  unfold letters
  rw [List.pairwise_map]
  refine List.Pairwise.imp_of_mem (fun {a b} ha hb hab => ?_) List.pairwise_lt_range
  have ha := List.mem_range.1 ha
  have hb := List.mem_range.1 hb
  simp
  omega
def grp (e : List Str) (c : UInt8) : List Str := (beh e c).map (c :: ·)
theorem Ri.parts {e : List Str} (h : Ri e) : e = (if finOf e then [[]] else []) ++ letters.flatMap (grp e) := by
  refine h.ext ?_ fun s => ?_
  · unfold Ri
    rw [List.pairwise_append]
    refine ⟨by split <;> simp, ?_, ?_⟩
    · rw [List.pairwise_flatMap]
      refine ⟨fun c _ => ?_, ?_⟩
      · unfold grp
        rw [List.pairwise_map]
        exact List.Pairwise.imp (fun {a b} hab => by rw [bl_cons]; exact hab) (h.beh c)
      · refine List.Pairwise.imp (fun {c d} hcd x hx y hy => ?_) letters_rise
        unfold grp at hx hy
        obtain ⟨a, _, rfl⟩ := List.mem_map.1 hx
        obtain ⟨b, _, rfl⟩ := List.mem_map.1 hy
        simp only [Op.bytesLess, Bool.or_eq_true, decide_eq_true_eq]
        left; rw [UInt8.lt_iff_toNat_lt]; exact hcd
    · intro x hx y hy
      have hx0 : x = [] := by
        split at hx
        · simpa using hx
        · cases hx
      subst hx0
      obtain ⟨c, _, hy⟩ := List.mem_flatMap.1 hy
      unfold grp at hy
      obtain ⟨b, _, rfl⟩ := List.mem_map.1 hy
      rfl
  · rw [List.mem_append, List.mem_flatMap]
    cases s with
    | nil =>
      rw [← h.fin]
      constructor
      · intro hf; left; rw [hf]; simp
      · rintro (hf | ⟨c, _, hc⟩)
        · split at hf
          · assumption
          · cases hf
        · unfold grp at hc
          obtain ⟨b, _, hb⟩ := List.mem_map.1 hc
          cases hb
    | cons c t =>
      rw [← mem_beh]
      constructor
      · intro hm; right; exact ⟨c, letters_mem c, List.mem_map.2 ⟨t, hm, rfl⟩⟩
      · rintro (hf | ⟨d, _, hd⟩)
        · split at hf
          · simp at hf
          · cases hf
        · unfold grp at hd
          obtain ⟨b, hb, hb2⟩ := List.mem_map.1 hd
          injection hb2 with q1 q2
          subst q1; subst q2; exact hb
theorem map_sum_congr {α : Type} {f g : α → Nat} : ∀ {l : List α}, (∀ x ∈ l, f x = g x) → (l.map f).sum = (l.map g).sum
  | [], _ => rfl
  | x :: l, h => by rw [List.map_cons, List.map_cons, List.sum_cons, List.sum_cons, h x (by simp), map_sum_congr fun y hy => h y (by simp [hy])]
theorem Ri.len {e : List Str} (h : Ri e) : e.length = (if finOf e then 1 else 0) + (letters.map fun c => (Go.Val.beh e c).length).sum := by
  have := congrArg List.length h.parts
  rw [List.length_append, List.length_flatMap] at this
  have h2 : (letters.map fun c => (grp e c).length).sum = (letters.map fun c => (Go.Val.beh e c).length).sum := map_sum_congr fun c _ => by unfold grp; rw [List.length_map]
  have h3 : (if finOf e = true then [[]] else ([] : List Str)).length = if finOf e then 1 else 0 := by split <;> rfl
  rw [h3] at this
  rw [← h2]
  exact this
end Go.Val

/- part P33 -/
/- Plain lemmas: the graph of a table: its steps, and what it has. -/
namespace Go.Val
set_option linter.unusedVariables false
theorem idxOf_take {α : Type} [BEq α] [LawfulBEq α] {l : List α} {x : α} {i : Nat} (h : x ∈ l.take i) : l.idxOf x < i := by
  conv => lhs; rw [← List.take_append_drop i l]
  rw [idxOf_app h]
  have := List.idxOf_lt_length_iff.2 h
  rw [List.length_take] at this; omega
theorem Good.low {T : List (List Str)} (hg : Good T) {i : Nat} {e : List Str} (h : T[i]? = some e) {c : UInt8} (hc : Go.Val.beh e c ≠ []) : T.idxOf (Go.Val.beh e c) < i := idxOf_take (hg.beh i e h c hc)
theorem Good.idx {T : List (List Str)} (hg : Good T) {i : Nat} {e : List Str} (h : T[i]? = some e) : T.idxOf e = i := by
  have hlt := (List.getElem?_eq_some_iff.1 h).1
  have he := (List.getElem?_eq_some_iff.1 h).2
  have hm : e ∈ T := List.mem_of_getElem? h
  have h1 := List.idxOf_lt_length_iff.2 hm
  exact (List.getElem?_inj h1 hg.nodup).1 (by rw [List.getElem?_eq_getElem h1, List.getElem_idxOf, h])
theorem at_find {α : Type} {p : α → Bool} : ∀ {xs : List α}, xs[xs.findIdx p]? = xs.find? p
  | [] => rfl
  | x :: xs => by
    rw [List.findIdx_cons, List.find?_cons]
    cases p x with
    | true => rfl
    | false => exact at_find
end Go.Val

/- part P40 -/
/- Plain lemmas: cells of an array. -/
namespace Go.Val
set_option linter.unusedVariables false
def zC : Tdarray_cell := ⟨0, 0⟩
def lk (cells : List Tdarray_cell) (i : Nat) : Tdarray_cell := cells.getD i zC
theorem lk_ge {cells : List Tdarray_cell} {i : Nat} (h : cells.length ≤ i) : lk cells i = zC := by
  unfold lk; rw [List.getD_eq_getElem?_getD, List.getElem?_eq_none h]; rfl
theorem lk_at {cells : List Tdarray_cell} {i : Nat} {c : Tdarray_cell} (h : cells[i]? = some c) : lk cells i = c := by
  unfold lk; rw [List.getD_eq_getElem?_getD, h]; rfl
theorem lk_some {cells : List Tdarray_cell} {i : Nat} (h : i < cells.length) : cells[i]? = some (lk cells i) := by
  have := List.getElem?_eq_getElem h
  rw [this, lk_at this]
theorem lk_ext {cells : List Tdarray_cell} {n i : Nat} : lk (cells ++ List.replicate n zC) i = lk cells i := by
  by_cases h : i < cells.length
  · unfold lk
    rw [List.getD_eq_getElem?_getD, List.getD_eq_getElem?_getD, List.getElem?_append_left h]
  · rw [lk_ge (cells := cells) (by omega)]
    unfold lk
    rw [List.getD_eq_getElem?_getD, List.getElem?_append_right (by omega), List.getElem?_replicate]
    split <;> rfl
theorem lk_set {cells : List Tdarray_cell} {a i : Nat} {c : Tdarray_cell} (h : a < cells.length) : lk (cells.set a c) i = if i = a then c else lk cells i := by
  unfold lk
  rw [List.getD_eq_getElem?_getD, List.getD_eq_getElem?_getD, List.getElem?_set]
  by_cases e : a = i
  · subst e; rw [if_pos rfl, if_pos h, if_pos rfl]; rfl
  · rw [if_neg e, if_neg (fun h => e h.symm)]
/-- How many cells are taken. -/
def nz (cells : List Tdarray_cell) : Nat := cells.countP fun c => !(decide (c = zC))
theorem nz_ext {cells : List Tdarray_cell} {n : Nat} : nz (cells ++ List.replicate n zC) = nz cells := by
  unfold nz
  rw [List.countP_append]
  have : (List.replicate n zC).countP (fun c => !(decide (c = zC))) = 0 := by
    rw [List.countP_eq_zero]
    intro c hc
    rw [List.eq_of_mem_replicate hc]; simp
  omega
theorem nz_set {cells : List Tdarray_cell} {a : Nat} {c : Tdarray_cell} (h : a < cells.length) (h0 : lk cells a = zC) (hc : c ≠ zC) : nz (cells.set a c) = nz cells + 1 := by
  have hx : cells[a]? = some zC := by rw [lk_some h, h0]
  have hx2 : cells[a] = zC := (List.getElem?_eq_some_iff.1 hx).2
  unfold nz
  have e1 : cells = cells.take a ++ zC :: cells.drop (a + 1) := by
    conv => lhs; rw [← List.take_append_drop a cells, List.drop_eq_getElem_cons h, hx2]
  rw [List.set_eq_take_append_cons_drop, if_pos h]
  conv => rhs; rw [e1]
  rw [List.countP_append, List.countP_append, List.countP_cons, List.countP_cons]
  simp [hc]; omega
/-! ### first fit -/
def freeAt (cells : List Tdarray_cell) (l : List TEdge) (b : Nat) : Prop := ∀ x ∈ l, lk cells (b + x.Label.toNat) = zC
theorem free_end {cells : List Tdarray_cell} {l : List TEdge} : freeAt cells l cells.length := fun x _ => lk_ge (by omega)
theorem first_free (cells : List Tdarray_cell) (l : List TEdge) : ∃ b, b ≤ cells.length ∧ freeAt cells l b ∧ ∀ j, j < b → ¬ freeAt cells l j := by
  have key : ∀ n, n ≤ cells.length → (∃ b, b ≤ n ∧ freeAt cells l b ∧ ∀ j, j < b → ¬ freeAt cells l j) ∨ ∀ j, j ≤ n → ¬ freeAt cells l j := by
    intro n
    induction n with
    | zero =>
      intro _
      by_cases h : freeAt cells l 0
      · exact .inl ⟨0, Nat.le_refl _, h, fun j hj => by omega⟩
      · exact .inr fun j hj => by obtain rfl : j = 0 := by omega
                                  exact h
    | succ n ih =>
      intro hn
      rcases ih (by omega) with ⟨b, h1, h2⟩ | h
      · exact .inl ⟨b, by omega, h2⟩
      · by_cases hf : freeAt cells l (n + 1)
        · exact .inl ⟨n + 1, Nat.le_refl _, hf, fun j hj => h j (by omega)⟩
        · exact .inr fun j hj => by
            by_cases e : j = n + 1
            · subst e; exact hf
            · exact h j (by omega)
  rcases key cells.length (Nat.le_refl _) with ⟨b, h1, h2⟩ | h
  · exact ⟨b, h1, h2⟩
  · exact absurd free_end (h _ (Nat.le_refl _))
theorem wlab {c : UInt8} : IntKind.i64.wrap (c.toNat : Int) = (c.toNat : Int) := by have := c.toNat_lt; rw [w64 (by omega) (by omega)]
theorem fits_eq {A : Tdarray_Array} {b : Nat} {l : List TEdge} (hb : b ≤ 1000000) (hl : l.length ≤ 1000000) : (freeAt A.cells l b → darray_Array_fits A (b : Int) l = some true) ∧ (¬ freeAt A.cells l b → darray_Array_fits A (b : Int) l = some false) := by
  have hf : ∀ x ∈ l, darray_Array_fits_1 x (b : Int) A = some (!(decide (lk A.cells (b + x.Label.toNat) = zC))) := fun x _ => by
    have hx := x.Label.toNat_lt
    unfold darray_Array_fits_1
    rw [wlab, w64 (by omega) (by omega)]
    by_cases h : b + x.Label.toNat < A.cells.length
    · rw [if_pos (by rw [decide_eq_true_eq]; omega), show (b : Int) + (x.Label.toNat : Int) = ((b + x.Label.toNat : Nat) : Int) by omega, idx_nat, lk_some h, Option.bind_some, Option.bind_some]
      congr 2
      rw [Bool.eq_iff_iff, Bool.and_eq_true, Bool.and_eq_true, beq_iff_eq, beq_iff_eq, decide_eq_true_eq]
      generalize lk A.cells (b + x.Label.toNat) = c
      obtain ⟨o, t⟩ := c
      unfold zC
      simp
    · rw [if_neg (by rw [decide_eq_true_eq]; omega), Option.bind_some, lk_ge (by omega)]
      simp
  unfold darray_Array_fits slices_ContainsFunc_api_Edge_api_Edge
  rw [IndexFunc_edge hf (by omega), Option.bind_some, find_nonneg, Option.bind_some]
  refine ⟨fun h => ?_, fun h => ?_⟩
  · have : (l.any fun x => !(decide (lk A.cells (b + x.Label.toNat) = zC))) = false := by
      rw [List.any_eq_false]; intro x hx; rw [h x hx]; simp
    rw [this]; rfl
  · have : (l.any fun x => !(decide (lk A.cells (b + x.Label.toNat) = zC))) = true := by
      refine Classical.byContradiction fun hc => h fun x hx => ?_
      rw [Bool.not_eq_true, List.any_eq_false] at hc
      have := hc x hx
      simpa using this
    rw [this]; rfl
end Go.Val

/- part P41 -/
/- Plain lemmas: the rows of a graph are laid. -/
namespace Go.Val
set_option linter.unusedVariables false
noncomputable section
def ff (cells : List Tdarray_cell) (l : List TEdge) : Nat := (first_free cells l).choose
theorem ff_le (cells : List Tdarray_cell) (l : List TEdge) : ff cells l ≤ cells.length := (first_free cells l).choose_spec.1
theorem ff_free (cells : List Tdarray_cell) (l : List TEdge) : freeAt cells l (ff cells l) := (first_free cells l).choose_spec.2.1
theorem ff_first (cells : List Tdarray_cell) (l : List TEdge) : ∀ j, j < ff cells l → ¬ freeAt cells l j := (first_free cells l).choose_spec.2.2
def putE (s b : Nat) (cells : List Tdarray_cell) (x : TEdge) : List Tdarray_cell :=
  (if b + x.Label.toNat ≥ cells.length then cells ++ List.replicate (b + x.Label.toNat + 1 - cells.length) zC else cells).set (b + x.Label.toNat) ⟨(s : Int) + 1, x.To⟩
theorem putE_lk {s b : Nat} {cells : List Tdarray_cell} {x : TEdge} {i : Nat} : lk (putE s b cells x) i = if i = b + x.Label.toNat then ⟨(s : Int) + 1, x.To⟩ else lk cells i := by
  unfold putE
  by_cases h : b + x.Label.toNat ≥ cells.length
  · rw [if_pos h, lk_set (by simp; omega), lk_ext]
  · rw [if_neg h, lk_set (by omega)]
theorem putE_len {s b : Nat} {cells : List Tdarray_cell} {x : TEdge} : (putE s b cells x).length = max cells.length (b + x.Label.toNat + 1) := by
  unfold putE
  rw [List.length_set]
  by_cases h : b + x.Label.toNat ≥ cells.length
  · rw [if_pos h, List.length_append, List.length_replicate]; omega
  · rw [if_neg h]; omega
theorem putE_nz {s b : Nat} {cells : List Tdarray_cell} {x : TEdge} (h0 : lk cells (b + x.Label.toNat) = zC) : nz (putE s b cells x) = nz cells + 1 := by
  have hc : (⟨(s : Int) + 1, x.To⟩ : Tdarray_cell) ≠ zC := fun e => by
    have := congrArg Tdarray_cell.of e
    simp [zC] at this; omega
  unfold putE
  by_cases h : b + x.Label.toNat ≥ cells.length
  · rw [if_pos h, nz_set (by simp; omega) (by rw [lk_ext]; exact h0) hc, nz_ext]
  · rw [if_neg h, nz_set (by omega) h0 hc]
theorem puts_lk {s b : Nat} {cells : List Tdarray_cell} {i : Nat} : ∀ {l : List TEdge}, (l.Pairwise fun x y => x.Label.toNat < y.Label.toNat) → (lk (l.foldl (putE s b) cells) i = lk cells i ∧ ∀ x ∈ l, i ≠ b + x.Label.toNat) ∨ ∃ x ∈ l, i = b + x.Label.toNat ∧ lk (l.foldl (putE s b) cells) i = ⟨(s : Int) + 1, x.To⟩ := by
  intro l
  induction l using snoc_ind with
  | h0 => intro _; exact .inl ⟨rfl, fun x hx => by cases hx⟩
  | h1 l y ih =>
    intro hp
    rw [List.pairwise_append] at hp
    have e : (l ++ [y]).foldl (putE s b) cells = putE s b (l.foldl (putE s b) cells) y := by rw [List.foldl_append]; rfl
    rw [e, putE_lk]
    by_cases hi : i = b + y.Label.toNat
    · rw [if_pos hi]; exact .inr ⟨y, by simp, hi, rfl⟩
    · rw [if_neg hi]
      rcases ih hp.1 with ⟨h1, h2⟩ | ⟨x, h1, h2, h3⟩
      · exact .inl ⟨h1, fun x hx => by
          rcases List.mem_append.1 hx with hx | hx
          · exact h2 x hx
          · rw [List.mem_singleton] at hx; subst hx; exact hi⟩
      · exact .inr ⟨x, List.mem_append_left _ h1, h2, h3⟩
theorem puts_len {s b : Nat} {cells : List Tdarray_cell} : ∀ {l : List TEdge}, cells.length ≤ (l.foldl (putE s b) cells).length ∧ (l.foldl (putE s b) cells).length ≤ max cells.length (b + 256) := by
  intro l
  induction l using snoc_ind with
  | h0 => exact ⟨Nat.le_refl _, by simp; omega⟩
  | h1 l y ih =>
    have e : (l ++ [y]).foldl (putE s b) cells = putE s b (l.foldl (putE s b) cells) y := by rw [List.foldl_append]; rfl
    have := y.Label.toNat_lt
    rw [e, putE_len]; omega
theorem puts_nz {s b : Nat} {cells : List Tdarray_cell} : ∀ {l : List TEdge}, (l.Pairwise fun x y => x.Label.toNat < y.Label.toNat) → freeAt cells l b → nz (l.foldl (putE s b) cells) = nz cells + l.length := by
  intro l
  induction l using snoc_ind with
  | h0 => intro _ _; rfl
  | h1 l y ih =>
    intro hp hf
    have hp' := hp
    rw [List.pairwise_append] at hp
    have e : (l ++ [y]).foldl (putE s b) cells = putE s b (l.foldl (putE s b) cells) y := by rw [List.foldl_append]; rfl
    rw [e, putE_nz, ih hp.1 (fun x hx => hf x (List.mem_append_left _ hx)), List.length_append, List.length_singleton]
    · omega
    · rcases puts_lk (s := s) (b := b) (cells := cells) (i := b + y.Label.toNat) hp.1 with ⟨h1, h2⟩ | ⟨x, h1, h2, h3⟩
      · rw [h1]; exact hf y (by simp)
      · have := hp.2.2 x h1 y (by simp)
        omega
/-- The bases and the cells after so many rows. -/
def packN (rows : List (List TEdge)) : Nat → List Int × List Tdarray_cell
  | 0 => ([], [])
  | k + 1 => ((packN rows k).1 ++ [(ff (packN rows k).2 (rows.getD k []) : Int)], (rows.getD k []).foldl (putE k (ff (packN rows k).2 (rows.getD k []))) (packN rows k).2)
def full (rows : List (List TEdge)) : Nat → Nat
  | 0 => 0
  | k + 1 => full rows k + if rows.getD k [] = [] then 0 else 1
def many (rows : List (List TEdge)) : Nat → Nat
  | 0 => 0
  | k + 1 => many rows k + (rows.getD k []).length
theorem full_le (rows : List (List TEdge)) : ∀ k, full rows k ≤ k ∧ full rows k ≤ many rows k
  | 0 => by simp [full, many]
  | k + 1 => by
    have ih := full_le rows k
    unfold full many
    by_cases h : rows.getD k [] = []
    · rw [if_pos h, h]; simp; omega
    · have := List.length_pos_iff.2 h
      rw [if_neg h]; omega
def Rises (rows : List (List TEdge)) : Prop := ∀ k, (rows.getD k []).Pairwise fun x y => x.Label.toNat < y.Label.toNat
structure PInv (rows : List (List TEdge)) (k : Nat) (bs : List Int) (cs : List Tdarray_cell) : Prop where
  len : bs.length = k
  from_ : ∀ i, lk cs i = zC ∨ ∃ (s : Nat) (x : TEdge) (b : Nat), s < k ∧ x ∈ rows.getD s [] ∧ bs[s]? = some (b : Int) ∧ i = b + x.Label.toNat ∧ lk cs i = ⟨(s : Int) + 1, x.To⟩
  has : ∀ s x, s < k → x ∈ rows.getD s [] → ∃ b : Nat, bs[s]? = some (b : Int) ∧ lk cs (b + x.Label.toNat) = ⟨(s : Int) + 1, x.To⟩
  base : ∀ (s : Nat), s < k → ∃ b : Nat, bs[s]? = some (b : Int) ∧ b ≤ 256 * k
  size : cs.length ≤ 256 * full rows k
  taken : nz cs = many rows k
theorem packN_inv {rows : List (List TEdge)} (hr : Rises rows) : ∀ k, PInv rows k (packN rows k).1 (packN rows k).2
  | 0 => ⟨rfl, fun i => .inl (lk_ge (Nat.zero_le _)), fun s x h => by omega, fun s h => by omega, by simp [packN, full], rfl⟩
  | k + 1 => by
    have ih := packN_inv hr k
    have hl := hr k
    generalize hbs : (packN rows k).1 = bs at ih
    generalize hcs : (packN rows k).2 = cs at ih
    have e : packN rows (k + 1) = (bs ++ [(ff cs (rows.getD k []) : Int)], (rows.getD k []).foldl (putE k (ff cs (rows.getD k []))) cs) := by
      rw [packN, hbs, hcs]
    rw [e]
    have hff := ff_le cs (rows.getD k [])
    have hfree := ff_free cs (rows.getD k [])
    have hfull := full_le rows k
    generalize ff cs (rows.getD k []) = b at hff hfree ⊢
    have hat : (bs ++ [(b : Int)])[k]? = some (b : Int) := by rw [← ih.len]; simp
    have hold : ∀ s, s < k → (bs ++ [(b : Int)])[s]? = bs[s]? := fun s hs => List.getElem?_append_left (by rw [ih.len]; exact hs)
    refine ⟨by simp [ih.len], fun i => ?_, fun s x hs hx => ?_, fun s hs => ?_, ?_, ?_⟩
    · rcases puts_lk (s := k) (b := b) (cells := cs) (i := i) hl with ⟨h1, h2⟩ | ⟨x, h1, h2, h3⟩
      · rw [h1]
        rcases ih.from_ i with h | ⟨s, x, b', g1, g2, g3, g4, g5⟩
        · exact .inl h
        · exact .inr ⟨s, x, b', by omega, g2, by rw [hold s g1]; exact g3, g4, g5⟩
      · exact .inr ⟨k, x, b, by omega, h1, hat, h2, h3⟩
    · by_cases hk : s = k
      · subst hk
        refine ⟨b, hat, ?_⟩
        rcases puts_lk (s := s) (b := b) (cells := cs) (i := b + x.Label.toNat) hl with ⟨h1, h2⟩ | ⟨y, h1, h2, h3⟩
        · exact absurd rfl (h2 x hx)
        · rw [h3]
          obtain ⟨p, hp, rfl⟩ := List.getElem_of_mem hx
          obtain ⟨q, hq, rfl⟩ := List.getElem_of_mem h1
          have hpw := List.pairwise_iff_getElem.1 hl
          by_cases hpq : p = q
          · subst hpq; rfl
          · by_cases hlt : p < q
            · have := hpw p q hp hq hlt; omega
            · have := hpw q p hq hp (by omega); omega
      · obtain ⟨b', g1, g2⟩ := ih.has s x (by omega) hx
        refine ⟨b', by rw [hold s (by omega)]; exact g1, ?_⟩
        rcases puts_lk (s := k) (b := b) (cells := cs) (i := b' + x.Label.toNat) hl with ⟨h1, h2⟩ | ⟨y, h1, h2, h3⟩
        · rw [h1, g2]
        · have := hfree y h1
          rw [← h2, g2] at this
          have := congrArg Tdarray_cell.of this
          simp [zC] at this; omega
    · by_cases hk : s = k
      · subst hk; exact ⟨b, hat, by have := ih.size; omega⟩
      · obtain ⟨b', g1, g2⟩ := ih.base s (by omega)
        exact ⟨b', by rw [hold s (by omega)]; exact g1, by omega⟩
    · have h1 := puts_len (s := k) (b := b) (cells := cs) (l := rows.getD k [])
      have h2 := ih.size
      unfold full
      by_cases h : rows.getD k [] = []
      · rw [if_pos h, h]; simp; exact h2
      · rw [if_neg h]
        show ((rows.getD k []).foldl (putE k b) cs).length ≤ _
        omega
    · rw [puts_nz hl hfree, ih.taken]; rfl
end
end Go.Val

/- part P42 -/
/- Plain lemmas: Pack. -/
namespace Go.Val
set_option linter.unusedVariables false
theorem getD_row {g : TGraph} {s : Nat} {xs : List TEdge} (h : g.Edges[s]? = some xs) : g.Edges.getD s [] = xs := by rw [List.getD_eq_getElem?_getD, h]; rfl
theorem right_rises {g : TGraph} (hr : RightP g) : Rises g.Edges := fun k => by
  rw [List.getD_eq_getElem?_getD]
  cases h : g.Edges[k]? with
  | none => exact List.Pairwise.nil
  | some xs =>
    have hlt := (List.getElem?_eq_some_iff.1 h).1
    have hrow := hr.rows k hlt xs h
    show List.Pairwise _ xs
    rw [List.pairwise_iff_getElem]
    have key : ∀ d i (hi : i + d + 1 < xs.length), xs[i].Label.toNat < xs[i + d + 1].Label.toNat := by
      intro d
      induction d with
      | zero => intro i hi; exact (hrow (i + 1) hi xs[i + 1] (List.getElem?_eq_getElem hi)).2.2 (by omega) xs[i] (by rw [Nat.add_sub_cancel]; exact List.getElem?_eq_getElem _)
      | succ d ih =>
        intro i hi
        have h1 := ih i (by omega)
        have h2 := (hrow (i + d + 1 + 1) hi xs[i + d + 1 + 1] (List.getElem?_eq_getElem hi)).2.2 (by omega) xs[i + d + 1] (by rw [Nat.add_sub_cancel]; exact List.getElem?_eq_getElem _)
        simp only [show i + (d + 1) + 1 = i + d + 1 + 1 by omega]
        omega
    intro i j hi hj hij
    have := key (j - i - 1) i (by omega)
    simp only [show i + (j - i - 1) + 1 = j by omega] at this
    exact this
theorem rise_256 {xs : List TEdge} (h : xs.Pairwise fun x y => x.Label.toNat < y.Label.toNat) : xs.length ≤ 256 := by
  have hp := List.pairwise_iff_getElem.1 h
  have key : ∀ i (hi : i < xs.length), i ≤ xs[i].Label.toNat := by
    intro i
    induction i with
    | zero => intro _; omega
    | succ i ih => intro hi; have := ih (by omega); have := hp i (i + 1) (by omega) hi (by omega); omega
  by_cases h0 : xs.length = 0
  · omega
  · have h1 := key (xs.length - 1) (by omega)
    have h2 := (xs[xs.length - 1]'(by omega)).Label.toNat_lt
    omega
theorem many_le {rows : List (List TEdge)} (h : Rises rows) : ∀ k, many rows k ≤ 256 * k
  | 0 => by simp [many]
  | k + 1 => by have := many_le h k; have := rise_256 (h k); unfold many; omega
noncomputable section
def arrOf (g : TGraph) : Tdarray_Array := ⟨g, (packN g.Edges g.Edges.length).1, (packN g.Edges g.Edges.length).2, counts (rowsOf g)⟩
theorem pack_row {g : TGraph} (hr : RightP g) {k : Nat} {bs : List Int} {cs : List Tdarray_cell} {xs : List TEdge} {b : Nat} (hx : xs.length ≤ 256) (hc : cs.length ≤ 800000) (hb : b ≤ cs.length) (hbl : bs.length ≤ 100000) (hk : k ≤ 100000) :
    Loop (darray_Pack.b2 (k : Int) bs xs (b : Int)) (0, cs) = some (.next (((k + 1 : Nat) : Int), bs ++ [(b : Int)], xs.foldl (putE k b) cs)) := by
  have hrun := Loop_run (b := darray_Pack.b2 (k : Int) bs xs (b : Int)) (fun j => ((j : Int), (xs.take j).foldl (putE k b) cs)) (i := 0) (n := xs.length) (Nat.zero_le _) (fun j _ hj => by
    have hj1 : xs[j]? = some xs[j] := List.getElem?_eq_getElem hj
    have hlt := xs[j].Label.toNat_lt
    have hlen := puts_len (s := k) (b := b) (cells := cs) (l := xs.take j)
    show darray_Pack.b2 (k : Int) bs xs (b : Int) ((j : Int), _) = _
    rw [take_snoc hj1, List.foldl_append]
    generalize (xs.take j).foldl (putE k b) cs = cells at hlen
    show darray_Pack.b2 (k : Int) bs xs (b : Int) ((j : Int), cells) = some (.next (((j + 1 : Nat) : Int), putE k b cells xs[j]))
    have hat : IntKind.i64.wrap ((b : Int) + IntKind.i64.wrap (xs[j].Label.toNat : Int)) = ((b + xs[j].Label.toNat : Nat) : Int) := by
      rw [wlab, w64 (by omega) (by omega)]; omega
    rw [darray_Pack.b2, if_pos (by rw [decide_eq_true_eq]; omega), idx_nat, hj1, Option.bind_some, hat]
    have hk6 : ∀ cells' : List Tdarray_cell, b + xs[j].Label.toNat < cells'.length → darray_Pack.k6 (k : Int) (b : Int) (j : Int) xs[j] cells' = some (.next (((j + 1 : Nat) : Int), cells'.set (b + xs[j].Label.toNat) ⟨(k : Int) + 1, xs[j].To⟩)) := fun cells' hc' => by
      unfold darray_Pack.k6
      rw [hat, idx_nat, lk_some hc', Option.bind_some, w64s (by omega), w64 (by omega) (by omega), Int.toNat_natCast]
    unfold putE
    by_cases h : b + xs[j].Label.toNat ≥ cells.length
    · rw [if_pos (by rw [decide_eq_true_eq]; omega), if_pos h]
      have hn : IntKind.i64.wrap (IntKind.i64.wrap (((b + xs[j].Label.toNat : Nat) : Int) + 1) - (cells.length : Int)) = ((b + xs[j].Label.toNat + 1 - cells.length : Nat) : Int) := by
        rw [w64 (n := ((b + xs[j].Label.toNat : Nat) : Int) + 1) (by omega) (by omega), w64 (by omega) (by omega)]; omega
      rw [hn, Int.toNat_natCast]
      have hnat : nat ((b + xs[j].Label.toNat + 1 - cells.length : Nat) : Int) = some ((b + xs[j].Label.toNat + 1 - cells.length : Nat) : Int) := by
        unfold nat; rw [if_pos (by omega)]
      rw [hnat, Option.bind_some, room_g (by omega) (by omega), Option.bind_some]
      exact hk6 _ (by simp; omega)
    · rw [if_neg (by rw [decide_eq_true_eq]; omega), if_neg h]
      exact hk6 _ (by omega))
  simp only [List.take_zero, List.take_length, show ((0 : Nat) : Int) = 0 from rfl] at hrun
  rw [show ([] : List TEdge).foldl (putE k b) cs = cs from rfl] at hrun
  rw [hrun]
  have hlen := puts_len (s := k) (b := b) (cells := cs) (l := xs)
  apply Loop_end
  rw [darray_Pack.b2, if_neg (by rw [decide_eq_true_eq]; omega)]
  congr 1
  unfold darray_Pack.k5
  rw [room_g (by omega) (by omega), Option.bind_some, if_neg (by rw [decide_eq_true_eq]; omega)]
  unfold darray_Pack.k3
  rw [w64s (by omega)]
theorem pack_base {g : TGraph} (hr : RightP g) {r : List Int × Int} {k : Nat} {bs : List Int} {cs : List Tdarray_cell} {xs : List TEdge} (hx : xs.length ≤ 256) (hc : cs.length ≤ 800000) (hbl : bs.length ≤ 100000) (hk : k ≤ 100000) :
    Loop (darray_Pack.b3 g r (k : Int) bs cs xs) 0 = some (.next (((k + 1 : Nat) : Int), bs ++ [(ff cs xs : Int)], xs.foldl (putE k (ff cs xs)) cs)) := by
  have hff := ff_le cs xs
  have hrun := Loop_int (b := darray_Pack.b3 g r (k : Int) bs cs xs) (i := 0) (n := ff cs xs) (Nat.zero_le _) (fun j _ hj => by
    rw [darray_Pack.b3, (fits_eq (A := ⟨g, bs, cs, r.1⟩) (by omega) (by omega)).2 (ff_first cs xs j hj), Option.bind_some, if_pos (by decide), w64s (by omega)])
  rw [show ((0 : Nat) : Int) = 0 from rfl] at hrun
  rw [hrun]
  apply Loop_end
  rw [darray_Pack.b3, (fits_eq (A := ⟨g, bs, cs, r.1⟩) (by omega) (by omega)).1 (ff_free cs xs), Option.bind_some, if_neg (by decide)]
  unfold darray_Pack.k4
  rw [pack_row hr hx hc hff hbl hk]
theorem Pack_eq' {g : TGraph} (hr : RightP g) (hn : g.Final.length ≤ 3000) (hm20 : many g.Edges g.Edges.length ≤ 20000) : darray_Pack g = some (some (arrOf g), 0) := by
  have hs : Short g := fun xs hx => by
    obtain ⟨k, hk⟩ := List.getElem?_of_mem hx
    have := rise_256 (right_rises hr k)
    rw [getD_row hk] at this; omega
  have hel := hr.len
  have hrs := right_rises hr
  unfold darray_Pack
  rw [dawg_Count_eq hs hr, Option.bind_some, if_neg (by simp)]
  have hrun := Loop_run (b := darray_Pack.b4 g (counts (rowsOf g), 0)) (fun k => ((many g.Edges k : Int), (k : Int))) (i := 0) (n := g.Edges.length) (Nat.zero_le _) (fun j _ hj => by
    have hj1 : g.Edges[j]? = some g.Edges[j] := List.getElem?_eq_getElem hj
    have h1 := many_le hrs j
    have h2 := rise_256 (hrs j)
    rw [getD_row hj1] at h2
    show darray_Pack.b4 g _ ((many g.Edges j : Int), (j : Int)) = _
    rw [darray_Pack.b4, if_pos (by rw [decide_eq_true_eq]; omega), idx_nat, hj1, Option.bind_some, w64 (by omega) (by omega), w64s (by omega)]
    have : many g.Edges (j + 1) = many g.Edges j + g.Edges[j].length := by rw [many, getD_row hj1]
    rw [this]
    congr 3)
  have h0 : ((many g.Edges 0 : Nat) : Int) = 0 := rfl
  simp only [h0, show ((0 : Nat) : Int) = 0 from rfl] at hrun
  rw [hrun]
  have hm := many_le hrs g.Edges.length
  apply Loop_end
  rw [darray_Pack.b4, if_neg (by rw [decide_eq_true_eq]; omega)]
  congr 1
  unfold darray_Pack.k1
  rw [if_neg (by rw [Bool.or_eq_true, decide_eq_true_eq, decide_eq_true_eq]; omega)]
  have hrun2 := Loop_run (b := darray_Pack.b1 g (counts (rowsOf g), 0)) (fun k => ((k : Int), (packN g.Edges k).1, (packN g.Edges k).2)) (i := 0) (n := g.Edges.length) (Nat.zero_le _) (fun j _ hj => by
    have hj1 : g.Edges[j]? = some g.Edges[j] := List.getElem?_eq_getElem hj
    have inv := packN_inv hrs j
    have hfull := full_le g.Edges j
    have h2 := rise_256 (hrs j)
    have hsz := inv.size
    have hlen := inv.len
    show darray_Pack.b1 g _ ((j : Int), _, _) = _
    rw [darray_Pack.b1, if_pos (by rw [decide_eq_true_eq]; omega), idx_nat, hj1, Option.bind_some, pack_base hr (by rw [getD_row hj1] at h2; exact h2) (by omega) (by omega) (by omega)]
    rw [packN, getD_row hj1])
  rw [show ((0 : Int), ([] : List Int), ([] : List Tdarray_cell)) = (((0 : Nat) : Int), (packN g.Edges 0).1, (packN g.Edges 0).2) from rfl]
  rw [hrun2]
  apply Loop_end
  rw [darray_Pack.b1, if_neg (by rw [decide_eq_true_eq]; omega)]
  rfl
theorem Pack_eq {g : TGraph} (hr : RightP g) (hn : g.Final.length ≤ 60) : darray_Pack g = some (some (arrOf g), 0) := Pack_eq' hr (by omega) (by have := many_le (right_rises hr) g.Edges.length; have := hr.len; omega)
theorem Pack_bad {g : TGraph} (hs : Short g) (hr : ¬ RightP g) : darray_Pack g = some (none, 1) := by
  unfold darray_Pack
  rw [dawg_Count_bad hs hr]
  rfl
/-- A step of the array is one of the graph. -/
theorem Step_eq {g : TGraph} (hr : RightP g) (hn : g.Final.length ≤ 3000) {s : Nat} (h : s < g.Final.length) (c : UInt8) : darray_Array_Step (arrOf g) (s : Int) c = some (match nextS g (s : Int) c with | some t => (t, true) | none => (0, false)) := by
  have hel := hr.len
  have inv := packN_inv (right_rises hr) g.Edges.length
  have hfull := full_le g.Edges g.Edges.length
  have hsz := inv.size
  have hbl : (arrOf g).base.length = g.Edges.length := inv.len
  obtain ⟨b, hb1, hb2⟩ := inv.base s (by omega)
  have hlt := c.toNat_lt
  have hx : g.Edges[s]? = some (g.Edges[s]'(by omega)) := List.getElem?_eq_getElem _
  have hat : IntKind.i64.wrap ((b : Int) + IntKind.i64.wrap (c.toNat : Int)) = ((b + c.toNat : Nat) : Int) := by
    rw [wlab, w64 (by omega) (by omega)]; omega
  have hbase : idx (arrOf g).base (s : Int) = some (b : Int) := by rw [idx_nat]; exact hb1
  have hnx : nextS g (s : Int) c = ((g.Edges[s]'(by omega)).find? (isLab c)).map TEdge.To := by
    unfold nextS; rw [Int.toNat_natCast, hx, Option.bind_some, at_find]
  unfold darray_Array_Step darray_Array_has
  rw [hbl, Option.bind_some, if_neg (by simp; omega), hbase, Option.bind_some, hat]
  have hcells : (arrOf g).cells = (packN g.Edges g.Edges.length).2 := rfl
  rw [hcells]
  generalize (packN g.Edges g.Edges.length).2 = cs at inv hsz ⊢
  have hrow := getD_row hx
  have wS : IntKind.i64.wrap ((s : Int) + 1) = (s : Int) + 1 := by rw [w64 (by omega) (by omega)]
  cases hf : (g.Edges[s]'(by omega)).find? (isLab c) with
  | some x =>
    have hm := List.mem_of_find?_eq_some hf
    have hlab := List.find?_some hf
    unfold isLab at hlab
    rw [beq_iff_eq] at hlab
    obtain ⟨b', g1, g2⟩ := inv.has s x (by omega) (by rw [hrow]; exact hm)
    have e : (b' : Int) = (b : Int) := by rw [hb1] at g1; injection g1 with g1; exact g1.symm
    have e' : b' = b := by omega
    subst e'
    rw [hlab] at g2
    have hin : b' + c.toNat < cs.length := by
      refine Classical.byContradiction fun h => ?_
      rw [lk_ge (by omega)] at g2
      have := congrArg Tdarray_cell.of g2
      simp [zC] at this; omega
    have hidx : idx cs ((b' + c.toNat : Nat) : Int) = some ⟨(s : Int) + 1, x.To⟩ := by rw [idx_nat, lk_some hin, g2]
    rw [hnx, hf, if_neg (by rw [decide_eq_true_eq]; omega), hidx, Option.bind_some, Option.bind_some, wS, if_neg (by simp), Option.bind_some]
    rfl
  | none =>
    rw [hnx, hf]
    by_cases hin : b + c.toNat < cs.length
    · have hne : (lk cs (b + c.toNat)).of ≠ (s : Int) + 1 := fun he => by
        rcases inv.from_ (b + c.toNat) with h0 | ⟨s', x, b', g1, g2, g3, g4, g5⟩
        · rw [h0] at he; simp [zC] at he; omega
        · rw [g5] at he
          have hs' : s' = s := by simp at he; omega
          subst hs'
          rw [hb1] at g3
          injection g3 with g3
          have hl : x.Label.toNat = c.toNat := by omega
          have hl2 : x.Label = c := UInt8.toNat_inj.1 hl
          rw [hrow] at g2
          rw [List.find?_eq_none] at hf
          exact hf x g2 (by unfold isLab; rw [hl2]; simp)
      have hidx : idx cs ((b + c.toNat : Nat) : Int) = some (lk cs (b + c.toNat)) := by rw [idx_nat, lk_some hin]
      rw [if_neg (by rw [decide_eq_true_eq]; omega), hidx, Option.bind_some, Option.bind_some, wS, if_pos (by simpa using hne)]
      rfl
    · rw [if_pos (by rw [decide_eq_true_eq]; omega), Option.bind_some, if_pos rfl]
      rfl
end
end Go.Val

/- part P44 -/
/- Plain lemmas: Prefixes; the two words of 'awake'; DarraySteps. -/
namespace Go.Val
set_option linter.unusedVariables false
theorem Final_eq {g : TGraph} (hr : RightP g) {s : Int} (h0 : 0 ≤ s) (h1 : s < g.Final.length) : darray_Array_Final (arrOf g) s = some ((g.Final[s.toNat]?).getD false) := by
  have hel := hr.len
  have inv := packN_inv (right_rises hr) g.Edges.length
  have hbl : (arrOf g).base.length = g.Edges.length := inv.len
  obtain ⟨b, hb1, hb2⟩ := final_at h0 h1
  unfold darray_Array_Final darray_Array_has
  rw [hbl, Option.bind_some, if_pos (by simp; omega)]
  have : (arrOf g).graph = g := rfl
  rw [this, hb1, Option.bind_some, Option.bind_some, hb2]
  rfl
theorem Start_eq {g : TGraph} (hr : RightP g) : darray_Array_Start (arrOf g) = some ((g.Final.length : Int) - 1) := by
  have hel := hr.len
  have inv := packN_inv (right_rises hr) g.Edges.length
  have hbl : (arrOf g).base.length = g.Edges.length := inv.len
  unfold darray_Array_Start
  rw [hbl, hel, start_w hr]
theorem Words_eq {g : TGraph} (hr : RightP g) : darray_Array_Words (arrOf g) = some ((counts (rowsOf g)).getD (g.Final.length - 1) 0) := by
  have hlo := hr.lo
  have hlen : (counts (rowsOf g)).length = g.Final.length := by rw [counts_len, rows_len hr.len]
  have hc : (arrOf g).count = counts (rowsOf g) := rfl
  unfold darray_Array_Words
  rw [hc, hlen, start_w hr, cnt_at hr (by omega) (by omega), Option.bind_some]
  rw [show ((g.Final.length : Int) - 1).toNat = g.Final.length - 1 by omega]
/-- The beginnings of a text that are words. -/
def prefS (g : TGraph) (b : Str) (n : Nat) : List Int := ((List.range n).filter fun k => hasS g (b.take k)).map fun k : Nat => (k : Int)
theorem prefS_succ {g : TGraph} {b : Str} {n : Nat} : prefS g b (n + 1) = prefS g b n ++ (if hasS g (b.take n) then [(n : Int)] else []) := by
  unfold prefS
  rw [List.range_succ, List.filter_append, List.map_append]
  cases h : hasS g (b.take n) <;> simp [List.filter, h]
theorem prefS_len {g : TGraph} {b : Str} {n : Nat} : (prefS g b n).length ≤ n := by
  unfold prefS
  rw [List.length_map]
  exact Nat.le_trans (List.length_filter_le _ _) (by simp)
theorem hasS_at {g : TGraph} {w : Str} {t : Int} (h : runS g ((g.Final.length : Int) - 1) w = some t) : hasS g w = (g.Final[t.toNat]?).getD false := by
  unfold hasS; rw [h]; rfl
theorem pref_step {g : TGraph} (hr : RightP g) (hn : g.Final.length ≤ 3000) {b : Str} (hb : b.length ≤ 2000) {n : Nat} (h : n ≤ b.length) {t : Int} (ht : runS g ((g.Final.length : Int) - 1) (b.take n) = some t) :
    darray_Array_Prefixes.b1 (arrOf g) b (prefS g b n, t, true, (n : Int)) = darray_Array_Prefixes.k2 (arrOf g) b t (n : Int) (prefS g b (n + 1)) := by
  have hb1 := runS_ok hr (by have := hr.lo; omega) (by omega) ht
  have hl := prefS_len (g := g) (b := b) (n := n)
  rw [darray_Array_Prefixes.b1, if_pos rfl, Final_eq hr hb1.1 hb1.2, Option.bind_some, prefS_succ, ← hasS_at ht]
  cases hasS g (b.take n) with
  | false => rw [if_neg (by decide), if_neg (by decide), List.append_nil]
  | true => rw [if_pos rfl, if_pos rfl, room_g (by omega) (by omega), Option.bind_some]
theorem pref_next {g : TGraph} (hr : RightP g) (hn : g.Final.length ≤ 3000) {b : Str} (hb : b.length ≤ 2000) {n : Nat} (h : n < b.length) {t : Int} {c : UInt8} (hc : b[n]? = some c) (h0 : 0 ≤ t) (h1 : t < g.Final.length) (out : List Int) :
    darray_Array_Prefixes.k2 (arrOf g) b t (n : Int) out = some (.next (match nextS g t c with | some u => (out, u, true, ((n + 1 : Nat) : Int)) | none => (out, 0, false, ((n + 1 : Nat) : Int)))) := by
  have hs := Step_eq hr hn (s := t.toNat) (by omega) c
  rw [show ((t.toNat : Nat) : Int) = t by omega] at hs
  unfold darray_Array_Prefixes.k2
  rw [if_neg (by rw [beq_iff_eq]; omega), idx_nat, hc, Option.bind_some, hs, Option.bind_some, w64s (by omega)]
  cases nextS g t c <;> rfl
theorem Prefixes_eq {g : TGraph} (hr : RightP g) (hn : g.Final.length ≤ 3000) {b : Str} (hb : b.length ≤ 2000) : darray_Array_Prefixes (arrOf g) b = some (prefS g b (b.length + 1)) := by
  have hst0 : 0 ≤ (g.Final.length : Int) - 1 := by have := hr.lo; omega
  have hst1 : (g.Final.length : Int) - 1 < g.Final.length := by omega
  unfold darray_Array_Prefixes
  rw [Start_eq hr, Option.bind_some]
  rcases run_split g ((g.Final.length : Int) - 1) b with hall | ⟨k, t, c, hk, hc, hpre, ht, hnx⟩
  · have hrun := Loop_run (b := darray_Array_Prefixes.b1 (arrOf g) b) (fun n => (prefS g b n, (runS g ((g.Final.length : Int) - 1) (b.take n)).getD 0, true, (n : Int))) (i := 0) (n := b.length) (Nat.zero_le _) (fun n _ hlt => by
      obtain ⟨t, ht⟩ := hall n (by omega)
      obtain ⟨u, hu⟩ := hall (n + 1) (by omega)
      have hc : b[n]? = some b[n] := List.getElem?_eq_getElem hlt
      have hnx : nextS g t b[n] = some u := by rw [run_take_next hc, ht] at hu; exact hu
      have hb1 := runS_ok hr hst0 hst1 ht
      simp only [ht, hu, Option.getD_some]
      rw [pref_step hr hn hb (by omega) ht, pref_next hr hn hb hlt hc hb1.1 hb1.2, hnx])
    simp only [List.take_zero, runS, Option.getD_some, show ((0 : Nat) : Int) = 0 from rfl] at hrun
    rw [show prefS g b 0 = [] from rfl] at hrun
    rw [hrun]
    obtain ⟨t, ht⟩ := hall b.length (Nat.le_refl _)
    apply Loop_done
    rw [ht, Option.getD_some, pref_step hr hn hb (Nat.le_refl _) ht]
    unfold darray_Array_Prefixes.k2 darray_Array_Prefixes.k1
    rw [if_pos (by rw [beq_iff_eq])]
    rfl
  · have hrun := Loop_run (b := darray_Array_Prefixes.b1 (arrOf g) b) (fun n => (prefS g b n, (runS g ((g.Final.length : Int) - 1) (b.take n)).getD 0, true, (n : Int))) (i := 0) (n := k) (Nat.zero_le _) (fun n _ hlt => by
      obtain ⟨t, ht⟩ := hpre n (by omega)
      obtain ⟨u, hu⟩ := hpre (n + 1) (by omega)
      have hc : b[n]? = some (b[n]'(by omega)) := List.getElem?_eq_getElem _
      have hnx : nextS g t (b[n]'(by omega)) = some u := by rw [run_take_next hc, ht] at hu; exact hu
      have hb1 := runS_ok hr hst0 hst1 ht
      simp only [ht, hu, Option.getD_some]
      rw [pref_step hr hn hb (by omega) ht, pref_next hr hn hb (by omega) hc hb1.1 hb1.2, hnx])
    simp only [List.take_zero, runS, Option.getD_some, show ((0 : Nat) : Int) = 0 from rfl, ht] at hrun
    rw [show prefS g b 0 = [] from rfl] at hrun
    rw [hrun]
    have hb1 := runS_ok hr hst0 hst1 ht
    rw [Loop_next (by rw [pref_step hr hn hb (by omega) ht, pref_next hr hn hb hk hc hb1.1 hb1.2, hnx])]
    apply Loop_done
    rw [darray_Array_Prefixes.b1, if_neg (by decide)]
    have h1 : runS g ((g.Final.length : Int) - 1) (b.take (k + 1)) = none := by rw [run_take_next hc, ht]; exact hnx
    have hend : ∀ d, k + 1 + d ≤ b.length + 1 → prefS g b (k + 1 + d) = prefS g b (k + 1) := by
      intro d
      induction d with
      | zero => intro _; rfl
      | succ d ih =>
        intro hd
        rw [← Nat.add_assoc, prefS_succ, ih (by omega)]
        have : hasS g (b.take (k + 1 + d)) = false := by unfold hasS; rw [run_take_none h1 _ (by omega)]; rfl
        rw [this]; simp
    have := hend (b.length - k) (by omega)
    rw [show k + 1 + (b.length - k) = b.length + 1 by omega] at this
    rw [this]; rfl
theorem riseAB : RiseP [wA, wB] := ⟨fun s hs => by
  simp at hs
  rcases hs with rfl | rfl <;> decide, fun i h0 hi a b ha hb => by
  simp at hi
  obtain rfl : i = 1 := by omega
  simp at ha hb
  subst ha; subst hb
  decide⟩
theorem tabAB : graphT (tabW [wA, wB]) = bH.Graph := by
  have h1 := Build_eq riseAB (by simp)
  rw [Build2] at h1
  injection h1 with h1
  exact (congrArg Prod.fst h1).symm
theorem awake18 : scansionlaw18_awake = some true := by
  unfold scansionlaw18_awake
  rw [show ([([97, 98] : Str), ([99, 98] : Str)]) = [wA, wB] from rfl, refBuild_eq riseAB (by simp), tabAB, Option.bind_some]
  dsimp only
  have hf : bH.Graph.Final.length = 3 := rfl
  rw [Pack_eq right2 (by rw [hf]; omega), Option.bind_some]
  dsimp only
  rw [if_pos (by decide), Start_eq right2, Option.bind_some, hf, if_pos (by decide), Words_eq right2, Option.bind_some, hf]
  have hc : (counts (rowsOf bH.Graph)).getD (3 - 1) 0 = 2 := by decide
  have hu : [u8 97, u8 98, u8 99] = ([97, 98, 99] : Str) := by decide
  rw [hc, if_pos (by decide), hu, Prefixes_eq right2 (by rw [hf]; omega) (by simp), Option.bind_some]
  have hp : prefS bH.Graph [97, 98, 99] (([97, 98, 99] : Str).length + 1) = [2] := by decide
  rw [hp, Same_ok (by simp)]
  rfl
end Go.Val

/- part P46 -/
/- Plain lemmas: numbers as bytes. -/
namespace Go.Val
set_option linter.unusedVariables false
/-- A number of bytes, read. -/
def told : Nat → Nat → Nat → List UInt8 → Int × Int × Int
  | 0, _, _, _ => (0, 0, 2)
  | _ + 1, _, _, [] => (0, 0, 2)
  | k + 1, i, acc, c :: b => if c.toNat < 128 then (if acc + (c.toNat % 128) * 128 ^ i > 2147483647 ∨ (i > 0 ∧ c.toNat = 0) then (0, 0, 2) else (((acc + (c.toNat % 128) * 128 ^ i : Nat) : Int), ((i + 1 : Nat) : Int), 0)) else told k (i + 1) (acc + (c.toNat % 128) * 128 ^ i) b
theorem pow_le {i : Nat} (h : i ≤ 4) : 128 ^ i ≤ 268435456 ∧ 1 ≤ 128 ^ i := by
  have : i = 0 ∨ i = 1 ∨ i = 2 ∨ i = 3 ∨ i = 4 := by omega
  rcases this with rfl | rfl | rfl | rfl | rfl <;> decide
theorem mul_le {z p : Nat} (hz : z < 128) (hp : p ≤ 268435456) : z * p ≤ 34091302912 := by
  have : z * p ≤ 127 * 268435456 := Nat.mul_le_mul (by omega) hp
  omega
theorem bNot8 (c : UInt8) : bNot .u8 (c.toNat : Int) 128 = ((c.toNat % 128 : Nat) : Int) := by
  have key : ∀ n : Fin 256, bNot .u8 ((n.val : Nat) : Int) 128 = ((n.val % 128 : Nat) : Int) := by decide +kernel
  exact key ⟨c.toNat, c.toNat_lt⟩
theorem ofInt_nat {w n : Nat} (h : n < 2 ^ w) : (BitVec.ofInt w (n : Int)).toNat = n := by
  rw [BitVec.ofInt_natCast, BitVec.toNat_ofNat, Nat.mod_eq_of_lt h]
theorem bOr_nat {a b : Nat} (ha : a < 9223372036854775808) (hb : b < 9223372036854775808) (hab : a ||| b < 9223372036854775808) : bOr .i64 (a : Int) (b : Int) = ((a ||| b : Nat) : Int) := by
  unfold bOr
  show IntKind.i64.wrap ((BitVec.ofInt 64 (a : Int) ||| BitVec.ofInt 64 (b : Int)).toNat : Int) = _
  rw [BitVec.toNat_or, ofInt_nat (by omega), ofInt_nat (by omega), w64 (by omega) (by omega)]
theorem or_add {a z i : Nat} (h : a < 2 ^ i) : a ||| z * 2 ^ i = a + z * 2 ^ i := by
  rw [Nat.mul_comm, Nat.or_comm, ← Nat.two_pow_add_eq_or_of_lt h, Nat.add_comm]
theorem p128 (i : Nat) : 128 ^ i = 2 ^ (7 * i) := by rw [Nat.pow_mul]
theorem packed_told (b : List UInt8) (hb : b.length ≤ 1000000) : ∀ (k i acc : Nat), i + k = 5 → acc < 128 ^ i → Loop (packed_Told.b1 b) ((acc : Int), (i : Int)) = some (told k i acc (b.drop i))
  | 0, i, acc, hi, ha => by
    apply Loop_done
    rw [packed_Told.b1, if_neg (by rw [decide_eq_true_eq]; unfold mn; split <;> omega)]
    rfl
  | k + 1, i, acc, hi, ha => by
    by_cases hl : i < b.length
    · have hc : b[i]? = some b[i] := List.getElem?_eq_getElem hl
      have hd : b.drop i = b[i] :: b.drop (i + 1) := List.drop_eq_getElem_cons hl
      have hp := pow_le (i := i) (by omega)
      have hlt := b[i].toNat_lt
      have hz : b[i].toNat % 128 < 128 := Nat.mod_lt _ (by omega)
      have hm := mul_le hz hp.1
      have hlim : packed_Told.b1 b ((acc : Int), (i : Int)) = (if b[i].toNat < 128 then (if acc + (b[i].toNat % 128) * 128 ^ i > 2147483647 ∨ (i > 0 ∧ b[i].toNat = 0) then some (.done (0, 0, 2)) else some (.done (((acc + (b[i].toNat % 128) * 128 ^ i : Nat) : Int), ((i + 1 : Nat) : Int), 0))) else some (.next (((acc + (b[i].toNat % 128) * 128 ^ i : Nat) : Int), ((i + 1 : Nat) : Int)))) := by
        have h7 : IntKind.i64.wrap (7 * (i : Int)) = ((7 * i : Nat) : Int) := by rw [w64 (by omega) (by omega)]; omega
        have hsh : shL .i64 (IntKind.i64.wrap ((b[i].toNat % 128 : Nat) : Int)) ((7 * i : Nat) : Int) = (((b[i].toNat % 128) * 128 ^ i : Nat) : Int) := by
          unfold shL
          rw [w64 (n := ((b[i].toNat % 128 : Nat) : Int)) (by omega) (by omega), Int.toNat_natCast]
          have : min (7 * i) IntKind.i64.bits = 7 * i := by show min (7 * i) 64 = 7 * i; omega
          rw [this]
          have e : ((b[i].toNat % 128 : Nat) : Int) * 2 ^ (7 * i) = (((b[i].toNat % 128) * 128 ^ i : Nat) : Int) := by rw [p128]; simp
          rw [e, w64 (by omega) (by omega)]
        have hor : acc ||| (b[i].toNat % 128) * 128 ^ i = acc + (b[i].toNat % 128) * 128 ^ i := by rw [p128] at ha ⊢; exact or_add ha
        have hbo : bOr .i64 (acc : Int) (((b[i].toNat % 128) * 128 ^ i : Nat) : Int) = ((acc + (b[i].toNat % 128) * 128 ^ i : Nat) : Int) := by
          rw [bOr_nat (by omega) (by omega) (by rw [hor]; omega), hor]
        have hnat : nat ((7 * i : Nat) : Int) = some ((7 * i : Nat) : Int) := by unfold nat; rw [if_pos (by omega)]
        rw [packed_Told.b1, if_pos (by rw [decide_eq_true_eq]; unfold mn; split <;> omega), idx_nat, hc, Option.bind_some, bNot8, Option.bind_some, h7, hnat, Option.bind_some, hsh, Option.bind_some, hbo, Option.bind_some]
        by_cases h1 : b[i].toNat < 128
        · rw [if_pos (by rw [decide_eq_true_eq]; omega), if_pos h1]
          by_cases h2 : acc + (b[i].toNat % 128) * 128 ^ i > 2147483647 ∨ (i > 0 ∧ b[i].toNat = 0)
          · rw [if_pos (by rw [Bool.or_eq_true, Bool.and_eq_true, decide_eq_true_eq, decide_eq_true_eq, beq_iff_eq]; omega), if_pos h2]
            rfl
          · rw [if_neg (by rw [Bool.or_eq_true, Bool.and_eq_true, decide_eq_true_eq, decide_eq_true_eq, beq_iff_eq]; omega), if_neg h2, w64s (by omega)]
        · rw [if_neg (by rw [decide_eq_true_eq]; omega), if_neg h1, w64s (by omega)]
      rw [hd, told]
      by_cases h1 : b[i].toNat < 128
      · rw [if_pos h1] at hlim ⊢
        by_cases h2 : acc + (b[i].toNat % 128) * 128 ^ i > 2147483647 ∨ (i > 0 ∧ b[i].toNat = 0)
        · rw [if_pos h2] at hlim ⊢; exact Loop_done hlim
        · rw [if_neg h2] at hlim ⊢; exact Loop_done hlim
      · rw [if_neg h1] at hlim ⊢
        rw [Loop_next hlim]
        refine packed_told b hb k (i + 1) _ (by omega) ?_
        have : (b[i].toNat % 128) * 128 ^ i ≤ 127 * 128 ^ i := Nat.mul_le_mul_right _ (by omega)
        rw [Nat.pow_succ]; omega
    · rw [List.drop_eq_nil_of_le (by omega), told]
      apply Loop_done
      rw [packed_Told.b1, if_neg (by rw [decide_eq_true_eq]; unfold mn; split <;> omega)]
      rfl
theorem packedTold_eq {b : List UInt8} (hb : b.length ≤ 1000000) : packed_Told b = some (told 5 0 0 b) := packed_told b hb 5 0 0 rfl (by decide)
theorem ref_told (b : List UInt8) (hb : b.length ≤ 1000000) : ∀ (k i acc : Nat), i + k = 5 → acc < 128 ^ i → Loop (scansionref14_Told.b1 b) ((acc : Int), ((128 ^ i : Nat) : Int), (i : Int)) = some (told k i acc (b.drop i))
  | 0, i, acc, hi, ha => by
    apply Loop_done
    rw [scansionref14_Told.b1, if_neg (by rw [Bool.and_eq_true, decide_eq_true_eq, decide_eq_true_eq]; omega)]
    rfl
  | k + 1, i, acc, hi, ha => by
    by_cases hl : i < b.length
    · have hc : b[i]? = some b[i] := List.getElem?_eq_getElem hl
      have hd : b.drop i = b[i] :: b.drop (i + 1) := List.drop_eq_getElem_cons hl
      have hp := pow_le (i := i) (by omega)
      have hlt := b[i].toNat_lt
      have hz : b[i].toNat % 128 < 128 := Nat.mod_lt _ (by omega)
      have hm := mul_le hz hp.1
      have hlim : scansionref14_Told.b1 b ((acc : Int), ((128 ^ i : Nat) : Int), (i : Int)) = (if b[i].toNat < 128 then (if acc + (b[i].toNat % 128) * 128 ^ i > 2147483647 ∨ (i > 0 ∧ b[i].toNat = 0) then some (.done (0, 0, 2)) else some (.done (((acc + (b[i].toNat % 128) * 128 ^ i : Nat) : Int), ((i + 1 : Nat) : Int), 0))) else some (.next (((acc + (b[i].toNat % 128) * 128 ^ i : Nat) : Int), ((128 ^ (i + 1) : Nat) : Int), ((i + 1 : Nat) : Int)))) := by
        have ht : Int.tmod (b[i].toNat : Int) 128 = ((b[i].toNat % 128 : Nat) : Int) := rfl
        have hv : IntKind.i64.wrap ((acc : Int) + IntKind.i64.wrap (IntKind.i64.wrap (Int.tmod (b[i].toNat : Int) 128) * ((128 ^ i : Nat) : Int))) = ((acc + (b[i].toNat % 128) * 128 ^ i : Nat) : Int) := by
          rw [ht, w64 (n := ((b[i].toNat % 128 : Nat) : Int)) (by omega) (by omega), ← Int.natCast_mul, w64 (n := (((b[i].toNat % 128) * 128 ^ i : Nat) : Int)) (by omega) (by omega), w64 (by omega) (by omega)]
          omega
        have hw : IntKind.i64.wrap (((128 ^ i : Nat) : Int) * 128) = ((128 ^ (i + 1) : Nat) : Int) := by
          rw [w64 (by omega) (by omega), Nat.pow_succ]; omega
        rw [scansionref14_Told.b1, if_pos (by rw [Bool.and_eq_true, decide_eq_true_eq, decide_eq_true_eq]; omega), idx_nat, hc, Option.bind_some, hv, hw, w64s (by omega)]
        by_cases h1 : b[i].toNat < 128
        · rw [if_pos (by rw [decide_eq_true_eq]; omega), if_pos h1]
          by_cases h2 : acc + (b[i].toNat % 128) * 128 ^ i > 2147483647 ∨ (i > 0 ∧ b[i].toNat = 0)
          · rw [if_pos (by rw [Bool.or_eq_true, Bool.and_eq_true, decide_eq_true_eq, decide_eq_true_eq, beq_iff_eq]; omega), if_pos h2]
          · rw [if_neg (by rw [Bool.or_eq_true, Bool.and_eq_true, decide_eq_true_eq, decide_eq_true_eq, beq_iff_eq]; omega), if_neg h2]
        · rw [if_neg (by rw [decide_eq_true_eq]; omega), if_neg h1]
      rw [hd, told]
      by_cases h1 : b[i].toNat < 128
      · rw [if_pos h1] at hlim ⊢
        by_cases h2 : acc + (b[i].toNat % 128) * 128 ^ i > 2147483647 ∨ (i > 0 ∧ b[i].toNat = 0)
        · rw [if_pos h2] at hlim ⊢; exact Loop_done hlim
        · rw [if_neg h2] at hlim ⊢; exact Loop_done hlim
      · rw [if_neg h1] at hlim ⊢
        rw [Loop_next hlim]
        refine ref_told b hb k (i + 1) _ (by omega) ?_
        have : (b[i].toNat % 128) * 128 ^ i ≤ 127 * 128 ^ i := Nat.mul_le_mul_right _ (by omega)
        rw [Nat.pow_succ]; omega
    · rw [List.drop_eq_nil_of_le (by omega), told]
      apply Loop_done
      rw [scansionref14_Told.b1, if_neg (by rw [Bool.and_eq_true, decide_eq_true_eq, decide_eq_true_eq]; omega)]
      rfl
theorem refTold_eq {b : List UInt8} (hb : b.length ≤ 1000000) : scansionref14_Told b = some (told 5 0 0 b) := ref_told b hb 5 0 0 rfl (by decide)
end Go.Val

/- part P47 -/
/- Plain lemmas: numbers are written, and read again. -/
namespace Go.Val
set_option linter.unusedVariables false
def encF : Nat → Nat → List UInt8
  | 0, _ => []
  | k + 1, n => if n < 128 then [UInt8.ofNat n] else UInt8.ofNat (128 + n % 128) :: encF k (n / 128)
def encN (n : Nat) : List UInt8 := encF 5 n
theorem encF_len : ∀ (k n : Nat), (encF k n).length ≤ k
  | 0, _ => by simp [encF]
  | k + 1, n => by
    unfold encF
    split
    · simp
    · have := encF_len k (n / 128); simp; omega
theorem sh7 {n : Int} : shR .i64 n 7 = n / 128 := by unfold shR; rw [show (2 : Int) ^ (min (7 : Int).toNat IntKind.i64.bits) = 128 from rfl, Int.fdiv_eq_ediv_of_nonneg _ (by omega)]
theorem or128 (n : Nat) : (n ||| 128) % 256 = 128 + n % 128 := by
  have key : ∀ r : Fin 256, (r.val ||| 128) = 128 + r.val % 128 := by decide +kernel
  have h := key ⟨n % 256, Nat.mod_lt _ (by omega)⟩
  have e : (n ||| 128) % 2 ^ 8 = n % 2 ^ 8 ||| 128 % 2 ^ 8 := Nat.or_mod_two_pow
  rw [show (2 : Nat) ^ 8 = 256 from rfl] at e
  rw [e, show 128 % 256 = 128 from rfl]
  have h' : (n % 256) ||| 128 = 128 + (n % 256) % 128 := h
  rw [h']; omega
theorem u8_ofNat {x : Int} {n : Nat} (hn : n < 256) (h : x % 256 = (n : Int)) : u8 (IntKind.u8.wrap x) = UInt8.ofNat n := by
  apply UInt8.toNat_inj.1
  have := u8w (n := x)
  rw [h] at this
  have e : (UInt8.ofNat n).toNat = n := by simp; omega
  rw [e]; omega
theorem or_bound {n : Nat} (h : n < 9223372036854775808) : n ||| 128 < 9223372036854775808 := by
  have := Nat.or_lt_two_pow (x := n) (y := 128) (n := 63) (by omega) (by omega)
  omega
theorem pNum_loop : ∀ (k n : Nat) (out : List UInt8), n < 128 ^ (k + 1) → k ≤ 7 → out.length + k ≤ 100000 → Loop packed_Number.b1 ((n : Int), out) = some (out ++ encF (k + 1) n)
  | 0, n, out, hn, hk, ho => by
    apply Loop_end
    have : n < 128 := by simpa using hn
    rw [packed_Number.b1, if_neg (by rw [decide_eq_true_eq]; omega)]
    unfold packed_Number.k1
    rw [room_g (by omega) (by omega), Option.bind_some, u8_ofNat (n := n) (by omega) (by omega)]
    unfold encF
    rw [if_pos this]
  | k + 1, n, out, hn, hk, ho => by
    unfold encF
    by_cases h : n < 128
    · apply Loop_end
      rw [packed_Number.b1, if_neg (by rw [decide_eq_true_eq]; omega), if_pos h]
      unfold packed_Number.k1
      rw [room_g (by omega) (by omega), Option.bind_some, u8_ofNat (n := n) (by omega) (by omega)]
    · have hb : n < 9223372036854775808 := by
        have : 128 ^ (k + 1 + 1) ≤ 128 ^ 9 := Nat.pow_le_pow_right (by omega) (by omega)
        have e : (128 : Nat) ^ 9 = 9223372036854775808 := by decide
        omega
      have hor := or128 n
      have hdiv : n / 128 < 128 ^ (k + 1) := by
        rw [Nat.div_lt_iff_lt_mul (by omega)]; rw [Nat.pow_succ] at hn; exact hn
      have step : packed_Number.b1 ((n : Int), out) = some (.next (((n / 128 : Nat) : Int), out ++ [UInt8.ofNat (128 + n % 128)])) := by
        rw [packed_Number.b1, if_pos (by rw [decide_eq_true_eq]; omega), room_g (by omega) (by omega), Option.bind_some, sh7]
        have e1 : bOr .i64 (n : Int) 128 = ((n ||| 128 : Nat) : Int) := bOr_nat (b := 128) hb (by decide) (or_bound hb)
        rw [e1, u8_ofNat (n := 128 + n % 128) (by omega) (by omega)]
        rfl
      rw [Loop_next step, pNum_loop k (n / 128) _ hdiv (by omega) (by simp; omega), if_neg h, List.append_assoc]
      rfl
theorem pNum_eq {n : Nat} (h : n ≤ 2147483647) : packed_Number (n : Int) = some (encN n) := by
  unfold packed_Number
  have hm : mx (n : Int) 0 = (n : Int) := by unfold mx; rw [if_neg (by omega)]
  rw [hm, pNum_loop 4 n [] (by have : (128 : Nat) ^ 5 = 34359738368 := by decide
                               omega) (by omega) (by simp)]
  rfl
theorem rNum_loop : ∀ (k n : Nat) (out : List UInt8), n < 128 ^ (k + 1) → k ≤ 7 → out.length + k ≤ 100000 → Loop scansionref14_Number.b1 ((n : Int), out) = some (out ++ encF (k + 1) n)
  | 0, n, out, hn, hk, ho => by
    apply Loop_end
    have : n < 128 := by simpa using hn
    rw [scansionref14_Number.b1, if_neg (by rw [decide_eq_true_eq]; omega)]
    unfold scansionref14_Number.k1
    rw [room_g (by omega) (by omega), Option.bind_some, u8_ofNat (n := n) (by omega) (by omega)]
    unfold encF
    rw [if_pos this]
  | k + 1, n, out, hn, hk, ho => by
    unfold encF
    by_cases h : n < 128
    · apply Loop_end
      rw [scansionref14_Number.b1, if_neg (by rw [decide_eq_true_eq]; omega), if_pos h]
      unfold scansionref14_Number.k1
      rw [room_g (by omega) (by omega), Option.bind_some, u8_ofNat (n := n) (by omega) (by omega)]
    · have hb : n < 9223372036854775808 := by
        have : 128 ^ (k + 1 + 1) ≤ 128 ^ 9 := Nat.pow_le_pow_right (by omega) (by omega)
        have e : (128 : Nat) ^ 9 = 9223372036854775808 := by decide
        omega
      have hdiv : n / 128 < 128 ^ (k + 1) := by
        rw [Nat.div_lt_iff_lt_mul (by omega)]; rw [Nat.pow_succ] at hn; exact hn
      have step : scansionref14_Number.b1 ((n : Int), out) = some (.next (((n / 128 : Nat) : Int), out ++ [UInt8.ofNat (128 + n % 128)])) := by
        have ed : Int.tdiv (n : Int) 128 = ((n / 128 : Nat) : Int) := rfl
        have em : Int.tmod (n : Int) 128 = ((n % 128 : Nat) : Int) := rfl
        rw [scansionref14_Number.b1, if_pos (by rw [decide_eq_true_eq]; omega), room_g (by omega) (by omega), Option.bind_some, ed, em, w64 (n := ((n / 128 : Nat) : Int)) (by omega) (by omega), w64 (n := 128 + ((n % 128 : Nat) : Int)) (by omega) (by omega), u8_ofNat (n := 128 + n % 128) (by omega) (by omega)]
      rw [Loop_next step, rNum_loop k (n / 128) _ hdiv (by omega) (by simp; omega), if_neg h, List.append_assoc]
      rfl
theorem rNum_eq {n : Nat} (h : n ≤ 2147483647) : scansionref14_Number (n : Int) = some (encN n) := by
  unfold scansionref14_Number
  have hm : mx (n : Int) 0 = (n : Int) := by unfold mx; rw [if_neg (by omega)]
  rw [hm, rNum_loop 4 n [] (by have : (128 : Nat) ^ 5 = 34359738368 := by decide
                               omega) (by omega) (by simp)]
  rfl
theorem encN_len (n : Nat) : (encN n).length ≤ 5 := encF_len 5 n
end Go.Val

/- part P48 -/
/- Plain lemmas: Save. -/
namespace Go.Val
set_option linter.unusedVariables false
def saveE (x : TEdge) : List UInt8 := x.Label :: encN x.To.toNat
def saveR (f : Bool) (xs : List TEdge) : List UInt8 := (if f then (1 : UInt8) else 0) :: (encN xs.length ++ xs.flatMap saveE)
def saveG (g : TGraph) : List UInt8 := encN g.Final.length ++ (g.Final.zip g.Edges).flatMap fun p => saveR p.1 p.2
theorem saveE_len (x : TEdge) : (saveE x).length ≤ 6 := by have := encN_len x.To.toNat; unfold saveE; simp; omega
theorem flat_len {α : Type} {f : α → List UInt8} {n : Nat} : ∀ {l : List α}, (∀ x ∈ l, (f x).length ≤ n) → (l.flatMap f).length ≤ l.length * n
  | [], _ => by simp
  | x :: l, h => by
    have h1 := h x (by simp)
    have h2 := flat_len (l := l) fun y hy => h y (by simp [hy])
    rw [List.flatMap_cons, List.length_append, List.length_cons, Nat.succ_mul]; omega
theorem saveR_len {f : Bool} {xs : List TEdge} (h : xs.length ≤ 256) : (saveR f xs).length ≤ 1542 := by
  have h1 := encN_len xs.length
  have h2 := flat_len (l := xs) (f := saveE) (n := 6) fun x _ => saveE_len x
  unfold saveR
  rw [List.length_cons, List.length_append]; omega
/-- A graph that can be saved. -/
structure SaveOk (g : TGraph) : Prop where
  n : g.Final.length ≤ 3000
  len : g.Edges.length = g.Final.length
  rows : ∀ xs ∈ g.Edges, xs.length ≤ 256 ∧ ∀ x ∈ xs, 0 ≤ x.To ∧ x.To ≤ 20000
theorem right_save {g : TGraph} (hr : RightP g) (hn : g.Final.length ≤ 3000) : SaveOk g := ⟨hn, hr.len, fun xs hx => by
  obtain ⟨s, hs⟩ := List.getElem?_of_mem hx
  have hlt := (List.getElem?_eq_some_iff.1 hs).1
  have h256 := rise_256 (right_rises hr s)
  rw [getD_row hs] at h256
  refine ⟨h256, fun x hx => ?_⟩
  obtain ⟨k, hk⟩ := List.getElem?_of_mem hx
  have hl := hr.len
  have := row_ok hr (s := (s : Int)) (by omega) (by omega) (by rw [Int.toNat_natCast]; exact hs) hk
  omega⟩
theorem save_row {xs : List TEdge} (hx : xs.length ≤ 256) (ht : ∀ x ∈ xs, 0 ≤ x.To ∧ x.To ≤ 20000) {v : Nat} (hv : v ≤ 100000) {out : List UInt8} (ho : out.length ≤ 10000000) : Loop (darray_Array_Save.b2 (v : Int) xs) (out, 0) = some (.next (out ++ xs.flatMap saveE, ((v + 1 : Nat) : Int))) := by
  have hrun := Loop_run (b := darray_Array_Save.b2 (v : Int) xs) (fun j => (out ++ (xs.take j).flatMap saveE, (j : Int))) (i := 0) (n := xs.length) (Nat.zero_le _) (fun j _ hj => by
    have hj1 : xs[j]? = some xs[j] := List.getElem?_eq_getElem hj
    have h1 := ht _ (List.getElem_mem hj)
    have hfl := flat_len (l := xs.take j) (f := saveE) (n := 6) fun x _ => saveE_len x
    have htl : (xs.take j).length ≤ 256 := by rw [List.length_take]; omega
    have hol : (out ++ (xs.take j).flatMap saveE).length ≤ 10002000 := by rw [List.length_append]; omega
    have hen := encN_len xs[j].To.toNat
    show darray_Array_Save.b2 (v : Int) xs (_, (j : Int)) = _
    rw [darray_Array_Save.b2, if_pos (by rw [decide_eq_true_eq]; omega), idx_nat, hj1, Option.bind_some, room_ok (by omega), Option.bind_some]
    have hp := pNum_eq (n := xs[j].To.toNat) (by omega)
    rw [show ((xs[j].To.toNat : Nat) : Int) = xs[j].To by omega] at hp
    rw [hp, Option.bind_some, room_ok (by omega), Option.bind_some, w64s (by omega), take_snoc hj1, List.flatMap_append]
    simp [saveE])
  simp only [List.take_zero, List.take_length, List.flatMap_nil, List.append_nil, show ((0 : Nat) : Int) = 0 from rfl] at hrun
  rw [hrun]
  apply Loop_end
  rw [darray_Array_Save.b2, if_neg (by rw [decide_eq_true_eq]; omega)]
  unfold darray_Array_Save.k2
  rw [w64s (by omega)]
theorem rowsLen {g : TGraph} (h : SaveOk g) (k : Nat) : (((g.Final.zip g.Edges).take k).flatMap fun p => saveR p.1 p.2).length ≤ 4626000 := by
  have hn := h.n
  have h1 := flat_len (l := (g.Final.zip g.Edges).take k) (f := fun p => saveR p.1 p.2) (n := 1542) fun p hp => saveR_len (h.rows p.2 (List.of_mem_zip (List.mem_of_mem_take hp)).2).1
  have h2 : ((g.Final.zip g.Edges).take k).length ≤ 3000 := by rw [List.length_take, List.length_zip]; omega
  have h3 : ((g.Final.zip g.Edges).take k).length * 1542 ≤ 3000 * 1542 := Nat.mul_le_mul_right _ h2
  omega
theorem Save_eq {A : Tdarray_Array} (h : SaveOk A.graph) : darray_Array_Save A = some (saveG A.graph) := by
  have hn := h.n
  have hl := h.len
  unfold darray_Array_Save
  rw [pNum_eq (by omega), Option.bind_some]
  have hrun := Loop_run (b := darray_Array_Save.b1 A) (fun j => (encN A.graph.Final.length ++ ((A.graph.Final.zip A.graph.Edges).take j).flatMap (fun p => saveR p.1 p.2), (j : Int))) (i := 0) (n := A.graph.Edges.length) (Nat.zero_le _) (fun j _ hj => by
    have hj1 : A.graph.Edges[j]? = some A.graph.Edges[j] := List.getElem?_eq_getElem hj
    have hf1 : A.graph.Final[j]? = some (A.graph.Final[j]'(by omega)) := List.getElem?_eq_getElem _
    have hz : (A.graph.Final.zip A.graph.Edges)[j]? = some (A.graph.Final[j]'(by omega), A.graph.Edges[j]) := by rw [List.getElem?_zip_eq_some]; exact ⟨hf1, hj1⟩
    obtain ⟨r1, r2⟩ := h.rows _ (List.getElem_mem hj)
    have hrl := rowsLen h j
    have hen := encN_len A.graph.Final.length
    have hen2 := encN_len A.graph.Edges[j].length
    show darray_Array_Save.b1 A (_, (j : Int)) = _
    rw [darray_Array_Save.b1, if_pos (by rw [decide_eq_true_eq]; omega), idx_nat, hj1, Option.bind_some, idx_nat, hf1, Option.bind_some, take_snoc hz, List.flatMap_append]
    have hk3 : ∀ (f : UInt8), darray_Array_Save.k3 (encN A.graph.Final.length ++ ((A.graph.Final.zip A.graph.Edges).take j).flatMap (fun p => saveR p.1 p.2)) (j : Int) A.graph.Edges[j] f = some (.next ((encN A.graph.Final.length ++ ((A.graph.Final.zip A.graph.Edges).take j).flatMap (fun p => saveR p.1 p.2)) ++ f :: (encN A.graph.Edges[j].length ++ A.graph.Edges[j].flatMap saveE), ((j + 1 : Nat) : Int))) := fun f => by
      unfold darray_Array_Save.k3
      rw [room_ok (by rw [List.length_append]; omega), Option.bind_some, pNum_eq (by omega), Option.bind_some, room_ok (by rw [List.length_append]; omega), Option.bind_some, save_row r1 r2 (by omega) (by simp only [List.length_append, List.length_singleton]; omega)]
      simp
    cases A.graph.Final[j]'(by omega) with
    | true => rw [if_pos rfl, hk3]; simp [saveR, show u8 1 = (1 : UInt8) from rfl]
    | false => rw [if_neg (by decide), hk3]; simp [saveR, show u8 0 = (0 : UInt8) from rfl])
  simp only [List.take_zero, List.flatMap_nil, List.append_nil, show ((0 : Nat) : Int) = 0 from rfl] at hrun
  rw [hrun, List.take_of_length_le (by rw [List.length_zip]; omega)]
  apply Loop_end
  rw [darray_Array_Save.b1, if_neg (by rw [decide_eq_true_eq]; omega)]
  rfl
end Go.Val

/- part P49 -/
/- Plain lemmas: Load. -/
namespace Go.Val
set_option linter.unusedVariables false
/-- A number no more than another one, and what is behind it. -/
def rdN (most : Nat) (b : List UInt8) : Option (Nat × List UInt8) := if (told 5 0 0 b).2.2 = 0 ∧ (told 5 0 0 b).1 ≤ most then some ((told 5 0 0 b).1.toNat, b.drop (told 5 0 0 b).2.1.toNat) else none
theorem told_ok : ∀ (k i acc : Nat) (b : List UInt8), 0 ≤ (told k i acc b).1 ∧ (told k i acc b).1 ≤ 2147483647 ∧ 0 ≤ (told k i acc b).2.1 ∧ (told k i acc b).2.1 ≤ i + b.length ∧ ((told k i acc b).2.2 = 0 ∨ (told k i acc b).2.2 = 2)
  | 0, _, _, _ => by simp [told]; omega
  | k + 1, i, acc, [] => by simp [told]
  | k + 1, i, acc, c :: b => by
    rw [told]
    by_cases h1 : c.toNat < 128
    · rw [if_pos h1]
      generalize c.toNat % 128 * 128 ^ i = p
      by_cases h2 : acc + p > 2147483647 ∨ (i > 0 ∧ c.toNat = 0)
      · rw [if_pos h2]; dsimp only; omega
      · rw [if_neg h2]; dsimp only; rw [List.length_cons]; omega
    · rw [if_neg h1]
      have := told_ok k (i + 1) (acc + c.toNat % 128 * 128 ^ i) b
      rw [List.length_cons]
      omega
def rdE : Nat → List UInt8 → Option (List TEdge × List UInt8)
  | 0, b => some ([], b)
  | _ + 1, [] => none
  | k + 1, c :: b => match rdN 20000 b with
    | none => none
    | some (n, b1) => match rdE k b1 with
      | none => none
      | some (l, r) => some (⟨c, (n : Int)⟩ :: l, r)
def rdRow : List UInt8 → Option (Bool × List TEdge × List UInt8)
  | [] => none
  | f :: b => match rdN 256 b with
    | none => none
    | some (k, b1) => match rdE k b1 with
      | none => none
      | some (l, b2) => if f.toNat > 1 then none else some (decide (f.toNat = 1), l, b2)
def rdRows : Nat → List UInt8 → Option (List Bool × List (List TEdge) × List UInt8)
  | 0, b => some ([], [], b)
  | n + 1, b => match rdRow b with
    | none => none
    | some (f, l, b1) => match rdRows n b1 with
      | none => none
      | some (F, E, r) => some (f :: F, l :: E, r)
theorem rdN_len {most : Nat} {b r : List UInt8} {n : Nat} (h : rdN most b = some (n, r)) : r.length ≤ b.length ∧ n ≤ most := by
  unfold rdN at h
  split at h
  · rename_i hc
    injection h with h; injection h with h1 h2
    subst h1; subst h2
    rw [List.length_drop]; omega
  · cases h
theorem byte_eq (b : List UInt8) (fl : Bool) : darray_reader_byte ⟨b, fl⟩ = some (match fl, b with | false, c :: t => (c, ⟨t, false⟩) | _, _ => (0, ⟨b, true⟩)) := by
  unfold darray_reader_byte
  cases fl with
  | true => rfl
  | false =>
    cases b with
    | nil => rfl
    | cons c t =>
      have h : ((((c :: t).length : Nat) : Int) == 0) = false := by rw [beq_eq_false_iff_ne, List.length_cons]; omega
      have hcl : cutL (c :: t) (1 : Int) = some t := by unfold cutL; rw [if_pos (by simp; omega)]; rfl
      simp only [h]
      rw [if_neg (by decide), Option.bind_some, if_neg (by decide)]
      show ((c :: t)[0]?).bind _ = _
      rw [show (c :: t)[0]? = some c from rfl, Option.bind_some, hcl, Option.bind_some]
      rfl
theorem number_eq {b : List UInt8} (hb : b.length ≤ 1000000) (fl : Bool) (most : Nat) : darray_reader_number ⟨b, fl⟩ (most : Int) = some (match fl, rdN most b with | false, some (n, r) => ((n : Int), ⟨r, false⟩) | _, _ => (0, ⟨b, true⟩)) := by
  unfold darray_reader_number
  rw [packedTold_eq hb, Option.bind_some]
  obtain ⟨t1, t2, t3, t4, t5⟩ := told_ok 5 0 0 b
  cases fl with
  | true => rfl
  | false =>
    dsimp only
    rw [if_neg (by decide)]
    unfold rdN
    by_cases h1 : (told 5 0 0 b).2.2 = 0
    · rw [if_neg (by simp [h1]), Option.bind_some]
      by_cases h2 : (told 5 0 0 b).1 ≤ most
      · have hcl : cutL b (told 5 0 0 b).2.1 = some (b.drop (told 5 0 0 b).2.1.toNat) := by unfold cutL; rw [if_pos (by omega)]
        rw [if_neg (by rw [decide_eq_true_eq]; omega), if_pos ⟨h1, h2⟩, hcl, Option.bind_some]
        simp only [decide_eq_false (show ¬ ((told 5 0 0 b).1 > (most : Int)) by omega)]
        rw [show (((told 5 0 0 b).1.toNat : Nat) : Int) = (told 5 0 0 b).1 by omega]
      · rw [if_pos (by rw [decide_eq_true_eq]; omega), if_neg (fun h => h2 h.2)]
        simp only [decide_eq_true (show (told 5 0 0 b).1 > (most : Int) by omega)]
    · rw [if_pos (by simpa using h1), Option.bind_some, if_pos rfl, if_neg (fun h => h1 h.1)]
theorem load_edges {v2 : Int} {F1 : List Bool} {E1 : List (List TEdge)} {r2 : UInt8 × Tdarray_reader} {r3 : Int × Tdarray_reader} {k : Nat} (hk : r3.1 = (k : Int)) (hk2 : k ≤ 256) : ∀ (m : Nat) (l : List TEdge) (b : List UInt8) (fl : Bool), m ≤ k → l.length = k - m → b.length ≤ 1000000 →
    ∃ l' b' fl', Loop (darray_Load.b2 v2 F1 E1 r2 r3) (l, ((k - m : Nat) : Int), b, fl) = (darray_Load.k3 v2 F1 E1 r2 l' b' fl') ∧ b'.length ≤ 1000000 ∧ (∀ l2 r, fl = false → rdE m b = some (l2, r) → l' = l ++ l2 ∧ b' = r ∧ fl' = false) ∧ ((fl = true ∨ rdE m b = none) → fl' = true)
  | 0, l, b, fl, hm, hl, hb => by
    refine ⟨l, b, fl, ?_, hb, fun l2 r h1 h2 => ?_, fun h => ?_⟩
    · apply Loop_end
      rw [darray_Load.b2, if_neg (by rw [decide_eq_true_eq, hk]; omega)]
    · simp [rdE] at h2; obtain ⟨rfl, rfl⟩ := h2; exact ⟨by simp, rfl, h1⟩
    · rcases h with h | h
      · exact h
      · cases h
  | m + 1, l, b, fl, hm, hl, hb => by
    have hstep : ∀ (c : UInt8) (n : Int) (rd : Tdarray_reader) (rd2 : Tdarray_reader), darray_reader_byte ⟨b, fl⟩ = some (c, rd2) → darray_reader_number rd2 20000 = some (n, rd) → darray_Load.b2 v2 F1 E1 r2 r3 (l, ((k - (m + 1) : Nat) : Int), b, fl) = some (.next (l ++ [⟨c, n⟩], ((k - m : Nat) : Int), rd.rest_, rd.fault)) := fun c n rd rd2 h1 h2 => by
      rw [darray_Load.b2, if_pos (by rw [decide_eq_true_eq, hk]; omega), h1, Option.bind_some, h2, Option.bind_some, room_ok (by omega), Option.bind_some, w64s (by omega)]
      rw [show k - (m + 1) + 1 = k - m by omega]
    have hbad : ∀ (c : UInt8) (n : Int) (b2 : List UInt8), b2.length ≤ 1000000 → (fl = true ∨ rdE (m + 1) b = none) → darray_Load.b2 v2 F1 E1 r2 r3 (l, ((k - (m + 1) : Nat) : Int), b, fl) = some (.next (l ++ [⟨c, n⟩], ((k - m : Nat) : Int), b2, true)) → ∃ l' b' fl', Loop (darray_Load.b2 v2 F1 E1 r2 r3) (l, ((k - (m + 1) : Nat) : Int), b, fl) = (darray_Load.k3 v2 F1 E1 r2 l' b' fl') ∧ b'.length ≤ 1000000 ∧ (∀ l2 r, fl = false → rdE (m + 1) b = some (l2, r) → l' = l ++ l2 ∧ b' = r ∧ fl' = false) ∧ ((fl = true ∨ rdE (m + 1) b = none) → fl' = true) := fun c n b2 hb2 hcond hst => by
      obtain ⟨l', b', fl', e1, e2, e3, e4⟩ := load_edges hk hk2 m (l ++ [⟨c, n⟩]) b2 true (by omega) (by simp; omega) hb2
      refine ⟨l', b', fl', by rw [Loop_next hst]; exact e1, e2, fun l2 r h1 h2 => ?_, fun _ => e4 (.inl rfl)⟩
      rcases hcond with h | h
      · rw [h] at h1; cases h1
      · rw [h] at h2; cases h2
    cases fl with
    | true =>
      have hn := number_eq hb true 20000
      exact hbad 0 0 b hb (.inl rfl) (hstep 0 0 ⟨b, true⟩ ⟨b, true⟩ (byte_eq b true) hn)
    | false =>
      cases b with
      | nil =>
        have hn := number_eq (b := []) (by simp) true 20000
        exact hbad 0 0 [] (by simp) (.inr rfl) (hstep 0 0 ⟨[], true⟩ ⟨[], true⟩ (byte_eq [] false) hn)
      | cons c t =>
        have ht : t.length ≤ 1000000 := by simp at hb; omega
        have hn := number_eq ht false 20000
        cases hr : rdN 20000 t with
        | none =>
          rw [hr] at hn
          exact hbad c 0 t ht (.inr (by rw [rdE, hr])) (hstep c 0 ⟨t, true⟩ ⟨t, false⟩ (byte_eq (c :: t) false) hn)
        | some p =>
          obtain ⟨n, b1⟩ := p
          rw [hr] at hn
          have hl1 := (rdN_len hr).1
          have hst := hstep c (n : Int) ⟨b1, false⟩ ⟨t, false⟩ (byte_eq (c :: t) false) hn
          obtain ⟨l', b', fl', e1, e2, e3, e4⟩ := load_edges (v2 := v2) (F1 := F1) (E1 := E1) (r2 := r2) hk hk2 m (l ++ [⟨c, (n : Int)⟩]) b1 false (by omega) (by simp; omega) (by omega)
          refine ⟨l', b', fl', by rw [Loop_next hst]; exact e1, e2, fun l2 r _ h2 => ?_, fun h => ?_⟩
          · rw [rdE, hr] at h2
            dsimp only at h2
            cases hre : rdE m b1 with
            | none => rw [hre] at h2; cases h2
            | some q =>
              obtain ⟨l3, r3⟩ := q
              rw [hre] at h2
              dsimp only at h2
              injection h2 with h2; injection h2 with q1 q2
              obtain ⟨g1, g2, g3⟩ := e3 l3 r3 rfl hre
              subst q1; subst q2
              exact ⟨by rw [g1]; simp, g2, g3⟩
          · rcases h with h | h
            · cases h
            · rw [rdE, hr] at h
              dsimp only at h
              cases hre : rdE m b1 with
              | none => exact e4 (.inr hre)
              | some q => rw [hre] at h; cases h
end Go.Val

/- part P50 -/
/- Plain lemmas: Load, the rows. -/
namespace Go.Val
set_option linter.unusedVariables false
theorem rdE_len : ∀ {k : Nat} {b r : List UInt8} {l : List TEdge}, rdE k b = some (l, r) → r.length ≤ b.length ∧ l.length = k
  | 0, b, r, l, h => by simp [rdE] at h; obtain ⟨rfl, rfl⟩ := h; simp
  | k + 1, [], r, l, h => by simp [rdE] at h
  | k + 1, c :: b, r, l, h => by
    rw [rdE] at h
    cases h1 : rdN 20000 b with
    | none => rw [h1] at h; cases h
    | some p =>
      obtain ⟨n, b1⟩ := p
      rw [h1] at h
      dsimp only at h
      cases h2 : rdE k b1 with
      | none => rw [h2] at h; cases h
      | some q =>
        obtain ⟨l2, r2⟩ := q
        rw [h2] at h
        injection h with h; injection h with q1 q2
        have := rdN_len h1
        have := rdE_len h2
        subst q1; subst q2
        rw [List.length_cons, List.length_cons]; omega
theorem rdRow_len {b r : List UInt8} {f : Bool} {l : List TEdge} (h : rdRow b = some (f, l, r)) : r.length ≤ b.length ∧ l.length ≤ 256 := by
  cases b with
  | nil => cases h
  | cons c b =>
    rw [rdRow] at h
    cases h1 : rdN 256 b with
    | none => rw [h1] at h; cases h
    | some p =>
      obtain ⟨k, b1⟩ := p
      rw [h1] at h
      dsimp only at h
      cases h2 : rdE k b1 with
      | none => rw [h2] at h; cases h
      | some q =>
        obtain ⟨l2, r2⟩ := q
        rw [h2] at h
        dsimp only at h
        split at h
        · cases h
        · injection h with h; injection h with q1 q2; injection q2 with q2 q3
          have := rdN_len h1
          have := rdE_len h2
          subst q2; subst q3
          rw [List.length_cons]; omega
theorem load_rows {r : Int × Tdarray_reader} {n : Nat} (hn : r.1 = (n : Int)) (hn2 : n ≤ 20000) : ∀ (m : Nat) (F : List Bool) (E : List (List TEdge)) (b : List UInt8), m ≤ n → F.length = n - m → E.length = n - m → b.length ≤ 1000000 →
    Loop (darray_Load.b1 r) (((n - m : Nat) : Int), b, false, F, E) = (match rdRows m b with | none => some (none, 2) | some (F2, E2, r2) => darray_Load.k1 r2 false (F ++ F2) (E ++ E2))
  | 0, F, E, b, hm, hF, hE, hb => by
    rw [rdRows]
    dsimp only
    rw [List.append_nil, List.append_nil]
    apply Loop_end
    rw [darray_Load.b1, if_neg (by rw [decide_eq_true_eq, hn]; omega)]
  | m + 1, F, E, b, hm, hF, hE, hb => by
    have hgo : ∀ (c : UInt8) (rd2 : Tdarray_reader) (k : Nat) (b1 : List UInt8) (fl : Bool), darray_reader_byte ⟨b, false⟩ = some (c, rd2) → darray_reader_number rd2 256 = some ((k : Int), ⟨b1, fl⟩) → k ≤ 256 → b1.length ≤ 1000000 →
        ∃ l' b' fl', darray_Load.b1 r (((n - (m + 1) : Nat) : Int), b, false, F, E) = (darray_Load.k3 ((n - (m + 1) : Nat) : Int) F E (c, rd2) l' b' fl') ∧ b'.length ≤ 1000000 ∧ (∀ l2 r, fl = false → rdE k b1 = some (l2, r) → l' = l2 ∧ b' = r ∧ fl' = false) ∧ ((fl = true ∨ rdE k b1 = none) → fl' = true) := fun c rd2 k b1 fl h1 h2 hk hb1 => by
      obtain ⟨l', b', fl', e1, e2, e3, e4⟩ := load_edges (v2 := ((n - (m + 1) : Nat) : Int)) (F1 := F) (E1 := E) (r2 := (c, rd2)) (r3 := ((k : Int), ⟨b1, fl⟩)) rfl hk k [] b1 fl (Nat.le_refl _) (by simp) hb1
      refine ⟨l', b', fl', ?_, e2, fun l2 r h3 h4 => by obtain ⟨g1, g2, g3⟩ := e3 l2 r h3 h4; exact ⟨by rw [g1]; rfl, g2, g3⟩, e4⟩
      rw [darray_Load.b1, if_pos (by rw [decide_eq_true_eq, hn]; omega), h1, Option.bind_some, h2, Option.bind_some]
      rw [Nat.sub_self] at e1
      exact e1
    have hk3 : ∀ (c : UInt8) (rd2 : Tdarray_reader) (l' : List TEdge) (b' : List UInt8) (fl' : Bool), (fl' = true ∨ c.toNat > 1) → darray_Load.k3 ((n - (m + 1) : Nat) : Int) F E (c, rd2) l' b' fl' = some (.done (none, 2)) := fun c rd2 l' b' fl' h => by
      unfold darray_Load.k3
      rw [if_pos (by rw [Bool.or_eq_true, decide_eq_true_eq]; rcases h with h | h
                     · exact .inl h
                     · right; show (c.toNat : Int) > 1; omega)]
    cases b with
    | nil =>
      obtain ⟨l', b', fl', e1, e2, e3, e4⟩ := hgo 0 ⟨[], true⟩ 0 [] true (byte_eq [] false) (number_eq (b := []) (by simp) true 256) (by omega) (by simp)
      rw [rdRows, rdRow]
      dsimp only
      apply Loop_done
      rw [e1, hk3 _ _ _ _ _ (.inl (e4 (.inl rfl)))]
    | cons c t =>
      have ht : t.length ≤ 1000000 := by simp at hb; omega
      have hnum := number_eq ht false 256
      rw [rdRows, rdRow]
      cases hr : rdN 256 t with
      | none =>
        rw [hr] at hnum
        obtain ⟨l', b', fl', e1, e2, e3, e4⟩ := hgo c ⟨t, false⟩ 0 t true (byte_eq (c :: t) false) hnum (by omega) ht
        dsimp only
        apply Loop_done
        rw [e1, hk3 _ _ _ _ _ (.inl (e4 (.inl rfl)))]
      | some p =>
        obtain ⟨k, b1⟩ := p
        rw [hr] at hnum
        have hl1 := rdN_len hr
        obtain ⟨l', b', fl', e1, e2, e3, e4⟩ := hgo c ⟨t, false⟩ k b1 false (byte_eq (c :: t) false) hnum hl1.2 (by omega)
        dsimp only
        cases hre : rdE k b1 with
        | none =>
          dsimp only
          apply Loop_done
          rw [e1, hk3 _ _ _ _ _ (.inl (e4 (.inr hre)))]
        | some q =>
          obtain ⟨l2, b2⟩ := q
          obtain ⟨g1, g2, g3⟩ := e3 l2 b2 rfl hre
          subst g1; subst g2; subst g3
          dsimp only
          by_cases hc : c.toNat > 1
          · rw [if_pos hc]
            dsimp only
            apply Loop_done
            rw [e1, hk3 _ _ _ _ _ (.inr hc)]
          · rw [if_neg hc]
            dsimp only
            have hst : darray_Load.b1 r (((n - (m + 1) : Nat) : Int), c :: t, false, F, E) = some (.next (((n - m : Nat) : Int), b', false, F ++ [decide (c.toNat = 1)], E ++ [l'])) := by
              rw [e1]
              unfold darray_Load.k3
              have hd : decide ((c.toNat : Int) > 1) = false := decide_eq_false (by omega)
              simp only [hd, Bool.or_false]
              rw [if_neg (by decide), room_ok (by omega), Option.bind_some, room_ok (by omega), Option.bind_some]
              unfold darray_Load.k2
              rw [w64s (by omega), show n - (m + 1) + 1 = n - m by omega]
              have hb1 : ((c.toNat : Int) == 1) = decide (c.toNat = 1) := by
                rw [Bool.eq_iff_iff, beq_iff_eq, decide_eq_true_eq]; omega
              rw [hb1]
            rw [Loop_next hst, load_rows hn hn2 m _ _ b' (by omega) (by simp; omega) (by simp; omega) (by omega)]
            cases rdRows m b' with
            | none => rfl
            | some q =>
              obtain ⟨F2, E2, r2⟩ := q
              dsimp only
              rw [List.append_assoc, List.append_assoc]
              rfl
theorem Load_eq {b : List UInt8} (hb : b.length ≤ 1000000) : darray_Load b = (match rdN 20000 b with | none => some (none, 2) | some (n, b1) => match rdRows n b1 with | none => some (none, 2) | some (F, E, r) => darray_Load.k1 r false F E) := by
  have hnum := number_eq hb false 20000
  unfold darray_Load
  cases hr : rdN 20000 b with
  | none =>
    rw [hr] at hnum
    rw [show (20000 : Int) = ((20000 : Nat) : Int) from rfl, hnum, Option.bind_some]
    dsimp only
    apply Loop_end
    rw [darray_Load.b1, if_neg (by show ¬ (decide ((0 : Int) < 0) = true); decide)]
    unfold darray_Load.k1
    rw [Pack_bad (fun xs hx => by cases hx) (fun h => by have := h.lo; simp at this)]
    rfl
  | some p =>
    obtain ⟨n, b1⟩ := p
    rw [hr] at hnum
    have hl := rdN_len hr
    rw [show (20000 : Int) = ((20000 : Nat) : Int) from rfl, hnum, Option.bind_some]
    have := load_rows (r := ((n : Int), ⟨b1, false⟩)) rfl hl.2 n [] [] b1 (Nat.le_refl _) (by simp) (by simp) (by omega)
    rw [Nat.sub_self] at this
    exact this
end Go.Val

/- part P51 -/
/- Plain lemmas: DarrayWords. -/
namespace Go.Val
set_option linter.unusedVariables false
theorem many_sum {rows : List (List TEdge)} : ∀ k, k ≤ rows.length → many rows k = ((rows.take k).map List.length).sum
  | 0, _ => by simp [many]
  | k + 1, h => by
    have hx : rows[k]? = some (rows[k]'(by omega)) := List.getElem?_eq_getElem _
    rw [many, many_sum k (by omega), take_snoc hx, List.map_append, List.sum_append, getD_row' hx]
    simp
where getD_row' {rows : List (List TEdge)} {k : Nat} {xs : List TEdge} (h : rows[k]? = some xs) : rows.getD k [] = xs := by rw [List.getD_eq_getElem?_getD, h]; rfl
end Go.Val

/- part P52 -/
/- Plain lemmas: the reference's Pack. -/
namespace Go.Val
set_option linter.unusedVariables false
def tk (cs : List Tdarray_cell) : List Bool := cs.map fun c => !(decide (c = zC))
theorem tk_len {cs : List Tdarray_cell} : (tk cs).length = cs.length := by unfold tk; rw [List.length_map]
theorem tk_at {cs : List Tdarray_cell} {i : Nat} (h : i < cs.length) : (tk cs)[i]? = some (!(decide (lk cs i = zC))) := by
  unfold tk; rw [List.getElem?_map, lk_some h]; rfl
theorem refFree_eq {cs : List Tdarray_cell} {l : List TEdge} {b : Nat} (hb : b ≤ 1000000) (hl : l.length ≤ 1000000) : (freeAt cs l b → scansionref18_free (tk cs) l (b : Int) = some true) ∧ (¬ freeAt cs l b → scansionref18_free (tk cs) l (b : Int) = some false) := by
  unfold scansionref18_free
  have hval : ∀ j (hj : j < l.length), (if decide (IntKind.i64.wrap ((b : Int) + IntKind.i64.wrap (l[j].Label.toNat : Int)) < ((tk cs).length : Int)) = true then (idx (tk cs) (IntKind.i64.wrap ((b : Int) + IntKind.i64.wrap (l[j].Label.toNat : Int)))).bind fun b => some b else some false) = some (!(decide (lk cs (b + l[j].Label.toNat) = zC))) := fun j hj => by
    have hx := l[j].Label.toNat_lt
    rw [wlab, w64 (by omega) (by omega), tk_len]
    by_cases h : b + l[j].Label.toNat < cs.length
    · rw [if_pos (by rw [decide_eq_true_eq]; omega), show (b : Int) + (l[j].Label.toNat : Int) = ((b + l[j].Label.toNat : Nat) : Int) by omega, idx_nat, tk_at h, Option.bind_some]
    · rw [if_neg (by rw [decide_eq_true_eq]; omega), lk_ge (by omega)]; simp
  have := Loop_all0 (b := scansionref18_free.b1 (tk cs) l (b : Int)) (fun j => ∀ x, l[j]? = some x → lk cs (b + x.Label.toNat) = zC) l.length (r := false) (R := true) (fun j hj hp => by
    have hj1 : l[j]? = some l[j] := List.getElem?_eq_getElem hj
    rw [scansionref18_free.b1, if_pos (by rw [decide_eq_true_eq]; omega), idx_nat, hj1, Option.bind_some, hval j hj, Option.bind_some, hp _ hj1]
    rw [if_neg (by simp), w64s (by omega)]) (fun j hj hp => by
    have hj1 : l[j]? = some l[j] := List.getElem?_eq_getElem hj
    have hne : lk cs (b + l[j].Label.toNat) ≠ zC := fun h => hp fun x hx => by rw [hj1] at hx; injection hx with hx; subst hx; exact h
    rw [scansionref18_free.b1, if_pos (by rw [decide_eq_true_eq]; omega), idx_nat, hj1, Option.bind_some, hval j hj, Option.bind_some, if_pos (by simpa using hne)]) (by
    rw [scansionref18_free.b1, if_neg (by rw [decide_eq_true_eq]; omega)]; rfl)
  refine ⟨fun h => this.1 fun j hj x hx => h x (List.mem_of_getElem? hx), fun h => this.2 fun hall => h fun x hx => ?_⟩
  obtain ⟨j, hj⟩ := List.getElem?_of_mem hx
  exact hall j (List.getElem?_eq_some_iff.1 hj).1 x hj
theorem tk_put {s b : Nat} {cs : List Tdarray_cell} {x : TEdge} : tk (putE s b cs x) = ((tk cs) ++ List.replicate (b + x.Label.toNat + 1 - cs.length) false).set (b + x.Label.toNat) true := by
  have hc : (⟨(s : Int) + 1, x.To⟩ : Tdarray_cell) ≠ zC := fun e => by
    have := congrArg Tdarray_cell.of e
    simp [zC] at this; omega
  have hd : (!(decide ((⟨(s : Int) + 1, x.To⟩ : Tdarray_cell) = zC))) = true := by simpa using hc
  unfold putE tk
  rw [List.map_set, hd]
  congr 1
  by_cases h : b + x.Label.toNat ≥ cs.length
  · rw [if_pos h, List.map_append, List.map_replicate]
    simp
  · rw [if_neg h, show b + x.Label.toNat + 1 - cs.length = 0 by omega]; simp
theorem ref_edge {s b : Nat} {cs : List Tdarray_cell} {x : TEdge} {j : Nat} (hb : b ≤ 1000000) (hc : cs.length ≤ 1000000) (hj : j ≤ 1000000) : Loop (scansionref18_Pack.b3 (b : Int) (j : Int) x) (tk cs) = some (.next (tk (putE s b cs x), ((j + 1 : Nat) : Int))) := by
  have hlt := x.Label.toNat_lt
  have hat : IntKind.i64.wrap ((b : Int) + IntKind.i64.wrap (x.Label.toNat : Int)) = ((b + x.Label.toNat : Nat) : Int) := by
    rw [wlab, w64 (by omega) (by omega)]; omega
  have hrun := Loop_run (b := scansionref18_Pack.b3 (b : Int) (j : Int) x) (fun n => tk cs ++ List.replicate n false) (i := 0) (n := b + x.Label.toNat + 1 - cs.length) (Nat.zero_le _) (fun n _ hn => by
    show scansionref18_Pack.b3 (b : Int) (j : Int) x (tk cs ++ List.replicate n false) = _
    have hl : (tk cs ++ List.replicate n false).length = cs.length + n := by rw [List.length_append, tk_len, List.length_replicate]
    rw [scansionref18_Pack.b3, hat, if_pos (by rw [decide_eq_true_eq, hl]; omega), room_ok (by rw [hl]; omega), Option.bind_some, List.append_assoc]
    congr 3
    rw [List.replicate_succ'])
  simp only [List.replicate_zero, List.append_nil] at hrun
  rw [hrun]
  have hl : (tk cs ++ List.replicate (b + x.Label.toNat + 1 - cs.length) false).length = cs.length + (b + x.Label.toNat + 1 - cs.length) := by rw [List.length_append, tk_len, List.length_replicate]
  apply Loop_end
  rw [scansionref18_Pack.b3, hat, if_neg (by rw [decide_eq_true_eq, hl]; omega)]
  unfold scansionref18_Pack.k6 scansionref18_Pack.k5
  have hx : (tk cs ++ List.replicate (b + x.Label.toNat + 1 - cs.length) false)[b + x.Label.toNat]? = some ((tk cs ++ List.replicate (b + x.Label.toNat + 1 - cs.length) false)[b + x.Label.toNat]'(by rw [hl]; omega)) := List.getElem?_eq_getElem _
  rw [hat, idx_nat, hx, Option.bind_some, Int.toNat_natCast, w64s (by omega), tk_put]
theorem ref_row {g : TGraph} {k : Nat} {cs : List Tdarray_cell} {xs : List TEdge} {b : Nat} (hgx : g.Edges[k]? = some xs) (hx : xs.length ≤ 256) (hc : cs.length ≤ 800000) (hb : b ≤ cs.length) (hk : k ≤ 100000) :
    scansionref18_Pack.k3 g (tk cs) (k : Int) (b : Int) = some (.next (tk (xs.foldl (putE k b) cs), ((k + 1 : Nat) : Int))) := by
  unfold scansionref18_Pack.k3
  have hrun := Loop_run (b := scansionref18_Pack.b2 g (k : Int) (b : Int)) (fun j => (tk ((xs.take j).foldl (putE k b) cs), (j : Int))) (i := 0) (n := xs.length) (Nat.zero_le _) (fun j _ hj => by
    have hj1 : xs[j]? = some xs[j] := List.getElem?_eq_getElem hj
    have hlen := puts_len (s := k) (b := b) (cells := cs) (l := xs.take j)
    show scansionref18_Pack.b2 g (k : Int) (b : Int) (_, (j : Int)) = _
    rw [scansionref18_Pack.b2, idx_nat, hgx, Option.bind_some, if_pos (by rw [decide_eq_true_eq]; omega), idx_nat, hj1, Option.bind_some, take_snoc hj1, List.foldl_append, ref_edge (s := k) (by omega) (by omega) (by omega)]
    rfl)
  simp only [List.take_zero, List.take_length, show ((0 : Nat) : Int) = 0 from rfl] at hrun
  rw [show ([] : List TEdge).foldl (putE k b) cs = cs from rfl] at hrun
  rw [hrun]
  have hlen := puts_len (s := k) (b := b) (cells := cs) (l := xs)
  apply Loop_end
  rw [scansionref18_Pack.b2, idx_nat, hgx, Option.bind_some, if_neg (by rw [decide_eq_true_eq]; omega)]
  unfold scansionref18_Pack.k4 scansionref18_Pack.k2
  rw [tk_len, if_neg (by rw [decide_eq_true_eq]; omega), w64s (by omega)]
theorem ref_base {g : TGraph} {k : Nat} {cs : List Tdarray_cell} {xs : List TEdge} (hgx : g.Edges[k]? = some xs) (hx : xs.length ≤ 256) (hc : cs.length ≤ 800000) (hk : k ≤ 100000) :
    Loop (scansionref18_Pack.b4 g (tk cs) (k : Int)) 0 = some (.next (tk (xs.foldl (putE k (ff cs xs)) cs), ((k + 1 : Nat) : Int))) := by
  have hff := ff_le cs xs
  have hcond : ∀ j : Nat, j ≤ ff cs xs → ((idx g.Edges (k : Int)).bind fun xs1 => if decide ((xs1.length : Int) > 0) = true then (scansionref18_free (tk cs) xs1 (j : Int)).bind fun r2 => some (!r2) else some false) = some (decide (j < ff cs xs)) := fun j hj => by
    rw [idx_nat, hgx, Option.bind_some]
    by_cases h0 : xs = []
    · subst h0
      have hz : ff cs [] = 0 := Nat.eq_zero_of_not_pos fun hp => ff_first cs [] 0 hp fun x hx => by cases hx
      rw [if_neg (by simp), hz]; simp
    · have := List.length_pos_iff.2 h0
      rw [if_pos (by rw [decide_eq_true_eq]; omega)]
      by_cases hl : j < ff cs xs
      · rw [(refFree_eq (by omega) (by omega)).2 (ff_first cs xs j hl), Option.bind_some, decide_eq_true hl]; rfl
      · obtain rfl : j = ff cs xs := by omega
        rw [(refFree_eq (by omega) (by omega)).1 (ff_free cs xs), Option.bind_some, decide_eq_false hl]; rfl
  have hrun := Loop_int (b := scansionref18_Pack.b4 g (tk cs) (k : Int)) (i := 0) (n := ff cs xs) (Nat.zero_le _) (fun j _ hj => by
    rw [scansionref18_Pack.b4, hcond j (by omega), Option.bind_some, if_pos (decide_eq_true hj), w64s (by omega)])
  rw [show ((0 : Nat) : Int) = 0 from rfl] at hrun
  rw [hrun]
  apply Loop_end
  rw [scansionref18_Pack.b4, hcond _ (Nat.le_refl _), Option.bind_some, if_neg (by simp), ref_row hgx hx hc hff hk]
theorem refPack_eq {g : TGraph} (hr : RightP g) (hs : Short g) (hn : g.Final.length ≤ 3000) (hm20 : many g.Edges g.Edges.length ≤ 20000) : scansionref18_Pack g = some (some ⟨g, ((arrOf g).cells.length : Int)⟩, 0) := by
  have hel := hr.len
  have hrs := right_rises hr
  unfold scansionref18_Pack
  rw [ref_Right_eq hs, Option.bind_some, if_neg (by simp [hr]), if_neg (by rw [decide_eq_true_eq]; omega)]
  have hed : scansionref18_edges g = some (many g.Edges g.Edges.length : Int) := by
    unfold scansionref18_edges
    have hrun := Loop_run (b := scansionref18_edges.b1 g) (fun k => ((many g.Edges k : Int), (k : Int))) (i := 0) (n := g.Edges.length) (Nat.zero_le _) (fun j _ hj => by
      have hj1 : g.Edges[j]? = some g.Edges[j] := List.getElem?_eq_getElem hj
      have h1 := many_le hrs j
      have h2 := rise_256 (hrs j)
      rw [getD_row hj1] at h2
      show scansionref18_edges.b1 g ((many g.Edges j : Int), (j : Int)) = _
      rw [scansionref18_edges.b1, if_pos (by rw [decide_eq_true_eq]; omega), idx_nat, hj1, Option.bind_some, w64 (by omega) (by omega), w64s (by omega)]
      have : many g.Edges (j + 1) = many g.Edges j + g.Edges[j].length := by rw [many, getD_row hj1]
      rw [this]
      congr 3)
    have h0 : ((many g.Edges 0 : Nat) : Int) = 0 := rfl
    simp only [h0, show ((0 : Nat) : Int) = 0 from rfl] at hrun
    rw [hrun]
    apply Loop_end
    rw [scansionref18_edges.b1, if_neg (by rw [decide_eq_true_eq]; omega)]
    rfl
  rw [hed, Option.bind_some, Option.bind_some, if_neg (by rw [decide_eq_true_eq]; omega)]
  have hrun2 := Loop_run (b := scansionref18_Pack.b1 g) (fun k => (tk (packN g.Edges k).2, (k : Int))) (i := 0) (n := g.Edges.length) (Nat.zero_le _) (fun j _ hj => by
    have hj1 : g.Edges[j]? = some g.Edges[j] := List.getElem?_eq_getElem hj
    have inv := packN_inv hrs j
    have hfull := full_le g.Edges j
    have h2 := rise_256 (hrs j)
    have hsz := inv.size
    show scansionref18_Pack.b1 g (_, (j : Int)) = _
    rw [scansionref18_Pack.b1, if_pos (by rw [decide_eq_true_eq]; omega), ref_base hj1 (by rw [getD_row hj1] at h2; exact h2) (by omega) (by omega)]
    rw [packN, getD_row hj1])
  rw [show (([] : List Bool), (0 : Int)) = (tk (packN g.Edges 0).2, ((0 : Nat) : Int)) from rfl]
  rw [hrun2]
  apply Loop_end
  rw [scansionref18_Pack.b1, if_neg (by rw [decide_eq_true_eq]; omega)]
  unfold scansionref18_Pack.k1
  rw [tk_len]
  rfl
theorem refPack_bad {g : TGraph} (hs : Short g) (hr : ¬ RightP g) : scansionref18_Pack g = some (none, 1) := by
  unfold scansionref18_Pack
  rw [ref_Right_eq hs, Option.bind_some, if_pos (by simp [hr])]
end Go.Val

/- part P53 -/
/- Plain lemmas: DarrayPacks. -/
namespace Go.Val
set_option linter.unusedVariables false
theorem refPrefixes_eq {g : TGraph} (hs : Short g) (hr : RightP g) (cells : Int) {b : Str} (hb : b.length ≤ 1000) : scansionref18_Array_Prefixes ⟨g, cells⟩ b = some (prefS g b (b.length + 1)) := by
  unfold scansionref18_Array_Prefixes
  have hrun := Loop_run (b := scansionref18_Array_Prefixes.b1 ⟨g, cells⟩ b) (fun k => (prefS g b k, (k : Int))) (i := 0) (n := b.length + 1) (Nat.zero_le _) (fun k _ hk => by
    have hl := prefS_len (g := g) (b := b) (n := k)
    have hcut : cutH b (k : Int) = some (b.take k) := by unfold cutH; rw [if_pos (by omega)]; rfl
    have hk2 : ∀ v, scansionref18_Array_Prefixes.k2 (k : Int) v = some (.next (v, ((k + 1 : Nat) : Int))) := fun v => by unfold scansionref18_Array_Prefixes.k2; rw [w64s (by omega)]
    show scansionref18_Array_Prefixes.b1 ⟨g, cells⟩ b (_, (k : Int)) = _
    rw [scansionref18_Array_Prefixes.b1, if_pos (by rw [decide_eq_true_eq]; omega), hcut, Option.bind_some, Int.toNat_natCast]
    show ((scansionref17_Has g (b.take k)).bind _) = _
    rw [ref_Has_eq hs hr (by rw [List.length_take]; omega), Option.bind_some, prefS_succ]
    cases hasS g (b.take k) with
    | false => rw [if_neg (by decide), if_neg (by decide), List.append_nil, hk2]
    | true => rw [if_pos rfl, if_pos rfl, room_ok (by omega), Option.bind_some, hk2])
  simp only [show ((0 : Nat) : Int) = 0 from rfl] at hrun
  rw [show prefS g b 0 = [] from rfl] at hrun
  rw [hrun]
  apply Loop_end
  rw [scansionref18_Array_Prefixes.b1, if_neg (by rw [decide_eq_true_eq]; omega)]
  rfl
theorem refWords_eq {g : TGraph} (hs : Short g) (hr : RightP g) (cells : Int) : scansionref18_Array_Words ⟨g, cells⟩ = some ((counts (rowsOf g)).getD (g.Final.length - 1) 0) := by
  have hlo := hr.lo
  have hlen : (counts (rowsOf g)).length = g.Final.length := by rw [counts_len, rows_len hr.len]
  unfold scansionref18_Array_Words
  dsimp only
  rw [ref_Count_eq hs hr, Option.bind_some]
  dsimp only
  rw [hlen, start_w hr, cnt_at hr (by omega) (by omega), Option.bind_some]
  rw [show ((g.Final.length : Int) - 1).toNat = g.Final.length - 1 by omega]
theorem refsave_row {xs : List TEdge} (hx : xs.length ≤ 256) (ht : ∀ x ∈ xs, 0 ≤ x.To ∧ x.To ≤ 20000) {v : Nat} (hv : v ≤ 100000) {out : List UInt8} (ho : out.length ≤ 10000000) : Loop (scansionref18_Array_Save.b2 (v : Int) xs) (out, 0) = some (.next (out ++ xs.flatMap saveE, ((v + 1 : Nat) : Int))) := by
  have hrun := Loop_run (b := scansionref18_Array_Save.b2 (v : Int) xs) (fun j => (out ++ (xs.take j).flatMap saveE, (j : Int))) (i := 0) (n := xs.length) (Nat.zero_le _) (fun j _ hj => by
    have hj1 : xs[j]? = some xs[j] := List.getElem?_eq_getElem hj
    have h1 := ht _ (List.getElem_mem hj)
    have hfl := flat_len (l := xs.take j) (f := saveE) (n := 6) fun x _ => saveE_len x
    have htl : (xs.take j).length ≤ 256 := by rw [List.length_take]; omega
    have hol : (out ++ (xs.take j).flatMap saveE).length ≤ 10002000 := by rw [List.length_append]; omega
    have hen := encN_len xs[j].To.toNat
    show scansionref18_Array_Save.b2 (v : Int) xs (_, (j : Int)) = _
    rw [scansionref18_Array_Save.b2, if_pos (by rw [decide_eq_true_eq]; omega), idx_nat, hj1, Option.bind_some, room_ok (by omega), Option.bind_some]
    have hp := rNum_eq (n := xs[j].To.toNat) (by omega)
    rw [show ((xs[j].To.toNat : Nat) : Int) = xs[j].To by omega] at hp
    rw [hp, Option.bind_some, room_ok (by omega), Option.bind_some, w64s (by omega), take_snoc hj1, List.flatMap_append]
    simp [saveE])
  simp only [List.take_zero, List.take_length, List.flatMap_nil, List.append_nil, show ((0 : Nat) : Int) = 0 from rfl] at hrun
  rw [hrun]
  apply Loop_end
  rw [scansionref18_Array_Save.b2, if_neg (by rw [decide_eq_true_eq]; omega)]
  unfold scansionref18_Array_Save.k2
  rw [w64s (by omega)]
theorem refSave_eq {g : TGraph} {cells : Int} (h : SaveOk g) : scansionref18_Array_Save ⟨g, cells⟩ = some (saveG g) := by
  have hn := h.n
  have hl := h.len
  unfold scansionref18_Array_Save
  dsimp only
  rw [rNum_eq (by omega), Option.bind_some]
  have hrun := Loop_run (b := scansionref18_Array_Save.b1 ⟨g, cells⟩) (fun j => (encN g.Final.length ++ ((g.Final.zip g.Edges).take j).flatMap (fun p => saveR p.1 p.2), (j : Int))) (i := 0) (n := g.Edges.length) (Nat.zero_le _) (fun j _ hj => by
    have hj1 : g.Edges[j]? = some g.Edges[j] := List.getElem?_eq_getElem hj
    have hf1 : g.Final[j]? = some (g.Final[j]'(by omega)) := List.getElem?_eq_getElem _
    have hz : (g.Final.zip g.Edges)[j]? = some (g.Final[j]'(by omega), g.Edges[j]) := by rw [List.getElem?_zip_eq_some]; exact ⟨hf1, hj1⟩
    obtain ⟨r1, r2⟩ := h.rows _ (List.getElem_mem hj)
    have hrl := rowsLen h j
    have hen := encN_len g.Final.length
    have hen2 := encN_len g.Edges[j].length
    show scansionref18_Array_Save.b1 ⟨g, cells⟩ (_, (j : Int)) = _
    rw [scansionref18_Array_Save.b1]
    dsimp only
    rw [if_pos (by rw [decide_eq_true_eq]; omega), idx_nat, hf1, Option.bind_some, take_snoc hz, List.flatMap_append]
    have hk3 : ∀ (f : UInt8), scansionref18_Array_Save.k3 ⟨g, cells⟩ (encN g.Final.length ++ ((g.Final.zip g.Edges).take j).flatMap (fun p => saveR p.1 p.2)) (j : Int) f = some (.next ((encN g.Final.length ++ ((g.Final.zip g.Edges).take j).flatMap (fun p => saveR p.1 p.2)) ++ f :: (encN g.Edges[j].length ++ g.Edges[j].flatMap saveE), ((j + 1 : Nat) : Int))) := fun f => by
      unfold scansionref18_Array_Save.k3
      dsimp only
      rw [room_ok (by rw [List.length_append]; omega), Option.bind_some, idx_nat, hj1, Option.bind_some, rNum_eq (by omega), Option.bind_some, room_ok (by rw [List.length_append]; omega), Option.bind_some, refsave_row r1 r2 (by omega) (by simp only [List.length_append, List.length_singleton]; omega)]
      simp
    cases g.Final[j]'(by omega) with
    | true => rw [if_pos rfl, hk3]; simp [saveR, show u8 1 = (1 : UInt8) from rfl]
    | false => rw [if_neg (by decide), hk3]; simp [saveR, show u8 0 = (0 : UInt8) from rfl])
  simp only [List.take_zero, List.flatMap_nil, List.append_nil, show ((0 : Nat) : Int) = 0 from rfl] at hrun
  rw [hrun, List.take_of_length_le (by rw [List.length_zip]; omega)]
  apply Loop_end
  rw [scansionref18_Array_Save.b1]
  dsimp only
  rw [if_neg (by rw [decide_eq_true_eq]; omega)]
  rfl
theorem alike_eq {g : TGraph} (hr : RightP g) (hn : g.Final.length ≤ 3000) {b : Str} (hb : b.length ≤ 100) : scansionlaw18_alike (arrOf g) ⟨g, ((arrOf g).cells.length : Int)⟩ b = some true := by
  have hs : Short g := fun xs hx => by
    obtain ⟨k, hk⟩ := List.getElem?_of_mem hx
    have := rise_256 (right_rises hr k)
    rw [getD_row hk] at this; omega
  have h3 : Rows300 g := fun xs hx => by
    obtain ⟨k, hk⟩ := List.getElem?_of_mem hx
    have := rise_256 (right_rises hr k)
    rw [getD_row hk] at this; omega
  have hso := right_save hr hn
  have hpl := prefS_len (g := g) (b := b) (n := b.length + 1)
  have hg : (arrOf g).graph = g := rfl
  unfold scansionlaw18_alike
  rw [Prefixes_eq hr hn (by omega), Option.bind_some, refPrefixes_eq hs hr _ (by omega), Option.bind_some, Same_ok (by omega), Option.bind_some, Words_eq hr, Option.bind_some, refWords_eq hs hr, Option.bind_some, if_pos (by simp)]
  unfold darray_Array_Cells
  rw [Option.bind_some, if_pos (by simp), Save_eq (A := arrOf g) (by rw [hg]; exact hso), Option.bind_some, refSave_eq hso, Option.bind_some, Option.bind_some, Option.bind_some, hg]
  split
  · simp
  · obtain ⟨r, w1, w2⟩ := Word_eq hs h3 hr (IntKind.i64.wrap ((b.length : Int) - 1))
    unfold darray_Array_Number scansionref18_Array_Number darray_Array_Word scansionref18_Array_Word
    dsimp only
    rw [hg, dawg_Number_eq hs h3 hr hb, ref_Number_eq hs h3 hr hb, w1, w2]
    simp
end Go.Val

/- part P54 -/
/- Plain lemmas: DarrayLoads. -/
namespace Go.Val
set_option linter.unusedVariables false
def lim31 : Nat := 2147483647
def rdEr : Nat → List UInt8 → Option (List TEdge × List UInt8)
  | 0, b => some ([], b)
  | _ + 1, [] => none
  | k + 1, c :: b => match rdN lim31 b with
    | none => none
    | some (n, b1) => match rdEr k b1 with
      | none => none
      | some (l, r) => some (⟨c, (n : Int)⟩ :: l, r)
def rdRowR : List UInt8 → Option (Bool × List TEdge × List UInt8)
  | [] => none
  | f :: b => if f.toNat > 1 then none else match rdN 256 b with
    | none => none
    | some (k, b1) => match rdEr k b1 with
      | none => none
      | some (l, b2) => some (decide (f.toNat = 1), l, b2)
def rdRowsR : Nat → List UInt8 → Option (List Bool × List (List TEdge) × List UInt8)
  | 0, b => some ([], [], b)
  | n + 1, b => match rdRowR b with
    | none => none
    | some (f, l, b1) => match rdRowsR n b1 with
      | none => none
      | some (F, E, r) => some (f :: F, l :: E, r)
theorem rdN_31 {b : List UInt8} : rdN lim31 b = if (told 5 0 0 b).2.2 = 0 then some ((told 5 0 0 b).1.toNat, b.drop (told 5 0 0 b).2.1.toNat) else none := by
  obtain ⟨t1, t2, t3, t4, t5⟩ := told_ok 5 0 0 b
  unfold rdN lim31
  by_cases h : (told 5 0 0 b).2.2 = 0
  · rw [if_pos ⟨h, by omega⟩, if_pos h]
  · rw [if_neg (fun x => h x.1), if_neg h]
theorem ref_edges {r : Int × Int × Int} {k : Nat} (hk : r.1 = (k : Int)) (hk2 : k ≤ 256) : ∀ (m : Nat) (l : List TEdge) (b : List UInt8), m ≤ k → l.length = k - m → b.length ≤ 1000000 → Loop (scansionref18_row.b1 r) (b, l, ((k - m : Nat) : Int)) = (match rdEr m b with | none => some ([], [], false) | some (l2, r2) => some (l ++ l2, r2, true))
  | 0, l, b, hm, hl, hb => by
    rw [rdEr]
    dsimp only
    rw [List.append_nil]
    apply Loop_end
    rw [scansionref18_row.b1, if_neg (by rw [decide_eq_true_eq, hk]; omega)]
    rfl
  | m + 1, l, [], hm, hl, hb => by
    rw [rdEr]
    apply Loop_done
    rw [scansionref18_row.b1, if_pos (by rw [decide_eq_true_eq, hk]; omega), if_pos (by simp)]
  | m + 1, l, c :: t, hm, hl, hb => by
    have ht : t.length ≤ 1000000 := by simp at hb; omega
    have hcl : cutL (c :: t) (1 : Int) = some t := by unfold cutL; rw [if_pos (by simp; omega)]; rfl
    have hd1 : List.drop (Int.toNat (1 : Int)) (c :: t) = t := rfl
    obtain ⟨t1, t2, t3, t4, t5⟩ := told_ok 5 0 0 t
    rw [rdEr, rdN_31]
    have hpre : scansionref18_row.b1 r (c :: t, l, ((k - (m + 1) : Nat) : Int)) = (if ((told 5 0 0 t).2.2 != (0 : Int)) = true then some (.done (([] : List TEdge), ([] : List UInt8), false)) else (((c :: t)[0]?).bind fun n => (room 16 (l.length + 1)).bind fun _ => (cutL (c :: t) (IntKind.i64.wrap ((1 : Int) + (told 5 0 0 t).2.1))).bind fun _ => some (.next ((List.drop (Int.toNat (IntKind.i64.wrap ((1 : Int) + (told 5 0 0 t).2.1))) (c :: t)), (l ++ ([(TEdge.mk n (told 5 0 0 t).1)])), (IntKind.i64.wrap (((k - (m + 1) : Nat) : Int) + (1 : Int))))))) := by
      rw [scansionref18_row.b1, if_pos (by rw [decide_eq_true_eq, hk]; omega), if_neg (by rw [beq_iff_eq, List.length_cons]; omega), hcl, Option.bind_some, hd1, refTold_eq ht, Option.bind_some]
    by_cases h : (told 5 0 0 t).2.2 = 0
    · rw [if_neg (by simp [h])] at hpre
      rw [if_pos h]
      dsimp only
      have hcl2 : cutL (c :: t) (1 + (told 5 0 0 t).2.1) = some ((c :: t).drop (1 + (told 5 0 0 t).2.1).toNat) := by unfold cutL; rw [if_pos (by rw [List.length_cons]; omega)]
      have hdrop : (c :: t).drop (1 + (told 5 0 0 t).2.1).toNat = t.drop (told 5 0 0 t).2.1.toNat := by
        rw [show (1 + (told 5 0 0 t).2.1).toNat = (told 5 0 0 t).2.1.toNat + 1 by omega, List.drop_succ_cons]
      rw [w64 (n := 1 + (told 5 0 0 t).2.1) (by omega) (by omega), hcl2, w64s (by omega), hdrop, show k - (m + 1) + 1 = k - m by omega, show (c :: t)[0]? = some c from rfl, Option.bind_some, room_ok (by omega), Option.bind_some, Option.bind_some] at hpre
      rw [Loop_next hpre, ref_edges hk hk2 m _ _ (by omega) (by simp; omega) (by rw [List.length_drop]; omega), show (((told 5 0 0 t).1.toNat : Nat) : Int) = (told 5 0 0 t).1 by omega]
      cases rdEr m (t.drop (told 5 0 0 t).2.1.toNat) with
      | none => rfl
      | some q => obtain ⟨l2, r2⟩ := q; dsimp only; rw [List.append_assoc]; rfl
    · rw [if_pos (by simpa using h)] at hpre
      rw [if_neg h]
      exact Loop_done hpre
theorem ref_row_eq {b : List UInt8} (hb : b.length ≤ 1000000) : scansionref18_row b = some (match rdN 256 b with | none => ([], [], false) | some (k, b1) => match rdEr k b1 with | none => ([], [], false) | some (l, r) => (l, r, true)) := by
  obtain ⟨t1, t2, t3, t4, t5⟩ := told_ok 5 0 0 b
  unfold scansionref18_row rdN
  rw [refTold_eq hb, Option.bind_some]
  by_cases h : (told 5 0 0 b).2.2 = 0 ∧ (told 5 0 0 b).1 ≤ ((256 : Nat) : Int)
  · have hcl : cutL b (told 5 0 0 b).2.1 = some (b.drop (told 5 0 0 b).2.1.toNat) := by unfold cutL; rw [if_pos (by omega)]
    rw [if_neg (by rw [Bool.or_eq_true, bne_iff_ne, decide_eq_true_eq]; omega), if_pos h, hcl, Option.bind_some]
    dsimp only
    have := ref_edges (r := told 5 0 0 b) (k := (told 5 0 0 b).1.toNat) (by omega) (by omega) (told 5 0 0 b).1.toNat [] (b.drop (told 5 0 0 b).2.1.toNat) (Nat.le_refl _) (by simp) (by rw [List.length_drop]; omega)
    rw [Nat.sub_self] at this
    refine Eq.trans this ?_
    cases rdEr (told 5 0 0 b).1.toNat (b.drop (told 5 0 0 b).2.1.toNat) with
    | none => rfl
    | some q => rfl
  · rw [if_pos (by rw [Bool.or_eq_true, bne_iff_ne, decide_eq_true_eq]; omega), if_neg h]
theorem rdEr_len : ∀ {k : Nat} {b r : List UInt8} {l : List TEdge}, rdEr k b = some (l, r) → r.length ≤ b.length ∧ l.length = k
  | 0, b, r, l, h => by simp [rdEr] at h; obtain ⟨rfl, rfl⟩ := h; simp
  | k + 1, [], r, l, h => by simp [rdEr] at h
  | k + 1, c :: b, r, l, h => by
    rw [rdEr] at h
    cases h1 : rdN lim31 b with
    | none => rw [h1] at h; cases h
    | some p =>
      obtain ⟨n, b1⟩ := p
      rw [h1] at h
      dsimp only at h
      cases h2 : rdEr k b1 with
      | none => rw [h2] at h; cases h
      | some q =>
        obtain ⟨l2, r2⟩ := q
        rw [h2] at h
        injection h with h; injection h with q1 q2
        have := rdN_len h1
        have := rdEr_len h2
        subst q1; subst q2
        rw [List.length_cons, List.length_cons]; omega
theorem ref_rows {r : Int × Int × Int} {n : Nat} (hn : r.1 = (n : Int)) (hn2 : n ≤ 20000) : ∀ (m : Nat) (F : List Bool) (E : List (List TEdge)) (b : List UInt8), m ≤ n → F.length = n - m → E.length = n - m → b.length ≤ 1000000 →
    Loop (scansionref18_Load.b1 r) (b, ((n - m : Nat) : Int), F, E) = (match rdRowsR m b with | none => some (none, 2) | some (F2, E2, r2) => scansionref18_Load.k1 r2 (F ++ F2) (E ++ E2))
  | 0, F, E, b, hm, hF, hE, hb => by
    rw [rdRowsR]
    dsimp only
    rw [List.append_nil, List.append_nil]
    apply Loop_end
    rw [scansionref18_Load.b1, if_neg (by rw [decide_eq_true_eq, hn]; omega)]
  | m + 1, F, E, [], hm, hF, hE, hb => by
    rw [rdRowsR, rdRowR]
    apply Loop_done
    rw [scansionref18_Load.b1, if_pos (by rw [decide_eq_true_eq, hn]; omega), if_pos (by simp), Option.bind_some, if_pos rfl]
  | m + 1, F, E, c :: t, hm, hF, hE, hb => by
    have ht : t.length ≤ 1000000 := by simp at hb; omega
    have hcl : cutL (c :: t) (1 : Int) = some t := by unfold cutL; rw [if_pos (by simp; omega)]; rfl
    have hd1 : List.drop (Int.toNat (1 : Int)) (c :: t) = t := rfl
    have hc0 : (c :: t)[0]? = some c := rfl
    rw [rdRowsR, rdRowR]
    by_cases hc : c.toNat > 1
    · rw [if_pos hc]
      apply Loop_done
      rw [scansionref18_Load.b1, if_pos (by rw [decide_eq_true_eq, hn]; omega), if_neg (by rw [beq_iff_eq, List.length_cons]; omega), hc0, Option.bind_some, Option.bind_some, if_pos (by rw [decide_eq_true_eq]; omega)]
    · rw [if_neg hc]
      have hpre : scansionref18_Load.b1 r (c :: t, ((n - (m + 1) : Nat) : Int), F, E) = ((scansionref18_row t).bind fun r2 => if (!r2.2.2) = true then some (.done (none, (2 : Int))) else (room 24 (E.length + 1)).bind fun _ => some (.next (r2.2.1, (IntKind.i64.wrap (((n - (m + 1) : Nat) : Int) + (1 : Int))), (F ++ ([((c.toNat : Int) == (1 : Int))])), (E ++ ([r2.1]))))) := by
        rw [scansionref18_Load.b1, if_pos (by rw [decide_eq_true_eq, hn]; omega), if_neg (by rw [beq_iff_eq, List.length_cons]; omega), hc0, Option.bind_some, Option.bind_some, if_neg (by rw [decide_eq_true_eq]; omega), Option.bind_some, room_ok (by omega), Option.bind_some, hcl, Option.bind_some, hd1]
      have hrow := ref_row_eq ht
      cases hr : rdN 256 t with
      | none =>
        rw [hr] at hrow
        dsimp only at hrow
        rw [hrow] at hpre
        exact Loop_done hpre
      | some p =>
        obtain ⟨k, b1⟩ := p
        rw [hr] at hrow
        have hl1 := rdN_len hr
        dsimp only at hrow ⊢
        cases hre : rdEr k b1 with
        | none =>
          rw [hre] at hrow
          dsimp only at hrow
          rw [hrow] at hpre
          exact Loop_done hpre
        | some q =>
          obtain ⟨l2, b2⟩ := q
          have hl2 := rdEr_len hre
          rw [hre] at hrow
          dsimp only at hrow ⊢
          rw [hrow, Option.bind_some] at hpre
          dsimp only at hpre
          have hb1 : ((c.toNat : Int) == 1) = decide (c.toNat = 1) := by
            rw [Bool.eq_iff_iff, beq_iff_eq, decide_eq_true_eq]; omega
          rw [if_neg (by decide), room_ok (by omega), Option.bind_some, w64s (by omega), show n - (m + 1) + 1 = n - m by omega, hb1] at hpre
          rw [Loop_next hpre, ref_rows hn hn2 m _ _ b2 (by omega) (by simp; omega) (by simp; omega) (by omega)]
          cases rdRowsR m b2 with
          | none => rfl
          | some q =>
            obtain ⟨F2, E2, r2⟩ := q
            dsimp only
            rw [List.append_assoc, List.append_assoc]
            rfl
theorem refLoad_eq {b : List UInt8} (hb : b.length ≤ 1000000) : scansionref18_Load b = (match rdN 20000 b with | none => some (none, 2) | some (n, b1) => match rdRowsR n b1 with | none => some (none, 2) | some (F, E, r) => scansionref18_Load.k1 r F E) := by
  obtain ⟨t1, t2, t3, t4, t5⟩ := told_ok 5 0 0 b
  unfold scansionref18_Load rdN
  rw [refTold_eq hb, Option.bind_some]
  by_cases h : (told 5 0 0 b).2.2 = 0 ∧ (told 5 0 0 b).1 ≤ ((20000 : Nat) : Int)
  · have hcl : cutL b (told 5 0 0 b).2.1 = some (b.drop (told 5 0 0 b).2.1.toNat) := by unfold cutL; rw [if_pos (by omega)]
    rw [if_neg (by rw [Bool.or_eq_true, bne_iff_ne, decide_eq_true_eq]; omega), if_pos h, hcl, Option.bind_some]
    dsimp only
    have := ref_rows (r := told 5 0 0 b) (n := (told 5 0 0 b).1.toNat) (by omega) (by omega) (told 5 0 0 b).1.toNat [] [] (b.drop (told 5 0 0 b).2.1.toNat) (Nat.le_refl _) (by simp) (by simp) (by rw [List.length_drop]; omega)
    rw [Nat.sub_self] at this
    exact this
  · rw [if_pos (by rw [Bool.or_eq_true, bne_iff_ne, decide_eq_true_eq]; omega), if_neg h]
end Go.Val

/- part P55 -/
/- Plain lemmas: what is read is what would be written; DarrayLoads. -/
namespace Go.Val
set_option linter.unusedVariables false
theorem told_canon : ∀ (k i acc : Nat) (b : List UInt8), (told k i acc b).2.2 = 0 → ∃ (m j : Nat), (told k i acc b).1 = ((acc + m * 128 ^ i : Nat) : Int) ∧ (told k i acc b).2.1 = ((i + j : Nat) : Int) ∧ b = encF k m ++ b.drop j ∧ m < 128 ^ k ∧ (i > 0 → 0 < m)
  | 0, i, acc, b, h => by simp [told] at h
  | k + 1, i, acc, [], h => by simp [told] at h
  | k + 1, i, acc, c :: b, h => by
    rw [told] at h ⊢
    have hlt := c.toNat_lt
    by_cases h1 : c.toNat < 128
    · rw [if_pos h1] at h ⊢
      by_cases h2 : acc + c.toNat % 128 * 128 ^ i > 2147483647 ∨ (i > 0 ∧ c.toNat = 0)
      · rw [if_pos h2] at h; simp at h
      · rw [if_neg h2]
        refine ⟨c.toNat, 1, by dsimp only; rw [Nat.mod_eq_of_lt h1], rfl, ?_, ?_, fun hi => ?_⟩
        · unfold encF
          rw [if_pos h1, UInt8.ofNat_toNat]; rfl
        · have : 128 ≤ 128 ^ (k + 1) := by rw [Nat.pow_succ]; have := Nat.pos_of_ne_zero (n := 128 ^ k) (by simp); omega
          omega
        · refine Nat.pos_of_ne_zero fun h0 => h2 (.inr ⟨hi, h0⟩)
    · rw [if_neg h1] at h ⊢
      obtain ⟨m, j, e1, e2, e3, e4, e5⟩ := told_canon k (i + 1) (acc + c.toNat % 128 * 128 ^ i) b h
      have hm := e5 (by omega)
      have hcm : c.toNat = 128 + c.toNat % 128 := by omega
      refine ⟨c.toNat % 128 + m * 128, j + 1, ?_, ?_, ?_, ?_, fun _ => by omega⟩
      · rw [e1]
        congr 1
        rw [Nat.add_mul, Nat.pow_succ, Nat.mul_assoc m 128, Nat.mul_comm 128 (128 ^ i)]; omega
      · rw [e2]; omega
      · unfold encF
        rw [if_neg (by omega)]
        have em : (c.toNat % 128 + m * 128) % 128 = c.toNat % 128 := by omega
        have ed : (c.toNat % 128 + m * 128) / 128 = m := by omega
        rw [em, ed, ← hcm, UInt8.ofNat_toNat, List.drop_succ_cons, List.cons_append, ← e3]
      · rw [Nat.pow_succ]
        have : m + 1 ≤ 128 ^ k := e4
        have : (m + 1) * 128 ≤ 128 ^ k * 128 := Nat.mul_le_mul_right _ this
        omega
theorem rdN_canon {most : Nat} {b r : List UInt8} {n : Nat} (h : rdN most b = some (n, r)) : b = encN n ++ r := by
  unfold rdN at h
  split at h
  · rename_i hc
    injection h with h; injection h with h1 h2
    obtain ⟨m, j, e1, e2, e3, e4, e5⟩ := told_canon 5 0 0 b hc.1
    rw [e1] at h1
    rw [e2] at h2
    have hn : n = m := by simp at h1; omega
    have hr : r = b.drop j := by rw [← h2]; simp
    rw [hn, hr]
    exact e3
  · cases h
theorem rdE_canon : ∀ {k : Nat} {b r : List UInt8} {l : List TEdge}, rdE k b = some (l, r) → b = l.flatMap saveE ++ r ∧ ∀ x ∈ l, 0 ≤ x.To ∧ x.To ≤ 20000
  | 0, b, r, l, h => by simp [rdE] at h; obtain ⟨rfl, rfl⟩ := h; exact ⟨rfl, fun x hx => by cases hx⟩
  | k + 1, [], r, l, h => by simp [rdE] at h
  | k + 1, c :: b, r, l, h => by
    rw [rdE] at h
    cases h1 : rdN 20000 b with
    | none => rw [h1] at h; cases h
    | some p =>
      obtain ⟨n, b1⟩ := p
      rw [h1] at h
      dsimp only at h
      cases h2 : rdE k b1 with
      | none => rw [h2] at h; cases h
      | some q =>
        obtain ⟨l2, r2⟩ := q
        rw [h2] at h
        injection h with h; injection h with q1 q2
        have hn := (rdN_len h1).2
        have hc := rdN_canon h1
        obtain ⟨i1, i2⟩ := rdE_canon h2
        subst q1; subst q2
        refine ⟨?_, fun x hx => ?_⟩
        · rw [List.flatMap_cons]
          unfold saveE
          dsimp only
          rw [Int.toNat_natCast, List.cons_append, List.cons_append, List.append_assoc]
          unfold saveE at i1
          rw [← i1, ← hc]
        · rcases List.mem_cons.1 hx with rfl | hx
          · exact ⟨by show (0 : Int) ≤ (n : Int); omega, by show (n : Int) ≤ 20000; omega⟩
          · exact i2 x hx
theorem rdRow_canon {b r : List UInt8} {f : Bool} {l : List TEdge} (h : rdRow b = some (f, l, r)) : b = saveR f l ++ r ∧ l.length ≤ 256 ∧ ∀ x ∈ l, 0 ≤ x.To ∧ x.To ≤ 20000 := by
  have hlen := (rdRow_len h).2
  cases b with
  | nil => cases h
  | cons c b =>
    rw [rdRow] at h
    cases h1 : rdN 256 b with
    | none => rw [h1] at h; cases h
    | some p =>
      obtain ⟨k, b1⟩ := p
      rw [h1] at h
      dsimp only at h
      cases h2 : rdE k b1 with
      | none => rw [h2] at h; cases h
      | some q =>
        obtain ⟨l2, r2⟩ := q
        rw [h2] at h
        dsimp only at h
        split at h
        · cases h
        · rename_i hc
          injection h with h; injection h with q1 q2; injection q2 with q2 q3
          have hcan := rdN_canon h1
          obtain ⟨i1, i2⟩ := rdE_canon h2
          have hk := (rdE_len h2).2
          subst q2; subst q3
          refine ⟨?_, hlen, i2⟩
          unfold saveR
          rw [List.cons_append, List.append_assoc, ← i1, hk, ← hcan]
          congr 1
          subst q1
          by_cases h1c : c.toNat = 1
          · rw [decide_eq_true h1c, if_pos rfl]
            apply UInt8.toNat_inj.1; rw [h1c]; rfl
          · rw [decide_eq_false h1c, if_neg (by decide)]
            apply UInt8.toNat_inj.1
            show c.toNat = 0; omega
theorem rdRows_canon : ∀ {n : Nat} {b r : List UInt8} {F : List Bool} {E : List (List TEdge)}, rdRows n b = some (F, E, r) → b = (F.zip E).flatMap (fun p => saveR p.1 p.2) ++ r ∧ F.length = n ∧ E.length = n ∧ n + many E E.length ≤ b.length ∧ ∀ xs ∈ E, xs.length ≤ 256 ∧ ∀ x ∈ xs, 0 ≤ x.To ∧ x.To ≤ 20000
  | 0, b, r, F, E, h => by
    simp [rdRows] at h
    obtain ⟨rfl, rfl, rfl⟩ := h
    exact ⟨rfl, rfl, rfl, by simp [many], fun xs hx => by cases hx⟩
  | n + 1, b, r, F, E, h => by
    rw [rdRows] at h
    cases h1 : rdRow b with
    | none => rw [h1] at h; cases h
    | some p =>
      obtain ⟨f, l, b1⟩ := p
      rw [h1] at h
      dsimp only at h
      cases h2 : rdRows n b1 with
      | none => rw [h2] at h; cases h
      | some q =>
        obtain ⟨F2, E2, r2⟩ := q
        rw [h2] at h
        injection h with h; injection h with q1 q2; injection q2 with q2 q3
        obtain ⟨a1, a2, a3⟩ := rdRow_canon h1
        obtain ⟨c1, c2, c3, c4, c5⟩ := rdRows_canon h2
        subst q1; subst q2; subst q3
        have hmany : many (l :: E2) (l :: E2).length = l.length + many E2 E2.length := by
          rw [many_sum _ (Nat.le_refl _), many_sum _ (Nat.le_refl _), List.take_length, List.take_length]; simp
        refine ⟨?_, by simp [c2], by simp [c3], ?_, fun xs hx => ?_⟩
        · rw [List.zip_cons_cons, List.flatMap_cons, List.append_assoc, ← c1, ← a1]
        · have hb : b.length = (saveR f l).length + b1.length := by rw [a1, List.length_append]
          have hs : 1 + l.length ≤ (saveR f l).length := by
            have key : ∀ l : List TEdge, l.length ≤ (l.flatMap saveE).length := by
              intro l
              induction l with
              | nil => simp
              | cons x l ih => rw [List.flatMap_cons, List.length_append, List.length_cons]; unfold saveE at ih ⊢; simp at ih ⊢; omega
            have := key l
            unfold saveR; rw [List.length_cons, List.length_append]; omega
          rw [hmany]; omega
        · rcases List.mem_cons.1 hx with rfl | hx
          · exact ⟨a2, a3⟩
          · exact c5 xs hx
/-- Reading with a bound, and without one. -/
theorem rdE_R : ∀ {k : Nat} {b : List UInt8}, (∀ v, rdE k b = some v → rdEr k b = some v) ∧ (∀ l r, rdEr k b = some (l, r) → (∀ x ∈ l, x.To ≤ 20000) → rdE k b = some (l, r))
  | 0, b => ⟨fun v h => h, fun l r h _ => h⟩
  | k + 1, [] => ⟨fun v h => by simp [rdE] at h, fun l r h => by simp [rdEr] at h⟩
  | k + 1, c :: b => by
    have hN : ∀ n r, rdN 20000 b = some (n, r) → rdN lim31 b = some (n, r) := fun n r h => by
      unfold rdN lim31 at *
      split at h
      · rename_i hc; rw [if_pos ⟨hc.1, by omega⟩]; exact h
      · cases h
    have hN2 : ∀ n r, rdN lim31 b = some (n, r) → n ≤ 20000 → rdN 20000 b = some (n, r) := fun n r h hn => by
      unfold rdN lim31 at *
      split at h
      · rename_i hc
        have h' := h
        injection h' with h'; injection h' with h1 h2
        obtain ⟨t1, _⟩ := told_ok 5 0 0 b
        rw [if_pos ⟨hc.1, by omega⟩]; exact h
      · cases h
    refine ⟨fun v h => ?_, fun l r h hl => ?_⟩
    · rw [rdE] at h
      cases h1 : rdN 20000 b with
      | none => rw [h1] at h; cases h
      | some p =>
        obtain ⟨n, b1⟩ := p
        rw [h1] at h
        dsimp only at h
        cases h2 : rdE k b1 with
        | none => rw [h2] at h; cases h
        | some q =>
          rw [h2] at h
          rw [rdEr, hN n b1 h1]
          dsimp only
          rw [rdE_R.1 q h2]
          exact h
    · rw [rdEr] at h
      cases h1 : rdN lim31 b with
      | none => rw [h1] at h; cases h
      | some p =>
        obtain ⟨n, b1⟩ := p
        rw [h1] at h
        dsimp only at h
        cases h2 : rdEr k b1 with
        | none => rw [h2] at h; cases h
        | some q =>
          obtain ⟨l2, r2⟩ := q
          rw [h2] at h
          have h' := h
          injection h' with h'; injection h' with q1 q2
          subst q1; subst q2
          have hn : n ≤ 20000 := by have : (n : Int) ≤ 20000 := hl _ (List.mem_cons_self ..); omega
          rw [rdE, hN2 n b1 h1 hn]
          dsimp only
          rw [rdE_R.2 l2 r2 h2 fun x hx => hl x (List.mem_cons_of_mem _ hx)]
theorem rdRow_R {b : List UInt8} : (∀ v, rdRow b = some v → rdRowR b = some v) ∧ (∀ f l r, rdRowR b = some (f, l, r) → (∀ x ∈ l, x.To ≤ 20000) → rdRow b = some (f, l, r)) := by
  cases b with
  | nil => exact ⟨fun v h => h, fun f l r h _ => h⟩
  | cons c b =>
    refine ⟨fun v h => ?_, fun f l r h hl => ?_⟩
    · rw [rdRow] at h
      rw [rdRowR]
      cases h1 : rdN 256 b with
      | none => rw [h1] at h; cases h
      | some p =>
        obtain ⟨k, b1⟩ := p
        rw [h1] at h
        dsimp only at h ⊢
        cases h2 : rdE k b1 with
        | none => rw [h2] at h; cases h
        | some q =>
          obtain ⟨l2, r2⟩ := q
          rw [h2] at h
          rw [rdE_R.1 _ h2]
          dsimp only at h ⊢
          by_cases hc : c.toNat > 1
          · rw [if_pos hc] at h; cases h
          · rw [if_neg hc] at h ⊢; exact h
    · rw [rdRowR] at h
      rw [rdRow]
      by_cases hc : c.toNat > 1
      · rw [if_pos hc] at h; cases h
      · rw [if_neg hc] at h
        cases h1 : rdN 256 b with
        | none => rw [h1] at h; cases h
        | some p =>
          obtain ⟨k, b1⟩ := p
          rw [h1] at h
          dsimp only at h ⊢
          cases h2 : rdEr k b1 with
          | none => rw [h2] at h; cases h
          | some q =>
            obtain ⟨l2, r2⟩ := q
            rw [h2] at h
            dsimp only at h
            have h' := h
            injection h' with h'; injection h' with q1 q2; injection q2 with q2 q3
            subst q2; subst q3
            rw [rdE_R.2 _ _ h2 hl]
            dsimp only
            rw [if_neg hc]; exact h
theorem rdRows_R : ∀ {n : Nat} {b : List UInt8}, (∀ v, rdRows n b = some v → rdRowsR n b = some v) ∧ (∀ F E r, rdRowsR n b = some (F, E, r) → (∀ xs ∈ E, ∀ x ∈ xs, x.To ≤ 20000) → rdRows n b = some (F, E, r))
  | 0, b => ⟨fun v h => h, fun F E r h _ => h⟩
  | n + 1, b => by
    refine ⟨fun v h => ?_, fun F E r h hl => ?_⟩
    · rw [rdRows] at h
      cases h1 : rdRow b with
      | none => rw [h1] at h; cases h
      | some p =>
        obtain ⟨f, l, b1⟩ := p
        rw [h1] at h
        dsimp only at h
        cases h2 : rdRows n b1 with
        | none => rw [h2] at h; cases h
        | some q =>
          rw [h2] at h
          rw [rdRowsR, rdRow_R.1 _ h1]
          dsimp only
          rw [rdRows_R.1 _ h2]
          exact h
    · rw [rdRowsR] at h
      cases h1 : rdRowR b with
      | none => rw [h1] at h; cases h
      | some p =>
        obtain ⟨f, l, b1⟩ := p
        rw [h1] at h
        dsimp only at h
        cases h2 : rdRowsR n b1 with
        | none => rw [h2] at h; cases h
        | some q =>
          obtain ⟨F2, E2, r2⟩ := q
          rw [h2] at h
          have h' := h
          injection h' with h'; injection h' with q1 q2; injection q2 with q2 q3
          subst q1; subst q2; subst q3
          rw [rdRows, rdRow_R.2 f l b1 h1 (hl l (List.mem_cons_self ..))]
          dsimp only
          rw [rdRows_R.2 F2 E2 r2 h2 fun xs hx => hl xs (List.mem_cons_of_mem _ hx)]
end Go.Val

/- part P56 -/
/- Plain lemmas: DarrayLoads. -/
namespace Go.Val
set_option linter.unusedVariables false
theorem rdRowsR_len : ∀ {n : Nat} {b r : List UInt8} {F : List Bool} {E : List (List TEdge)}, rdRowsR n b = some (F, E, r) → F.length = n ∧ E.length = n ∧ ∀ xs ∈ E, xs.length ≤ 256
  | 0, b, r, F, E, h => by simp [rdRowsR] at h; obtain ⟨rfl, rfl, rfl⟩ := h; exact ⟨rfl, rfl, fun xs hx => by cases hx⟩
  | n + 1, b, r, F, E, h => by
    rw [rdRowsR] at h
    cases h1 : rdRowR b with
    | none => rw [h1] at h; cases h
    | some p =>
      obtain ⟨f, l, b1⟩ := p
      rw [h1] at h
      dsimp only at h
      cases h2 : rdRowsR n b1 with
      | none => rw [h2] at h; cases h
      | some q =>
        obtain ⟨F2, E2, r2⟩ := q
        rw [h2] at h
        injection h with h; injection h with q1 q2; injection q2 with q2 q3
        obtain ⟨c1, c2, c3⟩ := rdRowsR_len h2
        have hl : l.length ≤ 256 := by
          cases b with
          | nil => cases h1
          | cons c b =>
            rw [rdRowR] at h1
            by_cases hc : c.toNat > 1
            · rw [if_pos hc] at h1; cases h1
            · rw [if_neg hc] at h1
              cases h3 : rdN 256 b with
              | none => rw [h3] at h1; cases h1
              | some p =>
                obtain ⟨k, b2⟩ := p
                rw [h3] at h1
                dsimp only at h1
                cases h4 : rdEr k b2 with
                | none => rw [h4] at h1; cases h1
                | some q =>
                  obtain ⟨l3, r3⟩ := q
                  rw [h4] at h1
                  injection h1 with h1; injection h1 with w1 w2; injection w2 with w2 w3
                  have := (rdEr_len h4).2
                  have := (rdN_len h3).2
                  subst w2; omega
        subst q1; subst q2
        exact ⟨by simp [c1], by simp [c2], fun xs hx => by
          rcases List.mem_cons.1 hx with rfl | hx
          · exact hl
          · exact c3 xs hx⟩
theorem DarrayLoads_of (haw : scansionlaw18_awake = some true) (c b : Str) : scansionlaw18_DarrayLoads c b = some true := by
  unfold scansionlaw18_DarrayLoads
  rw [haw, Option.bind_some]
  by_cases hs : c.length ≤ 1500 ∧ b.length ≤ 100
  · obtain ⟨hc, hb⟩ := hs
    rw [if_neg (by simp; omega), Load_eq (by omega), refLoad_eq (by omega)]
    cases hN : rdN 20000 c with
    | none => rfl
    | some p =>
      obtain ⟨n, b1⟩ := p
      have hn := rdN_len hN
      have hcan := rdN_canon hN
      dsimp only
      cases hR : rdRows n b1 with
      | none =>
        dsimp only
        rw [Option.bind_some]
        dsimp only
        cases hR2 : rdRowsR n b1 with
        | none => rfl
        | some q =>
          obtain ⟨F, E, r⟩ := q
          obtain ⟨l1, l2, l3⟩ := rdRowsR_len hR2
          have hbad : ¬ RightP ⟨F, E⟩ := fun hr => by
            have := rdRows_R.2 F E r hR2 fun xs hx x hxx => by
              obtain ⟨s, hs⟩ := List.getElem?_of_mem hx
              have hlt := (List.getElem?_eq_some_iff.1 hs).1
              obtain ⟨k, hk⟩ := List.getElem?_of_mem hxx
              have := row_ok hr (s := (s : Int)) (by omega) (by show (s : Int) < (F.length : Int); omega) (by rw [Int.toNat_natCast]; exact hs) hk
              omega
            rw [hR] at this; cases this
          dsimp only
          unfold scansionref18_Load.k1
          rw [refPack_bad (fun xs hx => by have := l3 xs hx; omega) hbad, Option.bind_some]
          rfl
      | some q =>
        obtain ⟨F, E, r⟩ := q
        rw [rdRows_R.1 _ hR]
        obtain ⟨c1, c2, c3, c4, c5⟩ := rdRows_canon hR
        dsimp only
        have hsh : Short ⟨F, E⟩ := fun xs hx => by have := (c5 xs hx).1; omega
        unfold darray_Load.k1 scansionref18_Load.k1
        by_cases hr : RightP ⟨F, E⟩
        · have hF : F.length ≤ 3000 := by omega
          have hm : many E E.length ≤ 20000 := by omega
          rw [Pack_eq' (g := ⟨F, E⟩) hr hF hm, refPack_eq (g := ⟨F, E⟩) hr hsh hF hm, Option.bind_some, Option.bind_some]
          dsimp only
          cases hrr : r with
          | nil =>
            subst hrr
            rw [if_neg (by decide), if_neg (by decide), Option.bind_some]
            dsimp only
            rw [Option.bind_some]
            dsimp only
            rw [if_neg (by decide)]
            have hsave : darray_Array_Save (arrOf ⟨F, E⟩) = some c := by
              rw [Save_eq (A := arrOf ⟨F, E⟩) (show SaveOk ⟨F, E⟩ from right_save hr hF)]
              have hg : (arrOf ⟨F, E⟩).graph = ⟨F, E⟩ := rfl
              rw [hg]
              congr 1
              unfold saveG
              dsimp only
              rw [hcan, c1, List.append_nil, c2]
            rw [hsave]
            split
            · simp
            · rw [alike_eq (g := ⟨F, E⟩) hr hF hb]
              simp
          | cons x t =>
            rw [if_pos (by simp), if_pos (by simp)]
            rfl
        · rw [Pack_bad hsh hr, refPack_bad hsh hr, Option.bind_some, Option.bind_some]
          dsimp only
          rw [if_pos (by simp), if_pos (by simp)]
          rfl
  · rw [if_pos (by simp; omega)]
end Go.Val
