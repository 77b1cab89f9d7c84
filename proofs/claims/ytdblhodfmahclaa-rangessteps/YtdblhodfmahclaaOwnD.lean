/- A value semantics of the model's programs, sound against it, and functions read off the given program with the proofs that it runs so; no condition. -/
import Derived.Test.YtdblhodfmahclaaOwnC
import Derived.Sort.Defs
import Derived.Lib.BitFns
import Derived.Test.YtdblhodfmahclaaChecked
import Derived.Shelf.SlSortCmp.NoneTotal
import Derived.Shelf.SlicesG.Cmp
import Derived.SizedLaws
import Derived.ChangeArms
import Derived.Sort.AssemblyPlain
set_option linter.all false
set_option linter.unnecessarySimpa false
set_option linter.unusedVariables false
set_option linter.unusedSimpArgs false
/- part HT -/
/- Types of the program, as data. -/
namespace Go.Val
set_option linter.unusedVariables false
set_option linter.unusedSimpArgs false
structure TRange where
  Low : Int
  High : Int
  deriving DecidableEq, Inhabited
def eRange (x : TRange) : DVal := .agg [.int .i64 x.Low, .int .i64 x.High]
instance : Enc eRange 2 := ⟨fun _ => rfl, fun n x => by simp only [eRange, DVal.under, underL, under_map, and_self]⟩
attribute [go_sem] eRange
end Go.Val

/- part HE -/
/- What is turned in place: slices.SortFunc at ranges; slices.Clone at ranges. -/
namespace Go.Val
noncomputable section
def ltR (a b : TRange) : Bool := decide (a.Low < b.Low)
def sortR (l : List TRange) : Option (List TRange) :=
  if l.length ≤ roomOf then some (Go.Sort.pdq ltR l.toArray 0 l.length (Go.Lib.bitLen l.length) true true).toList else none
def slices_Clone_api_Range_api_Range (s : List TRange) : Option (List TRange) :=
  (room 16 (0 + s.length)).bind fun _ => some s
open Classical in
def extOf {α : Type} (e : α → DVal) (f : List α → Option (List α)) (zs : List DVal) : Option (List DVal) :=
  if h : ∃ l : List α, zs = l.map e then (f h.choose).map (List.map e) else none
theorem map_inj {α : Type} {e : α → DVal} (hi : ∀ a b, e a = e b → a = b) : ∀ {l m : List α}, l.map e = m.map e → l = m
  | [], [], _ => rfl
  | [], _ :: _, h => by cases h
  | _ :: _, [], h => by cases h
  | a :: l, b :: m, h => by
    simp only [List.map_cons, List.cons.injEq] at h
    rw [hi a b h.1, map_inj hi h.2]
theorem extOf_map {α : Type} {e : α → DVal} (hi : ∀ a b, e a = e b → a = b) {f : List α → Option (List α)} {l l' : List α} (h : f l = some l') : extOf e f (l.map e) = some (l'.map e) := by
  have hx : ∃ m : List α, l.map e = m.map e := ⟨l, rfl⟩
  have hc : hx.choose = l := (map_inj hi hx.choose_spec).symm
  unfold extOf
  rw [dif_pos hx, hc, h]; rfl
theorem extOf_some {α : Type} {e : α → DVal} {f : List α → Option (List α)} {zs ys : List DVal} (h : extOf e f zs = some ys) : ∃ l l', zs = l.map e ∧ f l = some l' ∧ ys = l'.map e := by
  unfold extOf at h
  split at h
  · rename_i hx
    cases hf : f hx.choose with
    | none => rw [hf] at h; cases h
    | some l' => rw [hf] at h; cases h; exact ⟨_, l', hx.choose_spec, hf, rfl⟩
  · cases h
theorem eRange_inj (a b : TRange) (h : eRange a = eRange b) : a = b := by
  cases a; cases b
  simp only [eRange, DVal.agg.injEq, List.cons.injEq, DVal.int.injEq, true_and, and_true] at h
  simp only [TRange.mk.injEq]; exact h
open Classical in
def extR (g : FuncId) (ds : List DVal) (k : TypeId) (zs : List DVal) : Option (List DVal) :=
  if g = 33 ∧ ds = [.fn 34 [] []] ∧ k = 30 then extOf eRange sortR zs else none
theorem ext_sortR {l l' : List TRange} (h : sortR l = some l') : extR 33 [.fn 34 [] []] 30 (l.map eRange) = some (l'.map eRange) := by
  unfold extR
  rw [if_pos ⟨rfl, rfl, rfl⟩]; exact extOf_map eRange_inj h
end
end Go.Val

/- part HX -/
/- Facts of the program. -/
namespace Go.Val
set_option linter.unusedVariables false
set_option linter.unusedSimpArgs false
open Go.Proofs
noncomputable def CT : Ctx := { P := Try.prog, how := fun f i => if f = 36 ∧ i = 0 then .move else if f = 50 ∧ i = 0 then .move else .data, gives := fun f => if f = 36 then .move else if f = 50 then .move else if f = 32 then .move else .data, ext := extR }
theorem CT_P : CT.P = Try.prog := rfl
def someWorld : World := ⟨#[], fun _ _ => 0, 0, default, default⟩
theorem CT_gives30 : CT.gives 30 = .data := by simp [CT]
theorem CT_gives45 : CT.gives 45 = .data := by simp [CT]
theorem CT_gives31 : CT.gives 31 = .data := by simp [CT]
theorem CT_gives32 : CT.gives 32 = .move := by simp [CT]
theorem CT_gives36 : CT.gives 36 = .move := by simp [CT]
theorem CT_gives12 : CT.gives 12 = .data := by simp [CT]
theorem CT_gives62 : CT.gives 62 = .data := by simp [CT]
theorem CT_gives49 : CT.gives 49 = .data := by simp [CT]
theorem CT_gives50 : CT.gives 50 = .move := by simp [CT]
theorem CT_gives28 : CT.gives 28 = .data := by simp [CT]
theorem CT_gives37 : CT.gives 37 = .data := by simp [CT]
theorem CT_gives13 : CT.gives 13 = .data := by simp [CT]
theorem CT_gives14 : CT.gives 14 = .data := by simp [CT]
theorem CT_gives39 : CT.gives 39 = .data := by simp [CT]
theorem CT_gives38 : CT.gives 38 = .data := by simp [CT]
theorem CT_gives15 : CT.gives 15 = .data := by simp [CT]
theorem CT_gives16 : CT.gives 16 = .data := by simp [CT]
theorem CT_gives51 : CT.gives 51 = .data := by simp [CT]
theorem CT_gives40 : CT.gives 40 = .data := by simp [CT]
theorem CT_gives41 : CT.gives 41 = .data := by simp [CT]
theorem CT_gives42 : CT.gives 42 = .data := by simp [CT]
theorem CT_gives43 : CT.gives 43 = .data := by simp [CT]
theorem CT_gives44 : CT.gives 44 = .data := by simp [CT]
theorem CT_gives17 : CT.gives 17 = .data := by simp [CT]
theorem CT_gives18 : CT.gives 18 = .data := by simp [CT]
theorem CT_gives19 : CT.gives 19 = .data := by simp [CT]
theorem CT_gives20 : CT.gives 20 = .data := by simp [CT]
theorem CT_gives21 : CT.gives 21 = .data := by simp [CT]
theorem CT_gives22 : CT.gives 22 = .data := by simp [CT]
theorem CT_gives23 : CT.gives 23 = .data := by simp [CT]
theorem CT_gives24 : CT.gives 24 = .data := by simp [CT]
theorem CT_gives25 : CT.gives 25 = .data := by simp [CT]
theorem CT_gives26 : CT.gives 26 = .data := by simp [CT]
theorem CT_gives27 : CT.gives 27 = .data := by simp [CT]
theorem CT_gives29 : CT.gives 29 = .data := by simp [CT]
theorem CT_gives11 : CT.gives 11 = .data := by simp [CT]
theorem CT_gives3 : CT.gives 3 = .data := by simp [CT]
theorem CT_gives4 : CT.gives 4 = .data := by simp [CT]
theorem CT_gives5 : CT.gives 5 = .data := by simp [CT]
theorem CT_gives6 : CT.gives 6 = .data := by simp [CT]
theorem CT_gives7 : CT.gives 7 = .data := by simp [CT]
theorem CT_gives8 : CT.gives 8 = .data := by simp [CT]
theorem CT_gives9 : CT.gives 9 = .data := by simp [CT]
theorem CT_gives10 : CT.gives 10 = .data := by simp [CT]
theorem CT_how30_0 : CT.how 30 0 = .data := by simp [CT]
theorem CT_how45_0 : CT.how 45 0 = .data := by simp [CT]
theorem CT_how45_1 : CT.how 45 1 = .data := by simp [CT]
theorem CT_how31_0 : CT.how 31 0 = .data := by simp [CT]
theorem CT_how31_1 : CT.how 31 1 = .data := by simp [CT]
theorem CT_how32_0 : CT.how 32 0 = .data := by simp [CT]
theorem CT_how36_0 : CT.how 36 0 = .move := by simp [CT]
theorem CT_how36_1 : CT.how 36 1 = .data := by simp [CT]
theorem CT_how12_0 : CT.how 12 0 = .data := by simp [CT]
theorem CT_how62_0 : CT.how 62 0 = .data := by simp [CT]
theorem CT_how62_1 : CT.how 62 1 = .data := by simp [CT]
theorem CT_how49_0 : CT.how 49 0 = .data := by simp [CT]
theorem CT_how49_1 : CT.how 49 1 = .data := by simp [CT]
theorem CT_how50_0 : CT.how 50 0 = .move := by simp [CT]
theorem CT_how50_1 : CT.how 50 1 = .data := by simp [CT]
theorem CT_how50_2 : CT.how 50 2 = .data := by simp [CT]
theorem CT_how28_0 : CT.how 28 0 = .data := by simp [CT]
theorem CT_how28_1 : CT.how 28 1 = .data := by simp [CT]
theorem CT_how37_0 : CT.how 37 0 = .data := by simp [CT]
theorem CT_how37_1 : CT.how 37 1 = .data := by simp [CT]
theorem CT_how37_2 : CT.how 37 2 = .data := by simp [CT]
theorem CT_how13_0 : CT.how 13 0 = .data := by simp [CT]
theorem CT_how14_0 : CT.how 14 0 = .data := by simp [CT]
theorem CT_how14_1 : CT.how 14 1 = .data := by simp [CT]
theorem CT_how39_0 : CT.how 39 0 = .data := by simp [CT]
theorem CT_how39_1 : CT.how 39 1 = .data := by simp [CT]
theorem CT_how38_0 : CT.how 38 0 = .data := by simp [CT]
theorem CT_how38_1 : CT.how 38 1 = .data := by simp [CT]
theorem CT_how38_2 : CT.how 38 2 = .data := by simp [CT]
theorem CT_how15_0 : CT.how 15 0 = .data := by simp [CT]
theorem CT_how15_1 : CT.how 15 1 = .data := by simp [CT]
theorem CT_how16_0 : CT.how 16 0 = .data := by simp [CT]
theorem CT_how51_0 : CT.how 51 0 = .data := by simp [CT]
theorem CT_how51_1 : CT.how 51 1 = .data := by simp [CT]
theorem CT_how40_0 : CT.how 40 0 = .data := by simp [CT]
theorem CT_how40_1 : CT.how 40 1 = .data := by simp [CT]
theorem CT_how40_2 : CT.how 40 2 = .data := by simp [CT]
theorem CT_how41_0 : CT.how 41 0 = .data := by simp [CT]
theorem CT_how41_1 : CT.how 41 1 = .data := by simp [CT]
theorem CT_how42_0 : CT.how 42 0 = .data := by simp [CT]
theorem CT_how42_1 : CT.how 42 1 = .data := by simp [CT]
theorem CT_how43_0 : CT.how 43 0 = .data := by simp [CT]
theorem CT_how43_1 : CT.how 43 1 = .data := by simp [CT]
theorem CT_how44_0 : CT.how 44 0 = .data := by simp [CT]
theorem CT_how44_1 : CT.how 44 1 = .data := by simp [CT]
theorem CT_how17_0 : CT.how 17 0 = .data := by simp [CT]
theorem CT_how17_1 : CT.how 17 1 = .data := by simp [CT]
theorem CT_how18_0 : CT.how 18 0 = .data := by simp [CT]
theorem CT_how18_1 : CT.how 18 1 = .data := by simp [CT]
theorem CT_how19_0 : CT.how 19 0 = .data := by simp [CT]
theorem CT_how19_1 : CT.how 19 1 = .data := by simp [CT]
theorem CT_how20_0 : CT.how 20 0 = .data := by simp [CT]
theorem CT_how20_1 : CT.how 20 1 = .data := by simp [CT]
theorem CT_how21_0 : CT.how 21 0 = .data := by simp [CT]
theorem CT_how21_1 : CT.how 21 1 = .data := by simp [CT]
theorem CT_how22_0 : CT.how 22 0 = .data := by simp [CT]
theorem CT_how22_1 : CT.how 22 1 = .data := by simp [CT]
theorem CT_how23_0 : CT.how 23 0 = .data := by simp [CT]
theorem CT_how24_0 : CT.how 24 0 = .data := by simp [CT]
theorem CT_how25_0 : CT.how 25 0 = .data := by simp [CT]
theorem CT_how26_0 : CT.how 26 0 = .data := by simp [CT]
theorem CT_how26_1 : CT.how 26 1 = .data := by simp [CT]
theorem CT_how27_0 : CT.how 27 0 = .data := by simp [CT]
theorem CT_how27_1 : CT.how 27 1 = .data := by simp [CT]
theorem CT_how29_0 : CT.how 29 0 = .data := by simp [CT]
theorem CT_how3_0 : CT.how 3 0 = .data := by simp [CT]
theorem CT_how4_0 : CT.how 4 0 = .data := by simp [CT]
theorem CT_how5_0 : CT.how 5 0 = .data := by simp [CT]
theorem CT_how5_1 : CT.how 5 1 = .data := by simp [CT]
theorem CT_how6_0 : CT.how 6 0 = .data := by simp [CT]
theorem CT_how6_1 : CT.how 6 1 = .data := by simp [CT]
theorem CT_how7_0 : CT.how 7 0 = .data := by simp [CT]
theorem CT_how7_1 : CT.how 7 1 = .data := by simp [CT]
theorem CT_how8_0 : CT.how 8 0 = .data := by simp [CT]
theorem CT_how8_1 : CT.how 8 1 = .data := by simp [CT]
theorem CT_how8_2 : CT.how 8 2 = .data := by simp [CT]
theorem CT_how9_0 : CT.how 9 0 = .data := by simp [CT]
theorem CT_how9_1 : CT.how 9 1 = .data := by simp [CT]
theorem CT_how10_0 : CT.how 10 0 = .data := by simp [CT]
theorem moveGive_nil {h : Heap} {s : St} : moveGive h s (.cv .nil) = some ([.cv .nil], h) := rfl
theorem moveGive_row {h : Heap} {s : St} {k : Nat} {xs : List DVal} : moveGive h s (.cv (.row k xs)) = some ([.cv (.row k xs)], h) := rfl
attribute [go_sem] moveGive_nil moveGive_row
theorem sizes_rep1 {n : Nat} {a b : DVal} : sizesOk 2 (List.replicate n (.agg [a, b])) = true := by simp [sizesOk, DVal.cells]
theorem sizes_rep2 {n : Nat} {a b c : DVal} : sizesOk 3 (List.replicate n (.agg [a, b, c])) = true := by simp [sizesOk, DVal.cells]
theorem sizes_rep3 {n : Nat} {k : IntKind} {a : Int} : sizesOk 1 (List.replicate n (.int k a)) = true := by simp [sizesOk, DVal.cells]
theorem sizes_rep4 {n : Nat} {a : Bool} : sizesOk 1 (List.replicate n (.bool a)) = true := by simp [sizesOk, DVal.cells]
attribute [go_sem] sizes_rep1 sizes_rep2 sizes_rep3 sizes_rep4 List.length_replicate decide_true Nat.lt_irrefl
theorem resd30 {s : St} {r : ResultVar} {rs : List ResultVar} : results CT 30 s (r :: rs) = resHead CT 30 s rs (resVal CT.P s r) := results_data CT_gives30
theorem resd45 {s : St} {r : ResultVar} {rs : List ResultVar} : results CT 45 s (r :: rs) = resHead CT 45 s rs (resVal CT.P s r) := results_data CT_gives45
theorem resd31 {s : St} {r : ResultVar} {rs : List ResultVar} : results CT 31 s (r :: rs) = resHead CT 31 s rs (resVal CT.P s r) := results_data CT_gives31
theorem resd12 {s : St} {r : ResultVar} {rs : List ResultVar} : results CT 12 s (r :: rs) = resHead CT 12 s rs (resVal CT.P s r) := results_data CT_gives12
theorem resd62 {s : St} {r : ResultVar} {rs : List ResultVar} : results CT 62 s (r :: rs) = resHead CT 62 s rs (resVal CT.P s r) := results_data CT_gives62
theorem resd49 {s : St} {r : ResultVar} {rs : List ResultVar} : results CT 49 s (r :: rs) = resHead CT 49 s rs (resVal CT.P s r) := results_data CT_gives49
theorem resd28 {s : St} {r : ResultVar} {rs : List ResultVar} : results CT 28 s (r :: rs) = resHead CT 28 s rs (resVal CT.P s r) := results_data CT_gives28
theorem resd37 {s : St} {r : ResultVar} {rs : List ResultVar} : results CT 37 s (r :: rs) = resHead CT 37 s rs (resVal CT.P s r) := results_data CT_gives37
theorem resd13 {s : St} {r : ResultVar} {rs : List ResultVar} : results CT 13 s (r :: rs) = resHead CT 13 s rs (resVal CT.P s r) := results_data CT_gives13
theorem resd14 {s : St} {r : ResultVar} {rs : List ResultVar} : results CT 14 s (r :: rs) = resHead CT 14 s rs (resVal CT.P s r) := results_data CT_gives14
theorem resd39 {s : St} {r : ResultVar} {rs : List ResultVar} : results CT 39 s (r :: rs) = resHead CT 39 s rs (resVal CT.P s r) := results_data CT_gives39
theorem resd38 {s : St} {r : ResultVar} {rs : List ResultVar} : results CT 38 s (r :: rs) = resHead CT 38 s rs (resVal CT.P s r) := results_data CT_gives38
theorem resd15 {s : St} {r : ResultVar} {rs : List ResultVar} : results CT 15 s (r :: rs) = resHead CT 15 s rs (resVal CT.P s r) := results_data CT_gives15
theorem resd16 {s : St} {r : ResultVar} {rs : List ResultVar} : results CT 16 s (r :: rs) = resHead CT 16 s rs (resVal CT.P s r) := results_data CT_gives16
theorem resd51 {s : St} {r : ResultVar} {rs : List ResultVar} : results CT 51 s (r :: rs) = resHead CT 51 s rs (resVal CT.P s r) := results_data CT_gives51
theorem resd40 {s : St} {r : ResultVar} {rs : List ResultVar} : results CT 40 s (r :: rs) = resHead CT 40 s rs (resVal CT.P s r) := results_data CT_gives40
theorem resd41 {s : St} {r : ResultVar} {rs : List ResultVar} : results CT 41 s (r :: rs) = resHead CT 41 s rs (resVal CT.P s r) := results_data CT_gives41
theorem resd42 {s : St} {r : ResultVar} {rs : List ResultVar} : results CT 42 s (r :: rs) = resHead CT 42 s rs (resVal CT.P s r) := results_data CT_gives42
theorem resd43 {s : St} {r : ResultVar} {rs : List ResultVar} : results CT 43 s (r :: rs) = resHead CT 43 s rs (resVal CT.P s r) := results_data CT_gives43
theorem resd44 {s : St} {r : ResultVar} {rs : List ResultVar} : results CT 44 s (r :: rs) = resHead CT 44 s rs (resVal CT.P s r) := results_data CT_gives44
theorem resd17 {s : St} {r : ResultVar} {rs : List ResultVar} : results CT 17 s (r :: rs) = resHead CT 17 s rs (resVal CT.P s r) := results_data CT_gives17
theorem resd18 {s : St} {r : ResultVar} {rs : List ResultVar} : results CT 18 s (r :: rs) = resHead CT 18 s rs (resVal CT.P s r) := results_data CT_gives18
theorem resd19 {s : St} {r : ResultVar} {rs : List ResultVar} : results CT 19 s (r :: rs) = resHead CT 19 s rs (resVal CT.P s r) := results_data CT_gives19
theorem resd20 {s : St} {r : ResultVar} {rs : List ResultVar} : results CT 20 s (r :: rs) = resHead CT 20 s rs (resVal CT.P s r) := results_data CT_gives20
theorem resd21 {s : St} {r : ResultVar} {rs : List ResultVar} : results CT 21 s (r :: rs) = resHead CT 21 s rs (resVal CT.P s r) := results_data CT_gives21
theorem resd22 {s : St} {r : ResultVar} {rs : List ResultVar} : results CT 22 s (r :: rs) = resHead CT 22 s rs (resVal CT.P s r) := results_data CT_gives22
theorem resd23 {s : St} {r : ResultVar} {rs : List ResultVar} : results CT 23 s (r :: rs) = resHead CT 23 s rs (resVal CT.P s r) := results_data CT_gives23
theorem resd24 {s : St} {r : ResultVar} {rs : List ResultVar} : results CT 24 s (r :: rs) = resHead CT 24 s rs (resVal CT.P s r) := results_data CT_gives24
theorem resd25 {s : St} {r : ResultVar} {rs : List ResultVar} : results CT 25 s (r :: rs) = resHead CT 25 s rs (resVal CT.P s r) := results_data CT_gives25
theorem resd26 {s : St} {r : ResultVar} {rs : List ResultVar} : results CT 26 s (r :: rs) = resHead CT 26 s rs (resVal CT.P s r) := results_data CT_gives26
theorem resd27 {s : St} {r : ResultVar} {rs : List ResultVar} : results CT 27 s (r :: rs) = resHead CT 27 s rs (resVal CT.P s r) := results_data CT_gives27
theorem resd29 {s : St} {r : ResultVar} {rs : List ResultVar} : results CT 29 s (r :: rs) = resHead CT 29 s rs (resVal CT.P s r) := results_data CT_gives29
theorem resd11 {s : St} {r : ResultVar} {rs : List ResultVar} : results CT 11 s (r :: rs) = resHead CT 11 s rs (resVal CT.P s r) := results_data CT_gives11
theorem resd3 {s : St} {r : ResultVar} {rs : List ResultVar} : results CT 3 s (r :: rs) = resHead CT 3 s rs (resVal CT.P s r) := results_data CT_gives3
theorem resd4 {s : St} {r : ResultVar} {rs : List ResultVar} : results CT 4 s (r :: rs) = resHead CT 4 s rs (resVal CT.P s r) := results_data CT_gives4
theorem resd5 {s : St} {r : ResultVar} {rs : List ResultVar} : results CT 5 s (r :: rs) = resHead CT 5 s rs (resVal CT.P s r) := results_data CT_gives5
theorem resd6 {s : St} {r : ResultVar} {rs : List ResultVar} : results CT 6 s (r :: rs) = resHead CT 6 s rs (resVal CT.P s r) := results_data CT_gives6
theorem resd7 {s : St} {r : ResultVar} {rs : List ResultVar} : results CT 7 s (r :: rs) = resHead CT 7 s rs (resVal CT.P s r) := results_data CT_gives7
theorem resd8 {s : St} {r : ResultVar} {rs : List ResultVar} : results CT 8 s (r :: rs) = resHead CT 8 s rs (resVal CT.P s r) := results_data CT_gives8
theorem resd9 {s : St} {r : ResultVar} {rs : List ResultVar} : results CT 9 s (r :: rs) = resHead CT 9 s rs (resVal CT.P s r) := results_data CT_gives9
theorem resd10 {s : St} {r : ResultVar} {rs : List ResultVar} : results CT 10 s (r :: rs) = resHead CT 10 s rs (resVal CT.P s r) := results_data CT_gives10
theorem resd32 {s : St} {t : Nat} : results CT 32 s [.tmp t] = moveGive s.box s (s.get t) := results_move CT_gives32
theorem resd36 {s : St} {t : Nat} : results CT 36 s [.tmp t] = moveGive s.box s (s.get t) := results_move CT_gives36
theorem resd50 {s : St} {t : Nat} : results CT 50 s [.tmp t] = moveGive s.box s (s.get t) := results_move CT_gives50
attribute [go_sem] resd30 Try.results30 resd45 Try.results45 resd31 Try.results31 resd32 Try.results32 resd36 Try.results36 resd12 Try.results12 resd62 Try.results62 resd49 Try.results49 resd50 Try.results50 resd28 Try.results28 resd37 Try.results37 resd13 Try.results13 resd14 Try.results14 resd39 Try.results39 resd38 Try.results38 resd15 Try.results15 resd16 Try.results16 resd51 Try.results51 resd40 Try.results40 resd41 Try.results41 resd42 Try.results42 resd43 Try.results43 resd44 Try.results44 resd17 Try.results17 resd18 Try.results18 resd19 Try.results19 resd20 Try.results20 resd21 Try.results21 resd22 Try.results22 resd23 Try.results23 resd24 Try.results24 resd25 Try.results25 resd26 Try.results26 resd27 Try.results27 resd29 Try.results29 resd11 Try.results11 resd3 Try.results3 resd4 Try.results4 resd5 Try.results5 resd6 Try.results6 resd7 Try.results7 resd8 Try.results8 resd9 Try.results9 resd10 Try.results10
theorem info30 : Try.prog.info? 30 = some Try.t30 := info_of someWorld Try.typeInfo30
theorem info3 : Try.prog.info? 3 = some Try.t3 := info_of someWorld Try.typeInfo3
theorem cells30 : Try.prog.cellsOf 30 = 2 := (cells_of info30).trans rfl
theorem cells3 : Try.prog.cellsOf 3 = 1 := (cells_of info3).trans rfl
theorem zok30 : zeroOk Try.prog 30 = true := by unfold zeroOk; rw [info30]; rfl
theorem bytes30 : Try.prog.bytesOf 30 = 16 := (bytes_of info30).trans rfl
theorem zfits30 : zeroFits Try.prog 30 = true := by unfold zeroFits; rw [info30]; rfl
theorem zeros30 : zeroCVs Try.prog 30 = some [.val (.int .i64 (0 : Int)), .val (.int .i64 (0 : Int))] := by
  unfold zeroCVs isAg; rw [info30, Try.underlying30]; simp [bs, zeroCV, Try.t30]
theorem zeros3 : zeroCVs Try.prog 3 = some [.val (.int .i64 (0 : Int))] := by
  unfold zeroCVs isAg; rw [info3, Try.underlying3]; simp [bs, zeroCV, Try.t3]
theorem zok3 : zeroOk Try.prog 3 = true := by unfold zeroOk; rw [info3]; rfl
theorem bytes3 : Try.prog.bytesOf 3 = 8 := (bytes_of info3).trans rfl
theorem zfits3 : zeroFits Try.prog 3 = true := by unfold zeroFits; rw [info3]; rfl
theorem fok30 : fieldsOk Try.prog 30 = true := by
  unfold fieldsOk; rw [Try.underlying30]; simp [info3, info3]
theorem place30_0 : place Try.prog 30 0 = some (0, 1) := by
  unfold place; rw [Try.underlying30]; simp [cells3]
theorem place30_1 : place Try.prog 30 1 = some (1, 1) := by
  unfold place; rw [Try.underlying30]; simp [cells3]
theorem eqs30 : Try.prog.stoodInHeld 30 = false := by kernel_rfl
theorem eqg30 : Try.prog.eqGuardType Try.prog.depth 30 = false := by kernel_rfl
theorem eqBeql30 {a0 b0 : Int} {a1 b1 : Int} : eqBin Try.prog .eql 30 (.agg [.int .i64 a0, .int .i64 a1]) (.agg [.int .i64 b0, .int .i64 b1]) = some (.bool (a0 == b0 && (a1 == b1 && true))) :=
  eqBin_eql (eqD_of Try.underlying30 eqs30 eqg30 (eqF_cons (by simp [isAg, Try.underlying3]) (by simp [eqF1, Try.underlying3, scalarEq, bs_beq']) (eqF_cons (by simp [isAg, Try.underlying3]) (by simp [eqF1, Try.underlying3, scalarEq, bs_beq']) eqF_nil)))
theorem eqBneq30 {a0 b0 : Int} {a1 b1 : Int} : eqBin Try.prog .neq 30 (.agg [.int .i64 a0, .int .i64 a1]) (.agg [.int .i64 b0, .int .i64 b1]) = some (.bool (!(a0 == b0 && (a1 == b1 && true)))) :=
  eqBin_neq (eqD_of Try.underlying30 eqs30 eqg30 (eqF_cons (by simp [isAg, Try.underlying3]) (by simp [eqF1, Try.underlying3, scalarEq, bs_beq']) (eqF_cons (by simp [isAg, Try.underlying3]) (by simp [eqF1, Try.underlying3, scalarEq, bs_beq']) eqF_nil)))
theorem eqb4 {a b : Bool} : eqBin Try.prog .eql 4 (.bool a) (.bool b) = some (.bool (a == b)) := by simp [eqBin, eqD, Try.underlying4, scalarEq]
theorem neb4 {a b : Bool} : eqBin Try.prog .neq 4 (.bool a) (.bool b) = some (.bool (!(a == b))) := by simp [eqBin, eqD, Try.underlying4, scalarEq]
attribute [go_sem] CT_P cells30 Try.underlying30 cells3 Try.underlying3 Try.underlying22 zok30 bytes30 zfits30 zeros30 zeros3 Try.underlying57 zok3 bytes3 zfits3 fok30 place30_0 place30_1 eqBeql30 eqBneq30 Try.underlying55 Try.underlying24 Try.underlying4 eqb4 neb4
attribute [go_sem] CT_how30_0 CT_how45_0 CT_how45_1 CT_how31_0 CT_how31_1 CT_how32_0 CT_how36_0 CT_how36_1 CT_how12_0 CT_how62_0 CT_how62_1 CT_how49_0 CT_how49_1 CT_how50_0 CT_how50_1 CT_how50_2 CT_how28_0 CT_how28_1 CT_how37_0 CT_how37_1 CT_how37_2 CT_how13_0 CT_how14_0 CT_how14_1 CT_how39_0 CT_how39_1 CT_how38_0 CT_how38_1 CT_how38_2 CT_how15_0 CT_how15_1 CT_how16_0 CT_how51_0 CT_how51_1 CT_how40_0 CT_how40_1 CT_how40_2 CT_how41_0 CT_how41_1 CT_how42_0 CT_how42_1 CT_how43_0 CT_how43_1 CT_how44_0 CT_how44_1 CT_how17_0 CT_how17_1 CT_how18_0 CT_how18_1 CT_how19_0 CT_how19_1 CT_how20_0 CT_how20_1 CT_how21_0 CT_how21_1 CT_how22_0 CT_how22_1 CT_how23_0 CT_how24_0 CT_how25_0 CT_how26_0 CT_how26_1 CT_how27_0 CT_how27_1 CT_how29_0 CT_how3_0 CT_how4_0 CT_how5_0 CT_how5_1 CT_how6_0 CT_how6_1 CT_how7_0 CT_how7_1 CT_how8_0 CT_how8_1 CT_how8_2 CT_how9_0 CT_how9_1 CT_how10_0
end Go.Val

/- part HL -/
/- The kit's contracts of slices.SortFunc and cmp.Compare laid at this program: plain text, written by program. -/
namespace Go.Val
open Go.Proofs Go.Shelf
def sortRg_ren : Go.Shelf.Ren := ⟨fun | 6 => 33 | 15 => 47 | 14 => 46 | 28 => 60 | 29 => 61 | 20 => 52 | 21 => 53 | 22 => 54 | 23 => 55 | 24 => 56 | 25 => 57 | 26 => 58 | 27 => 59 | 46 => 63 | 47 => 64 | 48 => 65 | 49 => 66 | 50 => 67 | 57 => 68 | n => n, fun | 22 => 22 | 24 => 30 | 25 => 44 | 3 => 3 | 39 => 55 | 0 => 0 | 53 => 70 | 55 => 72 | 4 => 4 | 46 => 64 | 45 => 63 | 50 => 47 | 5 => 5 | 9 => 9 | 66 => 74 | 70 => 78 | 76 => 80 | 77 => 81 | n => n, fun | n => n⟩
theorem sortRg : Go.Proofs.SlLaysF0.n6 Try.prog sortRg_ren := {
  mixed := by kernel_rfl
  f6 := ⟨Try.f33.name, by decide, Try.func33.trans (congrArg some (by kernel_rfl))⟩
  f14 := ⟨Try.f46.name, by decide, Try.func46.trans (congrArg some (by kernel_rfl))⟩
  f15 := Try.func47.trans (congrArg some (by kernel_rfl))
  f20 := ⟨Try.f52.name, by decide, Try.func52.trans (congrArg some (by kernel_rfl))⟩
  f21 := ⟨Try.f53.name, by decide, Try.func53.trans (congrArg some (by kernel_rfl))⟩
  f22 := ⟨Try.f54.name, by decide, Try.func54.trans (congrArg some (by kernel_rfl))⟩
  f23 := ⟨Try.f55.name, by decide, Try.func55.trans (congrArg some (by kernel_rfl))⟩
  f24 := ⟨Try.f56.name, by decide, Try.func56.trans (congrArg some (by kernel_rfl))⟩
  f25 := ⟨Try.f57.name, by decide, Try.func57.trans (congrArg some (by kernel_rfl))⟩
  f26 := ⟨Try.f58.name, by decide, Try.func58.trans (congrArg some (by kernel_rfl))⟩
  f27 := ⟨Try.f59.name, by decide, Try.func59.trans (congrArg some (by kernel_rfl))⟩
  f28 := Try.func60.trans (congrArg some (by kernel_rfl))
  f29 := Try.func61.trans (congrArg some (by kernel_rfl))
  f46 := ⟨Try.f63.name, by decide, Try.func63.trans (congrArg some (by kernel_rfl))⟩
  f47 := Try.func64.trans (congrArg some (by kernel_rfl))
  f48 := Try.func65.trans (congrArg some (by kernel_rfl))
  f49 := ⟨Try.f66.name, by decide, Try.func66.trans (congrArg some (by kernel_rfl))⟩
  f50 := ⟨Try.f67.name, by decide, Try.func67.trans (congrArg some (by kernel_rfl))⟩
  f57 := ⟨Try.f68.name, by decide, Try.func68.trans (congrArg some (by kernel_rfl))⟩
  t0 := Try.underlying0
  a0 := Try.isAgg0
  z0 := Try.sizeOf0
  v0 := Try.zeroValue0
  t3 := Try.underlying3
  a3 := Try.isAgg3
  z3 := Try.sizeOf3
  v3 := Try.zeroValue3
  t4 := Try.underlying4
  a4 := Try.isAgg4
  z4 := Try.sizeOf4
  v4 := Try.zeroValue4
  t5 := Try.underlying5
  a5 := Try.isAgg5
  z5 := Try.sizeOf5
  v5 := Try.zeroValue5
  t9 := Try.underlying9
  a9 := Try.isAgg9
  z9 := Try.sizeOf9
  v9 := Try.zeroValue9
  t22 := Try.underlying22
  a22 := Try.isAgg22
  z22 := Try.sizeOf22
  v22 := Try.zeroValue22
  t25 := Try.underlying44
  a25 := Try.isAgg44
  z25 := Try.sizeOf44
  v25 := Try.zeroValue44
  t39 := Try.underlying55
  a39 := Try.isAgg55
  z39 := Try.sizeOf55
  v39 := Try.zeroValue55
  t45 := Try.underlying63
  a45 := Try.isAgg63
  z45 := Try.sizeOf63
  v45 := Try.zeroValue63
  t46 := Try.underlying64
  a46 := Try.isAgg64
  z46 := Try.sizeOf64
  v46 := Try.zeroValue64
  t50 := Try.underlying47
  a50 := Try.isAgg47
  z50 := Try.sizeOf47
  v50 := Try.zeroValue47
  t53 := Try.underlying70
  a53 := Try.isAgg70
  z53 := Try.sizeOf70
  v53 := Try.zeroValue70
  t55 := Try.underlying72
  a55 := Try.isAgg72
  z55 := Try.sizeOf72
  v55 := Try.zeroValue72
  t66 := Try.underlying74
  a66 := Try.isAgg74
  z66 := Try.sizeOf74
  v66 := Try.zeroValue74
  t70 := Try.underlying78
  a70 := Try.isAgg78
  z70 := Try.sizeOf78
  v70 := Try.zeroValue78
  t76 := Try.underlying80
  a76 := Try.isAgg80
  z76 := Try.sizeOf80
  v76 := Try.zeroValue80
  t77 := Try.underlying81
  a77 := Try.isAgg81
  z77 := Try.sizeOf81
  v77 := Try.zeroValue81 }

def cmpInt_ren : Go.Shelf.Ren := ⟨fun | 5 => 35 | 7 => 48 | n => n, fun | 22 => 3 | 3 => 3 | 4 => 4 | n => n, fun | n => n⟩
theorem cmpInt : Go.Proofs.SlLaysC2.n5 Try.prog cmpInt_ren := {
  mixed := by kernel_rfl
  f5 := ⟨Try.f35.name, by decide, Try.func35.trans (congrArg some (by kernel_rfl))⟩
  f7 := ⟨Try.f48.name, by decide, Try.func48.trans (congrArg some (by kernel_rfl))⟩
  t3 := Try.underlying3
  a3 := Try.isAgg3
  z3 := Try.sizeOf3
  v3 := Try.zeroValue3
  t4 := Try.underlying4
  a4 := Try.isAgg4
  z4 := Try.sizeOf4
  v4 := Try.zeroValue4
  t22 := Try.underlying3
  a22 := Try.isAgg3
  z22 := Try.sizeOf3
  v22 := Try.zeroValue3 }
end Go.Val

/- part HY -/
/- What the program turns in place: slices.SortFunc at ranges does in the machine what is said of it (by the kit's contract). -/
namespace Go.Proofs.HR
open Go.Shelf Go.RowKit Go.Lib Go.Sort Go.Val
set_option linter.unusedVariables false
def encR (x : TRange) : List Value := [.int .i64 x.Low, .int .i64 x.High]
set_option maxHeartbeats 1000000 in
theorem closure34 (x y : TRange) (W : World) : Calls Try.prog 34 #[.agg #[.int .i64 x.Low, .int .i64 x.High], .agg #[.int .i64 y.Low, .int .i64 y.High]] W fun e w' => e = .returned (.int .i64 (Lib.compareInt x.Low y.Low)) ∧ ∃ q os', w' = Sort.grow (W.drewN q) os' := by
  have hcon := fun W' => AnyG.cmp_Compare_int cmpInt x.Low y.Low W'
  change ∀ W', Calls Try.prog 35 _ _ _ at hcon
  generalize Lib.compareInt x.Low y.Low = r at hcon ⊢
  go_enter Try.func34, Try.ntmps34
  go_wp2_with (go_at_call 35; refine (hcon _).mono ?_; rintro e w' ⟨rfl, rfl⟩)
  go_ret
  exact ⟨rfl, 0, _, by rw [alloc_eq_grow, alloc_eq_grow, grow_grow]; rfl⟩
theorem cmpLays34 (blk off size : Nat) (w : World) : CmpLays Try.prog 34 #[] encR 2 (fun x y => Lib.compareInt x.Low y.Low) blk off size w :=
  fun _ _ _ _ x y => closure34 x y _
theorem ltLow : ltOf (fun x y : TRange => Lib.compareInt x.Low y.Low) = ltR := by
  funext x y
  unfold ltOf Lib.compareInt ltR
  by_cases h1 : x.Low < y.Low
  · simp [h1]
  · by_cases h2 : y.Low < x.Low <;> simp [h1, h2]
theorem swoR : SWO ltR where
  irrefl x := by simp [ltR]
  trans x y z h1 h2 := by simp [ltR] at *; omega
  ntrans x y z h1 h2 := by simp [ltR] at *; omega
variable {w : World} {G : Gh}
theorem vals_of : ∀ {l : List TRange} {vs : List Value}, RelCs w G (allCells (l.map eRange)) vs → vs = l.flatMap encR
  | [], vs, h => by
    have h' : RelCs w G [] vs := h
    cases h'; rfl
  | a :: l, vs, h => by
    have h' : RelCs w G (.int .i64 a.Low :: .int .i64 a.High :: allCells (l.map eRange)) vs := h
    cases h' with
    | cons _ v _ vs _ h1 h2 =>
      cases h2 with
      | cons _ v2 _ vs2 _ h3 h4 =>
        cases h1; cases h3
        rw [vals_of h4]; rfl
theorem rel_of : ∀ (l : List TRange), RelCs w G (allCells (l.map eRange)) (l.flatMap encR)
  | [] => .nil
  | a :: l => .cons _ _ _ _ rfl (.int _ _) (.cons _ _ _ _ rfl (.int _ _) (rel_of l))
theorem flat_len : ∀ (l : List TRange), (l.flatMap encR).length = l.length * 2
  | [] => rfl
  | a :: l => by simp only [List.flatMap_cons, List.length_append, flat_len l, List.length_cons, encR]; simp; omega
theorem flat_get : ∀ (l : List TRange) (t : Nat), t < l.length * 2 → (l.flatMap encR)[t]? = some ((encR l.toArray[t / 2]!)[t % 2]!)
  | [], t, h => by simp at h
  | a :: l, 0, h => rfl
  | a :: l, 1, h => rfl
  | a :: l, t + 2, h => by
    have ih := flat_get l t (by simp at h; omega)
    have e1 : (t + 2) / 2 = t / 2 + 1 := by omega
    have e2 : (t + 2) % 2 = t % 2 := by omega
    rw [e1, e2]
    have e3 : (a :: l).toArray[t / 2 + 1]! = l.toArray[t / 2]! := by simp [Array.getElem!_eq_getD, Array.getD_eq_getD_getElem?]
    rw [e3]
    have e4 : ((a :: l).flatMap encR)[t + 2]? = (l.flatMap encR)[t]? := by
      simp only [List.flatMap_cons, encR]; rfl
    rw [e4]; exact ih
theorem flatK_get (l : List TRange) (j : Nat) (h : j < l.length * 2) : (l.flatMap encR)[j]? = some (flatK encR 2 l.toArray)[j]! := by
  rw [get_flatK _ _ _ _ (by simpa using h)]; exact flat_get l j h
theorem ext_CT : ExtSound CT := by
  intro g ds k zs ys he
  have he' : extR g ds k zs = some ys := he
  unfold extR at he'
  split at he'
  case isFalse => cases he'
  rename_i hc
  obtain ⟨rfl, rfl, rfl⟩ := hc
  obtain ⟨l, l', rfl, hs, rfl⟩ := extOf_some he'
  unfold sortR at hs
  split at hs
  case isFalse => cases hs
  rename_i hlen
  have hs' := Option.some.inj hs
  clear hs he he'
  subst hs'
  refine ⟨⟨Try.f33, _, Try.func33, rfl, by kernel_rfl⟩, fun w G t v vs hP hrow hvs => ?_⟩
  have hv : vs = [.func (.func 34) #[] #[]] := by
    cases hvs with
    | cons _ v _ vs _ h1 h2 =>
      cases h2
      cases h1 with
      | fn _ _ _ us vs k1 k2 =>
        have e1 : us = #[] := by
          cases hu : us.toList with
          | nil => exact Array.toList_inj.1 hu
          | cons u l => rw [hu] at k1; cases k1
        have e2 : vs = #[] := by
          cases hu : vs.toList with
          | nil => exact Array.toList_inj.1 hu
          | cons u l => rw [hu] at k2; cases k2
        rw [e1, e2]
  subst hv
  have hno : ∀ (p : Option Addr) (cap : Nat), l = [] → v = .slice p 0 cap → Calls Try.prog 33 #[v, .func (.func 34) #[] #[]] w fun e w' => e = .returned (.tuple #[]) ∧ w' = w := fun p cap _ e => by
    rw [e]
    exact AnyF.slices_SortFunc_none sortRg p cap _ w
  have empty : ∀ (p : Option Addr) (cap : Nat), l = [] → v = .slice p 0 cap → Calls CT.P 33 (v :: [.func (.func 34) #[] #[]]).toArray w fun e w' => e = .returned (.tuple #[]) ∧ w'.os = w.os ∧ w'.tape = w.tape ∧ w'.output = w.output ∧ w.heap.size ≤ w'.heap.size ∧
      ((l.map eRange = [] ∧ (pdq ltR l.toArray 0 l.length (Lib.bitLen l.length) true true).toList.map eRange = [] ∧ ∀ b, b < w.heap.size → w'.heap[b]? = w.heap[b]?) ∨
       l.map eRange ≠ [] ∧ ∃ b cap arr arr', v = .slice (some ⟨b, 0, none⟩) (l.map eRange).length cap ∧ w.heap[b]? = some (.cells arr 30 (0, 0)) ∧ w'.heap[b]? = some (.cells arr' 30 (0, 0)) ∧ arr'.size = arr.size ∧ ((pdq ltR l.toArray 0 l.length (Lib.bitLen l.length) true true).toList.map eRange).length = (l.map eRange).length ∧
         (∀ y ∈ (pdq ltR l.toArray 0 l.length (Lib.bitLen l.length) true true).toList.map eRange, y.cells.length = CT.P.cellsOf 30) ∧ RelCs w G (allCells ((pdq ltR l.toArray 0 l.length (Lib.bitLen l.length) true true).toList.map eRange)) (arr'.toList.take (((pdq ltR l.toArray 0 l.length (Lib.bitLen l.length) true true).toList.map eRange).length * CT.P.cellsOf 30)) ∧ ∀ b', b' < w.heap.size → b' ≠ b → w'.heap[b']? = w.heap[b']?) := fun p cap hl e => by
    refine (hno p cap hl e).mono fun e w' ⟨h1, h2⟩ => ?_
    subst h2
    refine ⟨h1, rfl, rfl, rfl, Nat.le_refl _, .inl ⟨by rw [hl]; rfl, ?_, fun _ _ => rfl⟩⟩
    have hp := (pdq_sorts ltR swoR l.toArray 0 l.length (Lib.bitLen l.length) true true (Nat.zero_le _) (by simp) (Or.inl rfl)).1.1
    rw [hl] at hp ⊢
    have : (pdq ltR ([] : List TRange).toArray 0 ([] : List TRange).length (Lib.bitLen ([] : List TRange).length) true true).toList = [] := List.length_eq_zero_iff.1 (by simpa using hp)
    rw [this]; rfl
  by_cases hl : l = []
  · rcases hrow with ⟨_, a, e⟩ | ⟨b, cap, arr, e, _⟩
    · exact empty a 0 hl e
    · exact empty (some ⟨b, 0, none⟩) cap hl (by rw [e, hl]; rfl)
  rcases hrow with ⟨h0, _⟩ | ⟨b, cap, arr, rfl, h2, h3, h4, h5, h6, h7, h8⟩
  · exact absurd (List.map_eq_nil_iff.1 h0) hl
  have hcell : G.P.cellsOf 30 = 2 := by rw [hP]; kernel_rfl
  rw [hcell] at h4 h7 h8
  have hvals := vals_of h8
  have hlm : (l.map eRange).length = l.length := by simp
  rw [hlm] at hvals h5
  have hget : ∀ j, j < l.length * 2 → arr[j]? = some (flatK encR 2 l.toArray)[j]! := fun j hj => by
    rw [← flatK_get l j hj, ← hvals, List.getElem?_take, if_pos hj]; simp
  have hH : HoldsK encR 2 w b 0 l.toArray := fun j hj => by
    have hj' : j < l.length * 2 := by simpa using hj
    refine ⟨?_, ?_⟩
    · simp only [World.cell?, h3, Nat.zero_add]
      exact hget j hj'
    · simp [World.frozen?, h3]
  have hsz : l.toArray.size < 4611686018427387904 := by
    have : roomOf = 140737488355328 := rfl
    have e : l.toArray.size = l.length := by simp
    omega
  have eg : ∀ args w, (callFunc 34 args).run Try.prog w = .ok (.enter 34 args) w := enters_of Try.func34 (by kernel_rfl) rfl
  have hcon := AnyQ.slices_SortFunc_eq sortRg 2 Try.isAgg30 Try.sizeOf30 encR (fun _ => rfl) (fun x v hv => by simp [encR] at hv; rcases hv with rfl | rfl <;> rfl) (fun x y => Lib.compareInt x.Low y.Low) (by rw [ltLow]; exact swoR) 34 #[] b 0 cap l.toArray w eg (cmpLays34 b 0 _ w) hH (heap_lt h3) hsz
  rw [ltLow, List.size_toArray] at hcon
  change Calls Try.prog 33 _ _ _ at hcon
  clear empty hno hvs h8 hget hH eg
  have hcon' : Calls CT.P 33 (.slice (some ⟨b, 0, none⟩) (l.map eRange).length cap :: [.func (.func 34) #[] #[]]).toArray w fun e w' => e = .returned (.tuple #[]) ∧ ∃ n os, w' = sortWorldK encR 2 w b 0 n (pdq ltR l.toArray 0 l.length (Lib.bitLen l.length) true true) os := by
    rw [hlm]
    exact hcon
  refine hcon'.mono fun e w' ⟨he, n, os, hw⟩ => ?_
  have hp := (pdq_sorts ltR swoR l.toArray 0 l.length (Lib.bitLen l.length) true true (Nat.zero_le _) (by simp) (Or.inl rfl)).1.1
  generalize pdq ltR l.toArray 0 l.length (Lib.bitLen l.length) true true = d' at hp hw ⊢
  have hb := heap_lt h3
  have hps : d'.size = l.length := by simpa using hp
  have hheap : w'.heap = (w.heap.modify b (onCells (putCells id 0 (flatK encR 2 d')))) ++ os := by rw [hw]; rfl
  have hnew : w'.heap[b]? = some (.cells (putCells id 0 (flatK encR 2 d') arr) 30 (0, 0)) := by
    rw [hheap, Array.getElem?_append, if_pos (by simpa using hb), Array.getElem?_modify, if_pos rfl, h3]; rfl
  refine ⟨he, by rw [hw]; rfl, by rw [hw]; rfl, by rw [hw]; rfl, by rw [hheap]; simp, .inr ⟨by simpa using hl, b, cap, arr, _, rfl, h3, hnew, by simp [putCells], by simp [hps], ?_, ?_, fun b' hb' hne => ?_⟩⟩
  · intro y hy
    obtain ⟨x, _, rfl⟩ := List.mem_map.1 hy
    kernel_rfl
  · have e : (putCells id 0 (flatK encR 2 d') arr).toList.take ((d'.toList.map eRange).length * CT.P.cellsOf 30) = d'.toList.flatMap encR := by
      have hc2 : CT.P.cellsOf 30 = 2 := by kernel_rfl
      rw [hc2]
      apply List.ext_getElem?
      intro j
      have hdl : d'.toList.length = l.length := by simpa using hps
      rw [List.getElem?_take]
      by_cases hj : j < d'.toList.length * 2
      · have hj2 : j < (d'.toList.map eRange).length * 2 := by simpa using hj
        rw [if_pos hj2, flatK_get d'.toList j hj]
        have hja : j < arr.size := by rw [h4]; rw [hdl] at hj; omega
        have hx : arr[j]? = some arr[j] := Array.getElem?_eq_getElem hja
        have hs : j < 0 + (flatK encR 2 d').size := by simpa using hj
        simp only [Array.getElem?_toList, putCells, Array.getElem?_mapIdx, hx, Option.map_some, Nat.zero_le, true_and, Nat.sub_zero, id]
        rw [if_pos hs]
      · have hj2 : ¬ j < (d'.toList.map eRange).length * 2 := by simpa using hj
        rw [if_neg hj2, List.getElem?_eq_none (by rw [flat_len]; omega)]
    rw [e]
    exact rel_of _
  · rw [hheap, Array.getElem?_append, if_pos (by simpa using hb'), Array.getElem?_modify, if_neg (Ne.symm hne)]
end Go.Proofs.HR

/- part HR -/
/- Typed data of the laws' arguments (chapter 02). -/
namespace Go.Val
open Go.Proofs
set_option linter.unusedVariables false
set_option maxRecDepth 100000
theorem mixed : Try.prog.follows .mixedOrders = true := by kernel_rfl
theorem isT_Range {m : Nat} {ds : List DVal} (h : isT Try.prog (m + 2) 30 ds) : ∃ x : TRange, ds = (eRange x).cells := by
  unfold isT at h
  rw [Try.underlying30] at h
  simp only [isF] at h
  obtain ⟨a, b, rfl, h1, c, d, rfl, h2, rfl⟩ := h
  obtain ⟨n, rfl, _⟩ := isT_i64 Try.underlying3 h1
  obtain ⟨k, rfl, _⟩ := isT_i64 Try.underlying3 h2
  exact ⟨⟨n, k⟩, rfl⟩
theorem isT_ranges {m : Nat} {ds : List DVal} (h : isT Try.prog (m + 3) 22 ds) : ∃ l : List TRange, ds = [eL eRange l] ∧ l.length ≤ maxLen :=
  isT_slice Try.underlying22 h fun x hx hag _ => by
    obtain ⟨y, hy⟩ := isT_Range hx
    obtain ⟨cs, rfl⟩ := hag (by simp [isAg, Try.underlying30])
    exact ⟨y, by simp only [DVal.cells] at hy; rw [hy]; rfl⟩
/-- How long a slice is, as its argument tells it. -/
theorem len_slice {H : Type} {enc : TypeId × Value → H} {P : Program} {W : World} {spare : Nat → Bool} {held : Bool} {fuel : Nat} {t e : TypeId} {v : Value} {d : DataW H} {p : List MemPlace} {G : Gh} {xs : List DVal}
    (hu : P.underlying t = some (.slice e)) (hf : DataW.trod enc P W 0 spare held fuel t [v] = some (d, p)) (hr : RelV W G (.sl xs) v) : xs = [] ∨ ∃ elems sp, d = .slice elems sp ∧ elems.length = xs.length := by
  rcases DataW.trod_slice hu hf with ⟨h, _⟩ | ⟨a, len, cap, elems, rest, n, _, h, hx, _, _, _, hl, _⟩
  · left
    simp only [List.cons.injEq, and_true] at h
    subst h
    cases hr with
    | nilsl _ _ => rfl
  · right
    simp only [List.cons.injEq, and_true] at h
    subst h
    simp only [Prod.mk.injEq] at hx
    refine ⟨_, _, hx.1, ?_⟩
    rw [List.length_map, hl]
    cases hr with
    | nilsl _ _ => rfl
    | sl _ _ _ _ _ _ _ _ _ _ _ _ _ => rfl
end Go.Val

/- part HF -/
/- Functions that are read off the program. -/
namespace Go.Val
set_option linter.unusedVariables false
set_option linter.unusedSimpArgs false
noncomputable section
def ranges_Make_1 (x : TRange) : Option Bool :=
  some ((decide (x.Low < (0 : Int))) || ((decide (x.High > (1114111 : Int))) || (decide (x.Low > x.High))))
def slices_IndexFunc_api_Range_api_Range.k1 : Option Int :=
  some (-1 : Int)
def slices_IndexFunc_api_Range_api_Range.b1 (s : List TRange) (f : TRange → Option Bool) : Int → Option (Step Int Int)
  | v =>
    if (decide (v < (s.length : Int))) then
      (idx s v).bind fun x =>
      (f x).bind fun r =>
      if r then
        some (Step.done v)
      else
        some (Step.next (IntKind.i64.wrap (v + (1 : Int))))
    else
      (slices_IndexFunc_api_Range_api_Range.k1).map Step.done
def slices_IndexFunc_api_Range_api_Range (s : List TRange) (f : TRange → Option Bool) : Option Int :=
  Loop (slices_IndexFunc_api_Range_api_Range.b1 s f) (0 : Int)
def slices_ContainsFunc_api_Range_api_Range (s : List TRange) (f : TRange → Option Bool) : Option Bool :=
  (slices_IndexFunc_api_Range_api_Range s f).bind fun r =>
  some (decide (r ≥ (0 : Int)))
def ranges_put (l : List TRange) (x : TRange) : Option (List TRange) :=
  (if (decide ((l.length : Int) > (0 : Int))) then
      (idx l (IntKind.i64.wrap ((l.length : Int) - (1 : Int)))).bind fun x1 =>
      some (decide (x.Low ≤ (IntKind.i64.wrap (x1.High + (1 : Int)))))
    else
      some false).bind fun v =>
  if v then
    (idx l (IntKind.i64.wrap ((l.length : Int) - (1 : Int)))).bind fun x2 =>
    some (List.set l (Int.toNat (IntKind.i64.wrap ((l.length : Int) - (1 : Int)))) (TRange.mk x2.Low (mx x2.High x.High)))
  else
    (room 16 (l.length + 1)).bind fun _ =>
    some (l ++ ([x]))
def ranges_Make.k1 (out : List TRange) : Option ((List TRange × Int)) :=
  some (out, (0 : Int))
def ranges_Make.b1 (l1 : List TRange) : (List TRange × Int) → Option (Step ((List TRange × Int)) ((List TRange × Int)))
  | (out1, v) =>
    if (decide (v < (l1.length : Int))) then
      (idx l1 v).bind fun x =>
      (ranges_put out1 x).bind fun r2 =>
      some (Step.next (r2, (IntKind.i64.wrap (v + (1 : Int)))))
    else
      (ranges_Make.k1 out1).map Step.done
def ranges_Make (l : List TRange) : Option ((List TRange × Int)) :=
  (slices_ContainsFunc_api_Range_api_Range l (ranges_Make_1)).bind fun r =>
  if r then
    some (([] : List TRange), (1 : Int))
  else
    (slices_Clone_api_Range_api_Range l).bind fun r1 =>
    (sortR r1).bind fun l1 =>
    Loop (ranges_Make.b1 l1) ([], (0 : Int))
def scansionref02_rising.k1 (l : List Int) (n : Int) (at_ : Int) : Option (List Int) :=
  (if (decide (at_ < (l.length : Int))) then
      (idx l at_).bind fun n1 =>
      some (n1 == n)
    else
      some false).bind fun v =>
  if v then
    some l
  else
    (cutH l at_).bind fun _ =>
    (room 8 (0 + (List.take (Int.toNat at_) l).length)).bind fun _ =>
    (room 8 ((List.take (Int.toNat at_) l).length + 1)).bind fun _ =>
    (cutL l at_).bind fun _ =>
    (room 8 ((List.take (Int.toNat at_) l).length + 1 + (List.drop (Int.toNat at_) l).length)).bind fun _ =>
    some (((List.take (Int.toNat at_) l) ++ ([n])) ++ (List.drop (Int.toNat at_) l))
def scansionref02_rising.b1 (l : List Int) (n : Int) : Int → Option (Step Int (List Int))
  | at_1 =>
    (if (decide (at_1 < (l.length : Int))) then
        (idx l at_1).bind fun n2 =>
        some (decide (n2 < n))
      else
        some false).bind fun v1 =>
    if v1 then
      some (Step.next (IntKind.i64.wrap (at_1 + (1 : Int))))
    else
      (scansionref02_rising.k1 l n at_1).map Step.done
def scansionref02_rising (l : List Int) (n : Int) : Option (List Int) :=
  Loop (scansionref02_rising.b1 l n) (0 : Int)
def scansionref02_edges.k1 (out : List Int) : Option (List Int) :=
  some out
def scansionref02_edges.k2 (i : Int) (out2 : List Int) : Option (Step ((List Int × Int)) (List Int)) :=
  some (Step.next (out2, (IntKind.i64.wrap (i + (1 : Int)))))
def scansionref02_edges.b1 (a_ : List TRange) (b : List TRange) : (List Int × Int) → Option (Step ((List Int × Int)) (List Int))
  | (out1, i) =>
    if (decide (i < ((a_ ++ b).length : Int))) then
      (idx (a_ ++ b) i).bind fun x =>
      (scansionref02_rising out1 x.Low).bind fun r =>
      if (decide (x.High < (1114111 : Int))) then
        (scansionref02_rising r (IntKind.i64.wrap (x.High + (1 : Int)))).bind fun r1 =>
        scansionref02_edges.k2 i r1
      else
        scansionref02_edges.k2 i r
    else
      (scansionref02_edges.k1 out1).map Step.done
def scansionref02_edges (a_ : List TRange) (b : List TRange) : Option (List Int) :=
  (room 16 (0 + a_.length)).bind fun _ =>
  (room 16 (a_.length + b.length)).bind fun _ =>
  Loop (scansionref02_edges.b1 a_ b) ([(0 : Int)], (0 : Int))
def scansionref02_with (l : List TRange) (low : Int) (high : Int) : Option (List TRange) :=
  (if (decide ((l.length : Int) > (0 : Int))) then
      (idx l (IntKind.i64.wrap ((l.length : Int) - (1 : Int)))).bind fun x =>
      some (x.High == (IntKind.i64.wrap (low - (1 : Int))))
    else
      some false).bind fun v =>
  if v then
    (idx l (IntKind.i64.wrap ((l.length : Int) - (1 : Int)))).bind fun x1 =>
    some (List.set l (Int.toNat (IntKind.i64.wrap ((l.length : Int) - (1 : Int)))) (TRange.mk x1.Low high))
  else
    (room 16 (l.length + 1)).bind fun _ =>
    some (l ++ ([(TRange.mk low high)]))
def scansionref02_Has.k1 : Option Bool :=
  some false
def scansionref02_Has.b1 (a_ : List TRange) (r : Int) : Int → Option (Step Int Bool)
  | i =>
    if (decide (i < (a_.length : Int))) then
      ((idx a_ i).bind fun x =>
        if (decide (r ≥ x.Low)) then
          some (decide (r ≤ x.High))
        else
          some false).bind fun v =>
      if v then
        some (Step.done true)
      else
        some (Step.next (IntKind.i64.wrap (i + (1 : Int))))
    else
      (scansionref02_Has.k1).map Step.done
def scansionref02_Has (a_ : List TRange) (r : Int) : Option Bool :=
  Loop (scansionref02_Has.b1 a_ r) (0 : Int)
def scansionref02_pick.k1 (out : List TRange) : Option (List TRange) :=
  some out
def scansionref02_pick.k2 (i : Int) (out2 : List TRange) : Option (Step ((List TRange × Int)) (List TRange)) :=
  some (Step.next (out2, (IntKind.i64.wrap (i + (1 : Int)))))
def scansionref02_pick.k4 (out1 : List TRange) (i : Int) (high : Int) (n : Int) (is1 : Bool) : Option (Step ((List TRange × Int)) (List TRange)) :=
  if is1 then
    (scansionref02_with out1 n high).bind fun r3 =>
    scansionref02_pick.k2 i r3
  else
    scansionref02_pick.k2 i out1
def scansionref02_pick.k3 (a_ : List TRange) (b : List TRange) (kind : Int) (r : List Int) (out1 : List TRange) (i : Int) (high : Int) : Option (Step ((List TRange × Int)) (List TRange)) :=
  (idx r i).bind fun n =>
  (scansionref02_Has a_ n).bind fun r1 =>
  (scansionref02_Has b n).bind fun r2 =>
  if (kind == (1 : Int)) then
    if r1 then
      scansionref02_pick.k4 out1 i high n r2
    else
      scansionref02_pick.k4 out1 i high n false
  else
    if (kind == (2 : Int)) then
      if r1 then
        scansionref02_pick.k4 out1 i high n (!r2)
      else
        scansionref02_pick.k4 out1 i high n false
    else
      if (kind == (3 : Int)) then
        if (!r1) then
          scansionref02_pick.k4 out1 i high n (!r2)
        else
          scansionref02_pick.k4 out1 i high n false
      else
        scansionref02_pick.k4 out1 i high n (r1 || r2)
def scansionref02_pick.b1 (a_ : List TRange) (b : List TRange) (kind : Int) (r : List Int) : (List TRange × Int) → Option (Step ((List TRange × Int)) (List TRange))
  | (out1, i) =>
    if (decide (i < (r.length : Int))) then
      if (decide ((IntKind.i64.wrap (i + (1 : Int))) < (r.length : Int))) then
        (idx r (IntKind.i64.wrap (i + (1 : Int)))).bind fun n1 =>
        scansionref02_pick.k3 a_ b kind r out1 i (IntKind.i64.wrap (n1 - (1 : Int)))
      else
        scansionref02_pick.k3 a_ b kind r out1 i (1114111 : Int)
    else
      (scansionref02_pick.k1 out1).map Step.done
def scansionref02_pick (a_ : List TRange) (b : List TRange) (kind : Int) : Option (List TRange) :=
  (scansionref02_edges a_ b).bind fun r =>
  Loop (scansionref02_pick.b1 a_ b kind r) ([], (0 : Int))
def scansionref02_Make.k1 (l : List TRange) : Option ((List TRange × Int)) :=
  (scansionref02_pick l [] (0 : Int)).bind fun r =>
  some (r, (0 : Int))
def scansionref02_Make.b1 (l : List TRange) : Int → Option (Step Int ((List TRange × Int)))
  | i =>
    if (decide (i < (l.length : Int))) then
      ((idx l i).bind fun x =>
        if (decide (x.Low < (0 : Int))) then
          some true
        else
          if (decide (x.High > (1114111 : Int))) then
            some true
          else
            some (decide (x.Low > x.High))).bind fun v =>
      if v then
        some (Step.done (([] : List TRange), (1 : Int)))
      else
        some (Step.next (IntKind.i64.wrap (i + (1 : Int))))
    else
      (scansionref02_Make.k1 l).map Step.done
def scansionref02_Make (l : List TRange) : Option ((List TRange × Int)) :=
  Loop (scansionref02_Make.b1 l) (0 : Int)
def ranges_Has_1 (x : TRange) (r : Int) : Option Int :=
  if (decide (x.High < r)) then
    some (-1 : Int)
  else
    if (decide (x.Low > r)) then
      some (1 : Int)
    else
      some (0 : Int)
def slices_BinarySearchFunc_api_Range_api_Range_int.k1 (x : List TRange) (target : Int) (cmp : TRange → Int → Option Int) (i : Int) : Option ((Int × Bool)) :=
  (if (decide (i < (x.length : Int))) then
      (idx x i).bind fun x1 =>
      (cmp x1 target).bind fun r =>
      some (r == (0 : Int))
    else
      some false).bind fun v =>
  some (i, v)
def slices_BinarySearchFunc_api_Range_api_Range_int.k2 (i2 : Int) (j1 : Int) : Option (Step ((Int × Int)) ((Int × Bool))) :=
  some (Step.next (i2, j1))
def slices_BinarySearchFunc_api_Range_api_Range_int.b1 (x : List TRange) (target : Int) (cmp : TRange → Int → Option Int) : (Int × Int) → Option (Step ((Int × Int)) ((Int × Bool)))
  | (i1, j) =>
    if (decide (i1 < j)) then
      (some (shR .u64 (IntKind.u64.wrap (IntKind.i64.wrap (i1 + j))) (1 : Int))).bind fun z =>
      (idx x (IntKind.i64.wrap z)).bind fun x2 =>
      (cmp x2 target).bind fun r1 =>
      if (decide (r1 < (0 : Int))) then
        slices_BinarySearchFunc_api_Range_api_Range_int.k2 (IntKind.i64.wrap ((IntKind.i64.wrap z) + (1 : Int))) j
      else
        slices_BinarySearchFunc_api_Range_api_Range_int.k2 i1 (IntKind.i64.wrap z)
    else
      (slices_BinarySearchFunc_api_Range_api_Range_int.k1 x target cmp i1).map Step.done
def slices_BinarySearchFunc_api_Range_api_Range_int (x : List TRange) (target : Int) (cmp : TRange → Int → Option Int) : Option ((Int × Bool)) :=
  Loop (slices_BinarySearchFunc_api_Range_api_Range_int.b1 x target cmp) ((0 : Int), (x.length : Int))
def ranges_Has (a_ : List TRange) (r : Int) : Option Bool :=
  (slices_BinarySearchFunc_api_Range_api_Range_int a_ r (ranges_Has_1)).bind fun r1 =>
  some r1.2
def scansionlaw02_set (l : List TRange) : Option ((List TRange × Bool)) :=
  if (decide ((l.length : Int) > (40 : Int))) then
    some (([] : List TRange), false)
  else
    (scansionref02_Make l).bind fun r =>
    some (r.1, (r.2 == (0 : Int)))
def ranges_Count.k1 (n : Int) : Option Int :=
  some n
def ranges_Count.b1 (a_ : List TRange) : (Int × Int) → Option (Step ((Int × Int)) Int)
  | (n1, v) =>
    if (decide (v < (a_.length : Int))) then
      (idx a_ v).bind fun x =>
      some (Step.next ((IntKind.i64.wrap (n1 + (IntKind.i64.wrap ((IntKind.i64.wrap (x.High - x.Low)) + (1 : Int))))), (IntKind.i64.wrap (v + (1 : Int)))))
    else
      (ranges_Count.k1 n1).map Step.done
def ranges_Count (a_ : List TRange) : Option Int :=
  Loop (ranges_Count.b1 a_) ((0 : Int), (0 : Int))
def ranges_Nth.k1 : Option ((Int × Int)) :=
  some ((0 : Int), (4 : Int))
def ranges_Nth.b1 (a_ : List TRange) : (Int × Int) → Option (Step ((Int × Int)) ((Int × Int)))
  | (n1, v) =>
    if (decide (v < (a_.length : Int))) then
      (idx a_ v).bind fun x =>
      if (decide (n1 < (IntKind.i64.wrap ((IntKind.i64.wrap (x.High - x.Low)) + (1 : Int))))) then
        some (Step.done ((IntKind.i64.wrap (x.Low + n1)), (0 : Int)))
      else
        some (Step.next ((IntKind.i64.wrap (n1 - (IntKind.i64.wrap ((IntKind.i64.wrap (x.High - x.Low)) + (1 : Int))))), (IntKind.i64.wrap (v + (1 : Int)))))
    else
      (ranges_Nth.k1).map Step.done
def ranges_Nth (a_ : List TRange) (n : Int) : Option ((Int × Int)) :=
  if (decide (n < (0 : Int))) then
    some ((0 : Int), (4 : Int))
  else
    Loop (ranges_Nth.b1 a_) (n, (0 : Int))
def scansionlaw02_awake : Option Bool :=
  (ranges_Make ([(TRange.mk (5 : Int) (7 : Int)), (TRange.mk (1 : Int) (4 : Int))])).bind fun r =>
  (if (r.2 == (0 : Int)) then
      if ((r.1.length : Int) == (1 : Int)) then
        (r.1[0]?).bind fun x =>
        some (x.Low == (TRange.mk (1 : Int) (7 : Int)).Low && (x.High == (TRange.mk (1 : Int) (7 : Int)).High && true))
      else
        some false
    else
      some false).bind fun v =>
  some v
def scansionlaw02_RangesSteps.k1 (r1 : (List TRange × Bool)) (n : Int) : Option Bool :=
  (ranges_Count r1.1).bind fun r2 =>
  some (n == r2)
def scansionlaw02_RangesSteps.b1 (r1 : (List TRange × Bool)) : (Int × Int) → Option (Step ((Int × Int)) Bool)
  | (n1, i) =>
    if (decide (i < (r1.1.length : Int))) then
      (idx r1.1 i).bind fun x =>
      (ranges_Has r1.1 (IntKind.i64.wrap (x.Low - (1 : Int)))).bind fun r3 =>
      (ranges_Has r1.1 (IntKind.i64.wrap (x.High + (1 : Int)))).bind fun r4 =>
      (ranges_Nth r1.1 n1).bind fun r5 =>
      if (r3 || (r4 || ((r5.2 != (0 : Int)) || (r5.1 != x.Low)))) then
        some (Step.done false)
      else
        some (Step.next ((IntKind.i64.wrap ((IntKind.i64.wrap ((IntKind.i64.wrap (n1 + x.High)) - x.Low)) + (1 : Int))), (IntKind.i64.wrap (i + (1 : Int)))))
    else
      (scansionlaw02_RangesSteps.k1 r1 n1).map Step.done
def scansionlaw02_RangesSteps (l : List TRange) : Option Bool :=
  scansionlaw02_awake.bind fun r =>
  (scansionlaw02_set l).bind fun r1 =>
  if ((!r) || (!r1.2)) then
    some r
  else
    Loop (scansionlaw02_RangesSteps.b1 r1) ((0 : Int), (0 : Int))
end
end Go.Val

/- part HW39 -/
/- scansion/ranges.Has$1 runs as it is read off. -/
namespace Go.Val
set_option linter.unusedVariables false
set_option linter.unusedSimpArgs false
set_option maxRecDepth 20000
open Go.Proofs
theorem ranges_Has_1_runs (x : TRange) (r : Int) {h : Heap} {a : Int} (e : ranges_Has_1 x r = some a) :
    Runs CT 39 [.cv (.val (.agg [.int .i64 x.Low, .int .i64 x.High])), .cv (.val (.int .i64 r))] h fun o h' => o = [.cv (.val (.int .i64 a))] ∧ h' = h := by
  refine Runs.start Try.f39 _ Try.func39 rfl (by rw [Try.ntmps39]; simp) (by rfl) (by rfl) (fun hwf hu => ?_)
  obtain ⟨D, hD, hr⟩ : ∃ D : Int → Prop, (∀ z, D z → z = a) ∧ Holds (ranges_Has_1 x r) D := ⟨fun z => z = a, fun _ h => h, Holds.intro e rfl⟩
  dsimp only [ranges_Has_1] at hr
  change wpCode _ _ _ _ _ ⟨[(0, .cv (.val (.agg [.int .i64 x.Low, .int .i64 x.High]))), (1, .cv (.val (.int .i64 r)))], h.on []⟩
  refine w_seq ?_
  refine A_region ?_
  refine w_n ?_
  refine w_seq ?_
  refine w_block ?_
  refine w_seq ?_
  refine A_region ?_
  refine w_n ?_
  refine A_condH hr (fun cF1 hr => ?_) (fun cF1 hr => ?_)
  · refine w_seq ?_
    refine A_region ?_
    refine w_n ?_
    refine w_ret ?_
    obtain rfl := hD _ hr
    exact (w_br (w_tr (A_endR (A_cut (os' := []) (sl := [(4, .cv (.val (.int .i64 (-1 : Int))))]) hwf) ⟨rfl, on_nil hwf⟩)))
  · refine w_seq ?_
    refine A_region ?_
    refine w_n ?_
    refine A_condH hr (fun cF2 hr => ?_) (fun cF2 hr => ?_)
    · refine w_seq ?_
      refine A_region ?_
      refine w_n ?_
      refine w_ret ?_
      obtain rfl := hD _ hr
      exact (w_br (w_tr (A_endR (A_cut (os' := []) (sl := [(4, .cv (.val (.int .i64 (1 : Int))))]) hwf) ⟨rfl, on_nil hwf⟩)))
    · refine w_skip ?_
      refine (w_bn (w_n ?_))
      refine w_seq ?_
      refine A_region ?_
      refine w_n ?_
      refine w_ret ?_
      obtain rfl := hD _ hr
      exact (A_endR (A_cut (os' := []) (sl := [(4, .cv (.val (.int .i64 (0 : Int))))]) hwf) ⟨rfl, on_nil hwf⟩)
end Go.Val

/- part HW38 -/
/- slices.BinarySearchFunc[[]scansion/api.Range,scansion/api.Range,int] runs as it is read off. -/
namespace Go.Val
set_option linter.unusedVariables false
set_option linter.unusedSimpArgs false
set_option maxRecDepth 20000
open Go.Proofs
theorem slices_BinarySearchFunc_api_Range_api_Range_int_runs (x : List TRange) (target : Int) (cmp : TRange → Int → Option Int) (fid_cmp : FuncId) (caps_cmp : List DVal) {h : Heap} (h_cmp : ∀ os x0 x1 r, cmp x0 x1 = some r → Runs CT fid_cmp ([.cv (.val (.agg [.int .i64 x0.Low, .int .i64 x0.High])), .cv (.val (.int .i64 x1))] ++ sval caps_cmp) (h.on os) fun o h' => o = [.cv (.val (.int .i64 r))] ∧ h' = h.on os) (d_cmp : ∀ i, CT.how fid_cmp i = .data) {a : (Int × Bool)} (e : slices_BinarySearchFunc_api_Range_api_Range_int x target cmp = some a) :
    Runs CT 38 [.cv (.val (.sl (List.map eRange x))), .cv (.val (.int .i64 target)), .cv (.val (.fn fid_cmp [] caps_cmp))] h fun o h' => o = [.cv (.val (.int .i64 a.1)), .cv (.val (.bool a.2))] ∧ h' = h := by
  refine Runs.start Try.f38 _ Try.func38 rfl (by rw [Try.ntmps38]; simp) (by rfl) (by rfl) (fun hwf hu => ?_)
  have u_cmp : underL h.n caps_cmp := (hu (.cv (.val (.fn fid_cmp [] caps_cmp))) (by simp)).2
  have vu_cmp := fun k => under_add (k := k) u_cmp
  obtain ⟨D, hD, hr⟩ : ∃ D : (Int × Bool) → Prop, (∀ z, D z → z = a) ∧ Holds (slices_BinarySearchFunc_api_Range_api_Range_int x target cmp) D := ⟨fun z => z = a, fun _ h => h, Holds.intro e rfl⟩
  dsimp only [slices_BinarySearchFunc_api_Range_api_Range_int] at hr
  change wpCode _ _ _ _ _ ⟨[(0, .cv (.val (.sl (List.map eRange x)))), (1, .cv (.val (.int .i64 target))), (2, .cv (.val (.fn fid_cmp [] caps_cmp)))], h.on []⟩
  refine w_seq ?_
  refine A_region ?_
  refine w_n ?_
  refine w_seq ?_
  refine A_region ?_
  refine w_n ?_
  refine w_seq ?_
  refine A_region ?_
  refine w_n ?_
  refine w_seq ?_
  refine w_K (D := D) (fun xX : Int => ⟨[(0, .cv (.val (.sl (List.map eRange x)))), (1, .cv (.val (.int .i64 target))), (2, .cv (.val (.fn fid_cmp [] caps_cmp))), (8, .cv (.val (.int .i64 (x.length : Int)))), (9, .cv (.val (.int .i64 xX)))], h.on []⟩) (fun xX : Int => slices_BinarySearchFunc_api_Range_api_Range_int.k1 x target cmp xX) (fun xX s' hr ht => ?_) ?_
  · obtain ⟨i, rfl⟩ : ∃ z, z = xX := ⟨xX, rfl⟩
    dsimp only [slices_BinarySearchFunc_api_Range_api_Range_int.k1] at hr ht
    refine (w_nT ht ?_)
    obtain ⟨v, vF6, hr⟩ := hr.bind
    refine w_joinR (sj := ⟨[(6, .cv (.val (.int .i64 i))), (7, .cv (.val (.bool v)))], h.on []⟩) (A_ops ?_) ?_
    · have hr := Holds.intro (D := fun z => z = v) vF6 rfl
      refine A_upto 5 ?_
      rcases hr.ite with ⟨cF1, hr⟩ | ⟨cF1, hr⟩
      · obtain ⟨x1, nF2, eF3, gF4, hr⟩ := hr.idx
        refine A_upto 6 ?_
        obtain ⟨r, eF5, hr⟩ := hr.bind
        refine w_call' (out := ?o_eF5) (hp := ?p_eF5) (by simp (disch := (apply Apart.mk; decide)) only [go_sem, Nat.reduceAdd, Nat.reduceLT, Nat.reduceMul, Nat.reduceLeDiff, Int.reduceToNat, Int.reduceLT, Int.reduceLE, under_add u_cmp, d_cmp, cF1, nF2, eF3, gF4]) (by simp (disch := (apply Apart.mk; decide)) only [go_sem, Nat.reduceAdd, Nat.reduceLT, Nat.reduceMul, Nat.reduceLeDiff, Int.reduceToNat, Int.reduceLT, Int.reduceLE, under_add u_cmp, d_cmp, cF1, nF2, eF3, gF4]; rfl) (by simp (disch := (apply Apart.mk; decide)) only [go_sem, Nat.reduceAdd, Nat.reduceLT, Nat.reduceMul, Nat.reduceLeDiff, Int.reduceToNat, Int.reduceLT, Int.reduceLE, under_add u_cmp, d_cmp, cF1, nF2, eF3, gF4]; rfl) (by simp (disch := (apply Apart.mk; decide)) only [go_sem, Nat.reduceAdd, Nat.reduceLT, Nat.reduceMul, Nat.reduceLeDiff, Int.reduceToNat, Int.reduceLT, Int.reduceLE, under_add u_cmp, d_cmp, cF1, nF2, eF3, gF4]; rfl) ?c_eF5 ?d_eF5 ?_
        case c_eF5 => exact h_cmp _ _ _ _ eF5
        case d_eF5 => rfl
        refine A_ops_end ?_
        obtain rfl : _ = v := hr
        exact w_k (A_cut hwf)
      · refine A_upto 6 ?_
        refine A_off ?_
        refine A_ops_end ?_
        obtain rfl : _ = v := hr
        exact w_k (A_cut hwf)
    refine w_ret ?_
    obtain rfl := hD _ hr
    exact (A_endR (A_cut (os' := []) (sl := [(6, .cv (.val (.int .i64 i))), (7, .cv (.val (.bool v)))]) hwf) ⟨rfl, on_nil hwf⟩)
  · refine w_block ?_
    refine w_Loop (fun xX : (Int × Int) => ⟨[(0, .cv (.val (.sl (List.map eRange x)))), (1, .cv (.val (.int .i64 target))), (2, .cv (.val (.fn fid_cmp [] caps_cmp))), (8, .cv (.val (.int .i64 (x.length : Int)))), (9, .cv (.val (.int .i64 xX.1))), (10, .cv (.val (.int .i64 xX.2)))], h.on []⟩) hr (A_cut hwf) (fun W1 xX hr => ?_)
    obtain ⟨i1, j⟩ := xX
    dsimp only [slices_BinarySearchFunc_api_Range_api_Range_int.b1] at hr
    refine w_seq ?_
    refine w_seq ?_
    refine A_region ?_
    refine w_n ?_
    refine A_condH hr (fun cF7 hr => ?_) (fun cF7 hr => ?_)
    · refine w_skip ?_
      refine w_n ?_
      refine w_K (D := (Aft W1 D)) (fun xX : (Int × Int) => ⟨[(0, .cv (.val (.sl (List.map eRange x)))), (1, .cv (.val (.int .i64 target))), (2, .cv (.val (.fn fid_cmp [] caps_cmp))), (8, .cv (.val (.int .i64 (x.length : Int)))), (9, .cv (.val (.int .i64 xX.1))), (10, .cv (.val (.int .i64 xX.2)))], h.on []⟩) (fun xX : (Int × Int) => slices_BinarySearchFunc_api_Range_api_Range_int.k2 xX.1 xX.2) (fun xX s' hr ht => ?_) ?_
      · obtain ⟨i2, j1⟩ := xX
        dsimp only [slices_BinarySearchFunc_api_Range_api_Range_int.k2] at hr ht
        exact (w_k ⟨(i2, j1), hr, (To.trans ht (A_cut hwf))⟩)
      · refine w_block ?_
        refine w_seq ?_
        (obtain ⟨z, eF8, hr⟩ := hr.bind; replace eF8 := Option.some.inj eF8; simp only [shL, shR, bAnd, bOr, bXor, bNot, IntKind.bits, Int.reduceToNat] at eF8)
        refine w_region rfl (by simp (disch := (apply Apart.mk; decide)) only [go_sem, Nat.reduceAdd, Nat.reduceLT, Nat.reduceMul, Nat.reduceLeDiff, Int.reduceToNat, Int.reduceLT, Int.reduceLE, under_add u_cmp, d_cmp, (eq_false (by decide : ¬ ((1 : Int) < 0))), eF8, cF7]; rfl) ?_
        refine w_n ?_
        refine w_seq ?_
        refine A_ops ?_
        obtain ⟨x2, nF9, eF10, gF11, hr⟩ := hr.idx
        refine A_upto 6 ?_
        obtain ⟨r1, eF12, hr⟩ := hr.bind
        refine A_call (out := ?o_eF12) (hp := ?p_eF12) ?c_eF12 ?d_eF12 ?_
        case c_eF12 => exact h_cmp _ _ _ _ eF12
        case d_eF12 => rfl
        refine A_ops_end ?_
        refine w_n ?_
        refine A_condH hr (fun cF13 hr => ?_) (fun cF13 hr => ?_)
        · refine A_region ?_
          exact (w_bn (w_k ⟨((IntKind.i64.wrap ((IntKind.i64.wrap z) + (1 : Int))), j), hr, (A_cut hwf)⟩))
        · refine A_region ?_
          exact (w_bn (w_k ⟨(i1, (IntKind.i64.wrap z)), hr, (A_cut hwf)⟩))
    · refine w_exit ?_
      exact (w_te (w_te (w_bx (w_k ⟨i1, (hr).map, (A_cut hwf)⟩))))
end Go.Val

/- part HW15 -/
/- scansion/ranges.Has runs as it is read off. -/
namespace Go.Val
set_option linter.unusedVariables false
set_option linter.unusedSimpArgs false
set_option maxRecDepth 20000
open Go.Proofs
theorem ranges_Has_runs (a_ : List TRange) (r : Int) {h : Heap} {a : Bool} (e : ranges_Has a_ r = some a) :
    Runs CT 15 [.cv (.val (.sl (List.map eRange a_))), .cv (.val (.int .i64 r))] h fun o h' => o = [.cv (.val (.bool a))] ∧ h' = h := by
  refine Runs.start Try.f15 _ Try.func15 rfl (by rw [Try.ntmps15]; simp) (by rfl) (by rfl) (fun hwf hu => ?_)
  obtain ⟨D, hD, hr⟩ : ∃ D : Bool → Prop, (∀ z, D z → z = a) ∧ Holds (ranges_Has a_ r) D := ⟨fun z => z = a, fun _ h => h, Holds.intro e rfl⟩
  dsimp only [ranges_Has] at hr
  change wpCode _ _ _ _ _ ⟨[(0, .cv (.val (.sl (List.map eRange a_)))), (1, .cv (.val (.int .i64 r)))], h.on []⟩
  refine w_seq ?_
  refine A_region ?_
  refine w_n ?_
  refine w_seq ?_
  refine A_ops ?_
  refine A_upto 2 ?_
  obtain ⟨r1, eF1, hr⟩ := hr.bind
  refine A_call (out := ?o_eF1) (hp := ?p_eF1) ?c_eF1 ?d_eF1 ?_
  case c_eF1 => (refine slices_BinarySearchFunc_api_Range_api_Range_int_runs a_ r (ranges_Has_1) _ _ ?_ ?_ eF1; (exact (fun os x0 x1 r e => ranges_Has_1_runs x0 x1 e)); (exact (fun i => by simp [CT])))
  case d_eF1 => rfl
  refine A_ops_end ?_
  refine w_n ?_
  refine w_seq ?_
  refine A_region ?_
  refine w_n ?_
  refine w_ret ?_
  obtain rfl := hD _ hr
  exact (A_endR (A_cut (os' := []) (sl := [(4, .cv (.val (.bool r1.2)))]) hwf) ⟨rfl, on_nil hwf⟩)
end Go.Val

/- part HW62 -/
/- scansion/scansionref02.rising runs as it is read off. -/
namespace Go.Val
set_option linter.unusedVariables false
set_option linter.unusedSimpArgs false
set_option maxRecDepth 20000
open Go.Proofs
theorem scansionref02_rising_runs (l : List Int) (n : Int) {h : Heap} {a : List Int} (e : scansionref02_rising l n = some a) :
    Runs CT 62 [.cv (.val (.sl (List.map eI l))), .cv (.val (.int .i64 n))] h fun o h' => o = [.cv (.val (.sl (List.map eI a)))] ∧ h' = h := by
  refine Runs.start Try.f62 _ Try.func62 rfl (by rw [Try.ntmps62]; simp) (by rfl) (by rfl) (fun hwf hu => ?_)
  obtain ⟨D, hD, hr⟩ : ∃ D : List Int → Prop, (∀ z, D z → z = a) ∧ Holds (scansionref02_rising l n) D := ⟨fun z => z = a, fun _ h => h, Holds.intro e rfl⟩
  dsimp only [scansionref02_rising] at hr
  change wpCode _ _ _ _ _ ⟨[(0, .cv (.val (.sl (List.map eI l)))), (1, .cv (.val (.int .i64 n)))], h.on []⟩
  refine w_seq ?_
  refine A_region ?_
  refine w_n ?_
  refine w_seq ?_
  refine A_region ?_
  refine w_n ?_
  refine w_seq ?_
  refine w_K (D := D) (fun xX : Int => ⟨[(0, .cv (.val (.sl (List.map eI l)))), (1, .cv (.val (.int .i64 n))), (5, .cv (.val (.int .i64 xX)))], h.on []⟩) (fun xX : Int => scansionref02_rising.k1 l n xX) (fun xX s' hr ht => ?_) ?_
  · obtain ⟨at_, rfl⟩ : ∃ z, z = xX := ⟨xX, rfl⟩
    dsimp only [scansionref02_rising.k1] at hr ht
    refine (w_nT ht ?_)
    refine w_seq ?_
    obtain ⟨v, vF5, hr⟩ := hr.bind
    refine w_joinR (sj := ⟨[(0, .cv (.val (.sl (List.map eI l)))), (1, .cv (.val (.int .i64 n))), (5, .cv (.val (.int .i64 at_))), (32, .cv (.val (.bool v)))], h.on []⟩) (A_ops ?_) ?_
    · have hr := Holds.intro (D := fun z => z = v) vF5 rfl
      refine A_upto 5 ?_
      rcases hr.ite with ⟨cF1, hr⟩ | ⟨cF1, hr⟩
      · obtain ⟨n1, nF2, eF3, gF4, hr⟩ := hr.idx
        refine A_ops_end ?_
        obtain rfl : _ = v := hr
        exact w_k (A_cut hwf)
      · refine A_ops_end ?_
        obtain rfl : _ = v := hr
        exact w_k (A_cut hwf)
    refine A_condH hr (fun cF6 hr => ?_) (fun cF6 hr => ?_)
    · refine w_seq ?_
      refine A_region ?_
      refine w_n ?_
      refine w_ret ?_
      obtain rfl := hD _ hr
      exact (w_tr (A_endR (A_cut (os' := []) (sl := [(4, .cv (.val (.sl (List.map eI l))))]) hwf) ⟨rfl, on_nil hwf⟩))
    · refine w_skip ?_
      refine w_n ?_
      refine w_seq ?_
      obtain ⟨nF7, nF8, hr⟩ := hr.cutH
      obtain ⟨nF9, hr⟩ := hr.room
      refine A_region ?_
      refine w_n ?_
      refine w_seq ?_
      obtain ⟨nF10, hr⟩ := hr.room
      refine A_region ?_
      refine w_n ?_
      refine w_seq ?_
      obtain ⟨nF11, nF12, hr⟩ := hr.cutL
      obtain ⟨nF13, hr⟩ := hr.room
      refine A_region ?_
      refine w_n ?_
      refine w_ret ?_
      obtain rfl := hD _ hr
      exact (A_endR (.fix _ _ (.slot 4) 3 _ (by simp (disch := (apply Apart.mk; decide)) only [go_sem, Nat.reduceAdd, Nat.reduceLT, Nat.reduceMul, Nat.reduceLeDiff, Int.reduceToNat, Int.reduceLT, Int.reduceLE, cF6]; rfl) (A_cut (os' := []) (sl := [(4, .cv (.val (.sl (List.map eI (((List.take (Int.toNat at_) l) ++ ([n])) ++ (List.drop (Int.toNat at_) l))))))]) hwf)) ⟨rfl, on_nil hwf⟩)
  · refine w_block ?_
    refine w_Loop (fun xX : Int => ⟨[(0, .cv (.val (.sl (List.map eI l)))), (1, .cv (.val (.int .i64 n))), (5, .cv (.val (.int .i64 xX)))], h.on []⟩) hr (A_cut hwf) (fun W1 xX hr => ?_)
    obtain ⟨at_1, rfl⟩ : ∃ z, z = xX := ⟨xX, rfl⟩
    dsimp only [scansionref02_rising.b1] at hr
    refine w_seq ?_
    obtain ⟨v1, vF18, hr⟩ := hr.bind
    refine w_joinR (sj := ⟨[(0, .cv (.val (.sl (List.map eI l)))), (1, .cv (.val (.int .i64 n))), (5, .cv (.val (.int .i64 at_1))), (18, .cv (.val (.bool v1)))], h.on []⟩) (A_ops ?_) ?_
    · have hr := Holds.intro (D := fun z => z = v1) vF18 rfl
      refine A_upto 5 ?_
      rcases hr.ite with ⟨cF14, hr⟩ | ⟨cF14, hr⟩
      · obtain ⟨n2, nF15, eF16, gF17, hr⟩ := hr.idx
        refine A_ops_end ?_
        obtain rfl : _ = v1 := hr
        exact w_k (A_cut hwf)
      · refine A_ops_end ?_
        obtain rfl : _ = v1 := hr
        exact w_k (A_cut hwf)
    refine A_condH hr (fun cF19 hr => ?_) (fun cF19 hr => ?_)
    · refine w_skip ?_
      refine w_n ?_
      refine w_block ?_
      refine A_region ?_
      exact (w_bn (w_k ⟨(IntKind.i64.wrap (at_1 + (1 : Int))), hr, (A_cut hwf)⟩))
    · refine w_exit ?_
      exact (w_te (w_te (w_bx (w_k ⟨at_1, (hr).map, (A_cut hwf)⟩))))
end Go.Val

/- part HW49 -/
/- scansion/scansionref02.edges runs as it is read off. -/
namespace Go.Val
set_option linter.unusedVariables false
set_option linter.unusedSimpArgs false
set_option maxRecDepth 20000
open Go.Proofs
theorem scansionref02_edges_runs (a_ : List TRange) (b : List TRange) {h : Heap} {a : List Int} (e : scansionref02_edges a_ b = some a) :
    Runs CT 49 [.cv (.val (.sl (List.map eRange a_))), .cv (.val (.sl (List.map eRange b)))] h fun o h' => o = [.cv (.val (.sl (List.map eI a)))] ∧ h' = h := by
  refine Runs.start Try.f49 _ Try.func49 rfl (by rw [Try.ntmps49]; simp) (by rfl) (by rfl) (fun hwf hu => ?_)
  obtain ⟨D, hD, hr⟩ : ∃ D : List Int → Prop, (∀ z, D z → z = a) ∧ Holds (scansionref02_edges a_ b) D := ⟨fun z => z = a, fun _ h => h, Holds.intro e rfl⟩
  dsimp only [scansionref02_edges] at hr
  change wpCode _ _ _ _ _ ⟨[(0, .cv (.val (.sl (List.map eRange a_)))), (1, .cv (.val (.sl (List.map eRange b))))], h.on []⟩
  refine w_seq ?_
  refine A_region ?_
  refine w_n ?_
  refine w_seq ?_
  refine A_region ?_
  refine w_n ?_
  refine w_seq ?_
  obtain ⟨nF1, hr⟩ := hr.room
  obtain ⟨nF2, hr⟩ := hr.room
  refine A_region ?_
  refine w_n ?_
  refine w_seq ?_
  refine w_seq ?_
  refine A_region ?_
  refine w_n ?_
  refine w_K (D := D) (fun xX : List Int => ⟨[(5, .cv (.val (.sl (List.map eI xX))))], h.on []⟩) (fun xX : List Int => scansionref02_edges.k1 xX) (fun xX s' hr ht => ?_) ?_
  · obtain ⟨out, rfl⟩ : ∃ z, z = xX := ⟨xX, rfl⟩
    dsimp only [scansionref02_edges.k1] at hr ht
    refine (w_nT ht ?_)
    refine w_seq ?_
    refine A_region ?_
    refine w_n ?_
    refine w_ret ?_
    obtain rfl := hD _ hr
    exact (A_endR (A_cut (os' := []) (sl := [(4, .cv (.val (.sl (List.map eI out))))]) hwf) ⟨rfl, on_nil hwf⟩)
  · refine w_block ?_
    refine w_Loop (fun xX : (List Int × Int) => ⟨[(5, .cv (.val (.sl (List.map eI xX.1)))), (6, .cv (.row 30 (List.map eRange (a_ ++ b)))), (7, .cv (.val (.int .i64 xX.2)))], h.on []⟩) hr (.fix _ _ (.slot 5) 3 _ (by simp (disch := (apply Apart.mk; decide)) only [go_sem, Nat.reduceAdd, Nat.reduceLT, Nat.reduceMul, Nat.reduceLeDiff, Int.reduceToNat, Int.reduceLT, Int.reduceLE]; rfl) (A_cut hwf)) (fun W1 xX hr => ?_)
    obtain ⟨out1, i⟩ := xX
    dsimp only [scansionref02_edges.b1] at hr
    refine w_seq ?_
    refine w_seq ?_
    refine A_region ?_
    refine w_n ?_
    refine A_condH hr (fun cF3 hr => ?_) (fun cF3 hr => ?_)
    · refine w_skip ?_
      refine w_n ?_
      refine w_seq ?_
      refine w_K (D := (Aft W1 D)) (fun xX : List Int => ⟨[(5, .cv (.val (.sl (List.map eI xX)))), (6, .cv (.row 30 (List.map eRange (a_ ++ b)))), (7, .cv (.val (.int .i64 i)))], h.on []⟩) (fun xX : List Int => scansionref02_edges.k2 i xX) (fun xX s' hr ht => ?_) ?_
      · obtain ⟨out2, rfl⟩ : ∃ z, z = xX := ⟨xX, rfl⟩
        dsimp only [scansionref02_edges.k2] at hr ht
        refine (w_nT ht ?_)
        refine A_region ?_
        exact (w_k ⟨(out2, (IntKind.i64.wrap (i + (1 : Int)))), hr, (A_cut hwf)⟩)
      · refine w_block ?_
        refine w_seq ?_
        refine A_ops ?_
        (obtain ⟨x, nF4, eF5, gF6, hr⟩ := hr.idx; replace eF5 := congrArg (Option.map eRange) eF5; rw [← List.getElem?_map, List.map_append] at eF5; simp only [Option.map_some, List.map_append, List.length_append, eRange] at nF4 eF5 gF6)
        refine A_upto 6 ?_
        obtain ⟨r, eF7, hr⟩ := hr.bind
        refine A_call (out := ?o_eF7) (hp := ?p_eF7) ?c_eF7 ?d_eF7 ?_
        case c_eF7 => exact scansionref02_rising_runs out1 x.Low eF7
        case d_eF7 => rfl
        refine A_ops_end ?_
        refine w_n ?_
        refine w_seq ?_
        refine A_region ?_
        refine w_n ?_
        refine A_condH hr (fun cF8 hr => ?_) (fun cF8 hr => ?_)
        · refine A_ops ?_
          refine A_upto 7 ?_
          obtain ⟨r1, eF9, hr⟩ := hr.bind
          refine A_call (out := ?o_eF9) (hp := ?p_eF9) ?c_eF9 ?d_eF9 ?_
          case c_eF9 => exact scansionref02_rising_runs r (IntKind.i64.wrap (x.High + (1 : Int))) eF9
          case d_eF9 => rfl
          refine A_ops_end ?_
          exact (w_bn (w_k ⟨r1, hr, (A_cut hwf)⟩))
        · refine w_skip ?_
          exact (w_bn (w_k ⟨r, hr, (A_cut hwf)⟩))
    · refine w_exit ?_
      exact (w_te (w_te (w_bx (w_k ⟨out1, (hr).map, (A_cut hwf)⟩))))
end Go.Val

/- part HW50 -/
/- scansion/scansionref02.with runs as it is read off. -/
namespace Go.Val
set_option linter.unusedVariables false
set_option linter.unusedSimpArgs false
set_option maxRecDepth 20000
open Go.Proofs
theorem scansionref02_with_runs (l : List TRange) (low : Int) (high : Int) {h : Heap} {a : List TRange} (e : scansionref02_with l low high = some a) :
    Runs CT 50 [.cv (.row 30 (List.map eRange l)), .cv (.val (.int .i64 low)), .cv (.val (.int .i64 high))] h fun o h' => o = [.cv (.row 30 (List.map eRange a))] ∧ h' = h := by
  refine Runs.start Try.f50 _ Try.func50 rfl (by rw [Try.ntmps50]; simp) (by rfl) (by rfl) (fun hwf hu => ?_)
  obtain ⟨D, hD, hr⟩ : ∃ D : List TRange → Prop, (∀ z, D z → z = a) ∧ Holds (scansionref02_with l low high) D := ⟨fun z => z = a, fun _ h => h, Holds.intro e rfl⟩
  dsimp only [scansionref02_with] at hr
  change wpCode _ _ _ _ _ ⟨[(0, .cv (.row 30 (List.map eRange l))), (1, .cv (.val (.int .i64 low))), (2, .cv (.val (.int .i64 high)))], h.on []⟩
  refine w_seq ?_
  refine A_region ?_
  refine w_n ?_
  refine w_seq ?_
  refine A_region ?_
  refine w_n ?_
  refine w_seq ?_
  obtain ⟨v, vF5, hr⟩ := hr.bind
  refine w_joinR (sj := ⟨[(0, .cv (.row 30 (List.map eRange l))), (1, .cv (.val (.int .i64 low))), (2, .cv (.val (.int .i64 high))), (7, .cv (.val (.int .i64 (l.length : Int)))), (22, .cv (.val (.bool v)))], h.on []⟩) (A_ops ?_) ?_
  · have hr := Holds.intro (D := fun z => z = v) vF5 rfl
    refine A_upto 3 ?_
    rcases hr.ite with ⟨cF1, hr⟩ | ⟨cF1, hr⟩
    · obtain ⟨x, nF2, eF3, gF4, hr⟩ := hr.idx
      refine A_ops_end ?_
      obtain rfl : _ = v := hr
      exact w_k (A_cut hwf)
    · refine A_ops_end ?_
      obtain rfl : _ = v := hr
      exact w_k (A_cut hwf)
  refine A_condH hr (fun cF6 hr => ?_) (fun cF6 hr => ?_)
  · refine w_seq ?_
    obtain ⟨x1, nF7, eF8, gF9, hr⟩ := hr.idx
    refine A_region ?_
    refine w_n ?_
    refine w_seq ?_
    refine A_region ?_
    refine w_n ?_
    refine w_ret ?_
    obtain rfl := hD _ hr
    exact (w_tr (A_endR (A_cut (os' := []) (sl := [(6, .cv (.row 30 (List.map eRange (List.set l (Int.toNat (IntKind.i64.wrap ((l.length : Int) - (1 : Int)))) (TRange.mk x1.Low high)))))]) hwf) ⟨rfl, on_nil hwf⟩))
  · refine w_skip ?_
    refine w_n ?_
    refine w_seq ?_
    obtain ⟨nF10, hr⟩ := hr.room
    refine A_region ?_
    refine w_n ?_
    refine w_ret ?_
    obtain rfl := hD _ hr
    exact (A_endR (A_cut (os' := []) (sl := [(6, .cv (.row 30 (List.map eRange (l ++ ([(TRange.mk low high)])))))]) hwf) ⟨rfl, on_nil hwf⟩)
end Go.Val

/- part HW28 -/
/- scansion/scansionref02.Has runs as it is read off. -/
namespace Go.Val
set_option linter.unusedVariables false
set_option linter.unusedSimpArgs false
set_option maxRecDepth 20000
open Go.Proofs
theorem scansionref02_Has_runs (a_ : List TRange) (r : Int) {h : Heap} {a : Bool} (e : scansionref02_Has a_ r = some a) :
    Runs CT 28 [.cv (.val (.sl (List.map eRange a_))), .cv (.val (.int .i64 r))] h fun o h' => o = [.cv (.val (.bool a))] ∧ h' = h := by
  refine Runs.start Try.f28 _ Try.func28 rfl (by rw [Try.ntmps28]; simp) (by rfl) (by rfl) (fun hwf hu => ?_)
  obtain ⟨D, hD, hr⟩ : ∃ D : Bool → Prop, (∀ z, D z → z = a) ∧ Holds (scansionref02_Has a_ r) D := ⟨fun z => z = a, fun _ h => h, Holds.intro e rfl⟩
  dsimp only [scansionref02_Has] at hr
  change wpCode _ _ _ _ _ ⟨[(0, .cv (.val (.sl (List.map eRange a_)))), (1, .cv (.val (.int .i64 r)))], h.on []⟩
  refine w_seq ?_
  refine A_region ?_
  refine w_n ?_
  refine w_seq ?_
  refine w_seq ?_
  refine A_region ?_
  refine w_n ?_
  refine w_K (D := D) (fun xX : Unit => ⟨[], h.on []⟩) (fun xX : Unit => scansionref02_Has.k1) (fun xX s' hr ht => ?_) ?_
  · dsimp only [scansionref02_Has.k1] at hr ht
    refine (w_nT ht ?_)
    refine w_seq ?_
    refine A_region ?_
    refine w_n ?_
    refine w_ret ?_
    obtain rfl := hD _ hr
    exact (A_endR (A_cut (os' := []) (sl := [(4, .cv (.val (.bool false)))]) hwf) ⟨rfl, on_nil hwf⟩)
  · refine w_block ?_
    refine w_Loop (fun xX : Int => ⟨[(0, .cv (.val (.sl (List.map eRange a_)))), (1, .cv (.val (.int .i64 r))), (5, .cv (.val (.int .i64 xX)))], h.on []⟩) hr (A_cut hwf) (fun W1 xX hr => ?_)
    obtain ⟨i, rfl⟩ : ∃ z, z = xX := ⟨xX, rfl⟩
    dsimp only [scansionref02_Has.b1] at hr
    refine w_seq ?_
    refine w_seq ?_
    refine A_region ?_
    refine w_n ?_
    refine A_condH hr (fun cF1 hr => ?_) (fun cF1 hr => ?_)
    · refine w_skip ?_
      refine w_n ?_
      refine w_seq ?_
      refine w_block ?_
      obtain ⟨v, vF6, hr⟩ := hr.bind
      refine w_joinR (sj := ⟨[(0, .cv (.val (.sl (List.map eRange a_)))), (1, .cv (.val (.int .i64 r))), (5, .cv (.val (.int .i64 i))), (27, .cv (.val (.bool v)))], h.on []⟩) (A_ops ?_) ?_
      · have hr := Holds.intro (D := fun z => z = v) vF6 rfl
        obtain ⟨x, nF2, eF3, gF4, hr⟩ := hr.idx
        refine A_upto 8 ?_
        rcases hr.ite with ⟨cF5, hr⟩ | ⟨cF5, hr⟩
        · refine A_ops_end ?_
          obtain rfl : _ = v := hr
          exact w_k (A_cut hwf)
        · refine A_ops_end ?_
          obtain rfl : _ = v := hr
          exact w_k (A_cut hwf)
      refine A_condH hr (fun cF7 hr => ?_) (fun cF7 hr => ?_)
      · refine w_seq ?_
        refine A_region ?_
        refine w_n ?_
        refine w_ret ?_
        obtain rfl := hD _ hr
        exact (w_br (w_tr (w_tr (w_br (w_tr (w_tr (A_endR (A_cut (os' := []) (sl := [(4, .cv (.val (.bool true)))]) hwf) ⟨rfl, on_nil hwf⟩)))))))
      · refine w_skip ?_
        refine (w_bn (w_n ?_))
        refine A_region ?_
        exact (w_k ⟨(IntKind.i64.wrap (i + (1 : Int))), hr, (A_cut hwf)⟩)
    · refine w_exit ?_
      exact (w_te (w_te (w_bx (w_k ⟨(), (hr).map, (A_cut hwf)⟩))))
end Go.Val

/- part HW37 -/
/- scansion/scansionref02.pick runs as it is read off. -/
namespace Go.Val
set_option linter.unusedVariables false
set_option linter.unusedSimpArgs false
set_option maxRecDepth 20000
open Go.Proofs
theorem scansionref02_pick_runs (a_ : List TRange) (b : List TRange) (kind : Int) {h : Heap} {a : List TRange} (e : scansionref02_pick a_ b kind = some a) :
    Runs CT 37 [.cv (.val (.sl (List.map eRange a_))), .cv (.val (.sl (List.map eRange b))), .cv (.val (.int .i64 kind))] h fun o h' => o = [.cv (.val (.sl (List.map eRange a)))] ∧ h' = h := by
  refine Runs.start Try.f37 _ Try.func37 rfl (by rw [Try.ntmps37]; simp) (by rfl) (by rfl) (fun hwf hu => ?_)
  obtain ⟨D, hD, hr⟩ : ∃ D : List TRange → Prop, (∀ z, D z → z = a) ∧ Holds (scansionref02_pick a_ b kind) D := ⟨fun z => z = a, fun _ h => h, Holds.intro e rfl⟩
  dsimp only [scansionref02_pick] at hr
  change wpCode _ _ _ _ _ ⟨[(0, .cv (.val (.sl (List.map eRange a_)))), (1, .cv (.val (.sl (List.map eRange b)))), (2, .cv (.val (.int .i64 kind)))], h.on []⟩
  refine w_seq ?_
  refine A_region ?_
  refine w_n ?_
  refine w_seq ?_
  refine A_ops ?_
  refine A_upto 2 ?_
  obtain ⟨r, eF1, hr⟩ := hr.bind
  refine A_call (out := ?o_eF1) (hp := ?p_eF1) ?c_eF1 ?d_eF1 ?_
  case c_eF1 => exact scansionref02_edges_runs a_ b eF1
  case d_eF1 => rfl
  refine A_ops_end ?_
  refine w_n ?_
  refine w_seq ?_
  refine A_region ?_
  refine w_n ?_
  refine w_seq ?_
  refine w_seq ?_
  refine A_region ?_
  refine w_n ?_
  refine w_K (D := D) (fun xX : List TRange => ⟨[(8, .cv (.row 30 (List.map eRange xX)))], h.on []⟩) (fun xX : List TRange => scansionref02_pick.k1 xX) (fun xX s' hr ht => ?_) ?_
  · obtain ⟨out, rfl⟩ : ∃ z, z = xX := ⟨xX, rfl⟩
    dsimp only [scansionref02_pick.k1] at hr ht
    refine (w_nT ht ?_)
    refine w_seq ?_
    refine A_region ?_
    refine w_n ?_
    refine w_ret ?_
    obtain rfl := hD _ hr
    exact (A_endR (.fix _ _ (.slot 6) 30 _ (by simp (disch := (apply Apart.mk; decide)) only [go_sem, Nat.reduceAdd, Nat.reduceLT, Nat.reduceMul, Nat.reduceLeDiff, Int.reduceToNat, Int.reduceLT, Int.reduceLE]; rfl) (A_cut (os' := []) (sl := [(6, .cv (.val (.sl (List.map eRange out))))]) hwf)) ⟨rfl, on_nil hwf⟩)
  · refine w_block ?_
    refine w_Loop (fun xX : (List TRange × Int) => ⟨[(0, .cv (.val (.sl (List.map eRange a_)))), (1, .cv (.val (.sl (List.map eRange b)))), (2, .cv (.val (.int .i64 kind))), (7, .cv (.val (.sl (List.map eI r)))), (8, .cv (.row 30 (List.map eRange xX.1))), (9, .cv (.val (.int .i64 xX.2)))], h.on []⟩) hr (A_cut hwf) (fun W1 xX hr => ?_)
    obtain ⟨out1, i⟩ := xX
    dsimp only [scansionref02_pick.b1] at hr
    refine w_seq ?_
    refine w_seq ?_
    refine A_region ?_
    refine w_n ?_
    refine A_condH hr (fun cF2 hr => ?_) (fun cF2 hr => ?_)
    · refine w_skip ?_
      refine w_n ?_
      refine w_seq ?_
      refine w_K (D := (Aft W1 D)) (fun xX : List TRange => ⟨[(0, .cv (.val (.sl (List.map eRange a_)))), (1, .cv (.val (.sl (List.map eRange b)))), (2, .cv (.val (.int .i64 kind))), (7, .cv (.val (.sl (List.map eI r)))), (8, .cv (.row 30 (List.map eRange xX))), (9, .cv (.val (.int .i64 i)))], h.on []⟩) (fun xX : List TRange => scansionref02_pick.k2 i xX) (fun xX s' hr ht => ?_) ?_
      · obtain ⟨out2, rfl⟩ : ∃ z, z = xX := ⟨xX, rfl⟩
        dsimp only [scansionref02_pick.k2] at hr ht
        refine (w_nT ht ?_)
        refine A_region ?_
        exact (w_k ⟨(out2, (IntKind.i64.wrap (i + (1 : Int)))), hr, (A_cut hwf)⟩)
      · refine w_block ?_
        refine w_seq ?_
        refine A_region ?_
        refine w_n ?_
        refine w_seq ?_
        refine w_seq ?_
        refine A_region ?_
        refine w_n ?_
        refine w_K (D := (Aft W1 D)) (fun xX : Int => ⟨[(0, .cv (.val (.sl (List.map eRange a_)))), (1, .cv (.val (.sl (List.map eRange b)))), (2, .cv (.val (.int .i64 kind))), (7, .cv (.val (.sl (List.map eI r)))), (8, .cv (.row 30 (List.map eRange out1))), (9, .cv (.val (.int .i64 i))), (10, .cv (.val (.int .i64 xX)))], h.on []⟩) (fun xX : Int => scansionref02_pick.k3 a_ b kind r out1 i xX) (fun xX s' hr ht => ?_) ?_
        · obtain ⟨high, rfl⟩ : ∃ z, z = xX := ⟨xX, rfl⟩
          dsimp only [scansionref02_pick.k3] at hr ht
          refine (w_nT ht ?_)
          refine w_seq ?_
          refine A_ops ?_
          obtain ⟨n, nF3, eF4, gF5, hr⟩ := hr.idx
          refine A_upto 5 ?_
          obtain ⟨r1, eF6, hr⟩ := hr.bind
          refine A_call (out := ?o_eF6) (hp := ?p_eF6) ?c_eF6 ?d_eF6 ?_
          case c_eF6 => exact scansionref02_Has_runs a_ n eF6
          case d_eF6 => rfl
          refine A_ops_end ?_
          refine w_n ?_
          refine w_seq ?_
          refine A_ops ?_
          refine A_upto 5 ?_
          obtain ⟨r2, eF7, hr⟩ := hr.bind
          refine A_call (out := ?o_eF7) (hp := ?p_eF7) ?c_eF7 ?d_eF7 ?_
          case c_eF7 => exact scansionref02_Has_runs b n eF7
          case d_eF7 => rfl
          refine A_ops_end ?_
          refine w_n ?_
          refine w_joinR (sj := ⟨[(0, .cv (.val (.sl (List.map eRange a_)))), (1, .cv (.val (.sl (List.map eRange b)))), (2, .cv (.val (.int .i64 kind))), (7, .cv (.val (.sl (List.map eI r)))), (8, .cv (.row 30 (List.map eRange out1))), (9, .cv (.val (.int .i64 i))), (10, .cv (.val (.int .i64 high))), (11, .cv (.val (.bool r1))), (12, .cv (.val (.bool r2))), (13, .cv (.val (.bool (r1 || r2))))], h.on []⟩) (A_ops ?_) ?_
          · refine A_upto 2 ?_
            rcases Bool.eq_false_or_eq_true r1 with cF8 | cF8
            · refine A_ops_end ?_
              exact w_k (A_cut hwf)
            · refine A_ops_end ?_
              exact w_k (A_cut hwf)
          refine w_seq ?_
          refine w_seq ?_
          refine A_region ?_
          refine w_n ?_
          refine w_K (D := (Aft W1 D)) (fun xX : Bool => ⟨[(0, .cv (.val (.sl (List.map eRange a_)))), (1, .cv (.val (.sl (List.map eRange b)))), (2, .cv (.val (.int .i64 kind))), (7, .cv (.val (.sl (List.map eI r)))), (8, .cv (.row 30 (List.map eRange out1))), (9, .cv (.val (.int .i64 i))), (10, .cv (.val (.int .i64 high))), (13, .cv (.val (.bool xX)))], h.on []⟩) (fun xX : Bool => scansionref02_pick.k4 out1 i high n xX) (fun xX s' hr ht => ?_) ?_
          · obtain ⟨is1, rfl⟩ : ∃ z, z = xX := ⟨xX, rfl⟩
            dsimp only [scansionref02_pick.k4] at hr ht
            refine (w_nT ht ?_)
            refine w_seq ?_
            refine A_region ?_
            refine w_n ?_
            refine A_condH hr (fun cF9 hr => ?_) (fun cF9 hr => ?_)
            · refine A_ops ?_
              refine A_upto 6 ?_
              obtain ⟨r3, eF10, hr⟩ := hr.bind
              refine A_call (out := ?o_eF10) (hp := ?p_eF10) ?c_eF10 ?d_eF10 ?_
              case c_eF10 => exact scansionref02_with_runs out1 n high eF10
              case d_eF10 => rfl
              refine A_ops_end ?_
              exact (w_bn (w_k ⟨r3, hr, (A_cut hwf)⟩))
            · refine w_skip ?_
              exact (w_bn (w_k ⟨out1, hr, (A_cut hwf)⟩))
          · refine w_block ?_
            refine w_seq ?_
            refine A_region ?_
            refine w_n ?_
            refine A_condH hr (fun cF11 hr => ?_) (fun cF11 hr => ?_)
            · refine A_ops ?_
              refine A_upto 2 ?_
              rcases hr.ite with ⟨cF12, hr⟩ | ⟨cF12, hr⟩
              · refine A_ops_end ?_
                exact (w_bn (w_k ⟨r2, hr, (A_cut hwf)⟩))
              · refine A_ops_end ?_
                exact (w_bn (w_k ⟨false, hr, (A_cut hwf)⟩))
            · refine w_seq ?_
              refine A_region ?_
              refine w_n ?_
              refine A_condH hr (fun cF13 hr => ?_) (fun cF13 hr => ?_)
              · refine A_ops ?_
                refine A_upto 2 ?_
                rcases hr.ite with ⟨cF14, hr⟩ | ⟨cF14, hr⟩
                · refine A_ops_end ?_
                  exact (w_bn (w_k ⟨(!r2), hr, (A_cut hwf)⟩))
                · refine A_ops_end ?_
                  exact (w_bn (w_k ⟨false, hr, (A_cut hwf)⟩))
              · refine w_seq ?_
                refine A_region ?_
                refine w_n ?_
                refine A_condH hr (fun cF15 hr => ?_) (fun cF15 hr => ?_)
                · refine A_ops ?_
                  refine A_upto 3 ?_
                  rcases hr.ite with ⟨cF16, hr⟩ | ⟨cF16, hr⟩
                  · refine A_ops_end ?_
                    exact (w_bn (w_k ⟨(!r2), hr, (A_cut hwf)⟩))
                  · refine A_ops_end ?_
                    exact (w_bn (w_k ⟨false, hr, (A_cut hwf)⟩))
                · refine w_skip ?_
                  exact (w_bn (w_k ⟨(r1 || r2), hr, (A_cut hwf)⟩))
        · refine A_condH hr (fun cF17 hr => ?_) (fun cF17 hr => ?_)
          · obtain ⟨n1, nF18, eF19, gF20, hr⟩ := hr.idx
            refine A_region ?_
            exact (w_k ⟨(IntKind.i64.wrap (n1 - (1 : Int))), hr, (A_cut hwf)⟩)
          · refine w_skip ?_
            exact (w_k ⟨(1114111 : Int), hr, (A_cut hwf)⟩)
    · refine w_exit ?_
      exact (w_te (w_te (w_bx (w_k ⟨out1, (hr).map, (A_cut hwf)⟩))))
end Go.Val

/- part HW13 -/
/- scansion/scansionref02.Make runs as it is read off. -/
namespace Go.Val
set_option linter.unusedVariables false
set_option linter.unusedSimpArgs false
set_option maxRecDepth 20000
open Go.Proofs
theorem scansionref02_Make_runs (l : List TRange) {h : Heap} {a : (List TRange × Int)} (e : scansionref02_Make l = some a) :
    Runs CT 13 [.cv (.val (.sl (List.map eRange l)))] h fun o h' => o = [.cv (.val (.sl (List.map eRange a.1))), .cv (.val (.int .i64 a.2))] ∧ h' = h := by
  refine Runs.start Try.f13 _ Try.func13 rfl (by rw [Try.ntmps13]; simp) (by rfl) (by rfl) (fun hwf hu => ?_)
  obtain ⟨D, hD, hr⟩ : ∃ D : (List TRange × Int) → Prop, (∀ z, D z → z = a) ∧ Holds (scansionref02_Make l) D := ⟨fun z => z = a, fun _ h => h, Holds.intro e rfl⟩
  dsimp only [scansionref02_Make] at hr
  change wpCode _ _ _ _ _ ⟨[(0, .cv (.val (.sl (List.map eRange l))))], h.on []⟩
  refine w_seq ?_
  refine A_region ?_
  refine w_n ?_
  refine w_seq ?_
  refine w_seq ?_
  refine A_region ?_
  refine w_n ?_
  refine w_K (D := D) (fun xX : Unit => ⟨[(0, .cv (.val (.sl (List.map eRange l))))], h.on []⟩) (fun xX : Unit => scansionref02_Make.k1 l) (fun xX s' hr ht => ?_) ?_
  · dsimp only [scansionref02_Make.k1] at hr ht
    refine (w_nT ht ?_)
    refine w_seq ?_
    refine A_ops ?_
    refine A_upto 1 ?_
    obtain ⟨r, eF1, hr⟩ := hr.bind
    refine A_call (out := ?o_eF1) (hp := ?p_eF1) ?c_eF1 ?d_eF1 ?_
    case c_eF1 => exact scansionref02_pick_runs l [] (0 : Int) eF1
    case d_eF1 => rfl
    refine A_ops_end ?_
    refine w_n ?_
    refine w_ret ?_
    obtain rfl := hD _ hr
    exact (A_endR (A_cut (os' := []) (sl := [(2, .cv (.val (.sl (List.map eRange r)))), (3, .cv (.val (.int .i64 (0 : Int))))]) hwf) ⟨rfl, on_nil hwf⟩)
  · refine w_block ?_
    refine w_Loop (fun xX : Int => ⟨[(0, .cv (.val (.sl (List.map eRange l)))), (4, .cv (.val (.int .i64 xX)))], h.on []⟩) hr (A_cut hwf) (fun W1 xX hr => ?_)
    obtain ⟨i, rfl⟩ : ∃ z, z = xX := ⟨xX, rfl⟩
    dsimp only [scansionref02_Make.b1] at hr
    refine w_seq ?_
    refine w_seq ?_
    refine A_region ?_
    refine w_n ?_
    refine A_condH hr (fun cF2 hr => ?_) (fun cF2 hr => ?_)
    · refine w_skip ?_
      refine w_n ?_
      refine w_seq ?_
      refine w_block ?_
      obtain ⟨v, vF8, hr⟩ := hr.bind
      refine w_joinR (sj := ⟨[(0, .cv (.val (.sl (List.map eRange l)))), (4, .cv (.val (.int .i64 i))), (37, .cv (.val (.bool v)))], h.on []⟩) (w_drawn [0, 1, 2, 3, 4, 5, 6, 7, 8, 9, 10, 11, 12, 13, 14, 15, 16, 17, 18, 19, 20, 21, 22, 23, 24, 25, 26] (by rfl) ?_) ?_
      · have hr := Holds.intro (D := fun z => z = v) vF8 rfl
        obtain ⟨x, nF3, eF4, gF5, hr⟩ := hr.idx
        refine p_run (l := [0, 1, 2, 3, 4, 5, 6]) (pend' := [6, 5, 4, 3, 2, 1, 0]) (by simp (disch := (apply Apart.mk; decide)) only [go_sem, Nat.reduceAdd, Nat.reduceLT, Nat.reduceMul, Nat.reduceLeDiff, Int.reduceToNat, Int.reduceLT, Int.reduceLE, nF3, eF4, gF5]; rfl) rfl ?_
        rcases hr.ite with ⟨cF6, hr⟩ | ⟨cF6, hr⟩
        · refine p_run (l := [7, 8, 9, 10, 11, 12, 13, 14, 15, 16, 17, 18, 19, 20, 21, 22, 23, 24, 25, 26]) (pend' := [26, 25, 24, 23, 22, 21, 20, 19, 18, 17, 16, 15, 14, 13, 12, 11, 10, 9, 8, 7, 6, 5, 4, 3, 2, 1, 0]) (by simp (disch := (apply Apart.mk; decide)) only [go_sem, Nat.reduceAdd, Nat.reduceLT, Nat.reduceMul, Nat.reduceLeDiff, Int.reduceToNat, Int.reduceLT, Int.reduceLE, nF3, eF4, gF5, cF6]; rfl) rfl ?_
          refine p_end (by simp (disch := (apply Apart.mk; decide)) only [go_sem, Nat.reduceAdd, Nat.reduceLT, Nat.reduceMul, Nat.reduceLeDiff, Int.reduceToNat, Int.reduceLT, Int.reduceLE, nF3, eF4, gF5, cF6]) ?_
          obtain rfl : _ = v := hr
          exact w_k (A_cut hwf)
        · refine p_run (l := [7, 8, 9, 10, 11, 12, 13, 14]) (pend' := [14, 13, 12, 11, 10, 9, 8, 7, 6, 5, 4, 3, 2, 1, 0]) (by simp (disch := (apply Apart.mk; decide)) only [go_sem, Nat.reduceAdd, Nat.reduceLT, Nat.reduceMul, Nat.reduceLeDiff, Int.reduceToNat, Int.reduceLT, Int.reduceLE, nF3, eF4, gF5, cF6]; rfl) rfl ?_
          rcases hr.ite with ⟨cF7, hr⟩ | ⟨cF7, hr⟩
          · refine p_run (l := [15, 16, 17, 18, 19, 20, 21, 22, 23, 24, 25, 26]) (pend' := [26, 25, 24, 23, 22, 21, 20, 19, 18, 17, 16, 15, 14, 13, 12, 11, 10, 9, 8, 7, 6, 5, 4, 3, 2, 1, 0]) (by simp (disch := (apply Apart.mk; decide)) only [go_sem, Nat.reduceAdd, Nat.reduceLT, Nat.reduceMul, Nat.reduceLeDiff, Int.reduceToNat, Int.reduceLT, Int.reduceLE, nF3, eF4, gF5, cF6, cF7]; rfl) rfl ?_
            refine p_end (by simp (disch := (apply Apart.mk; decide)) only [go_sem, Nat.reduceAdd, Nat.reduceLT, Nat.reduceMul, Nat.reduceLeDiff, Int.reduceToNat, Int.reduceLT, Int.reduceLE, nF3, eF4, gF5, cF6, nF3, eF4, gF5, cF7]) ?_
            obtain rfl : _ = v := hr
            exact w_k (A_cut hwf)
          · refine p_run (l := [15, 16, 17, 18, 19, 20, 21, 22, 23, 24, 25, 26]) (pend' := [26, 25, 24, 23, 22, 21, 20, 19, 18, 17, 16, 15, 14, 13, 12, 11, 10, 9, 8, 7, 6, 5, 4, 3, 2, 1, 0]) (by simp (disch := (apply Apart.mk; decide)) only [go_sem, Nat.reduceAdd, Nat.reduceLT, Nat.reduceMul, Nat.reduceLeDiff, Int.reduceToNat, Int.reduceLT, Int.reduceLE, nF3, eF4, gF5, cF6, cF7]; rfl) rfl ?_
            refine p_end (by simp (disch := (apply Apart.mk; decide)) only [go_sem, Nat.reduceAdd, Nat.reduceLT, Nat.reduceMul, Nat.reduceLeDiff, Int.reduceToNat, Int.reduceLT, Int.reduceLE, nF3, eF4, gF5, cF6, nF3, eF4, gF5, cF7, nF3, eF4, gF5, nF3, eF4, gF5]) ?_
            obtain rfl : _ = v := hr
            exact w_k (A_cut hwf)
      refine A_condH hr (fun cF9 hr => ?_) (fun cF9 hr => ?_)
      · refine w_seq ?_
        refine A_region ?_
        refine w_n ?_
        refine w_ret ?_
        obtain rfl := hD _ hr
        exact (w_br (w_tr (w_tr (w_br (w_tr (w_tr (A_endR (A_cut (os' := []) (sl := [(2, .cv (.val (.sl (List.map eRange ([] : List TRange))))), (3, .cv (.val (.int .i64 (1 : Int))))]) hwf) ⟨rfl, on_nil hwf⟩)))))))
      · refine w_skip ?_
        refine (w_bn (w_n ?_))
        refine A_region ?_
        exact (w_k ⟨(IntKind.i64.wrap (i + (1 : Int))), hr, (A_cut hwf)⟩)
    · refine w_exit ?_
      exact (w_te (w_te (w_bx (w_k ⟨(), (hr).map, (A_cut hwf)⟩))))
end Go.Val

/- part HW16 -/
/- scansion/scansionlaw02.set runs as it is read off. -/
namespace Go.Val
set_option linter.unusedVariables false
set_option linter.unusedSimpArgs false
set_option maxRecDepth 20000
open Go.Proofs
theorem scansionlaw02_set_runs (l : List TRange) {h : Heap} {a : (List TRange × Bool)} (e : scansionlaw02_set l = some a) :
    Runs CT 16 [.cv (.val (.sl (List.map eRange l)))] h fun o h' => o = [.cv (.val (.sl (List.map eRange a.1))), .cv (.val (.bool a.2))] ∧ h' = h := by
  refine Runs.start Try.f16 _ Try.func16 rfl (by rw [Try.ntmps16]; simp) (by rfl) (by rfl) (fun hwf hu => ?_)
  obtain ⟨D, hD, hr⟩ : ∃ D : (List TRange × Bool) → Prop, (∀ z, D z → z = a) ∧ Holds (scansionlaw02_set l) D := ⟨fun z => z = a, fun _ h => h, Holds.intro e rfl⟩
  dsimp only [scansionlaw02_set] at hr
  change wpCode _ _ _ _ _ ⟨[(0, .cv (.val (.sl (List.map eRange l))))], h.on []⟩
  refine w_seq ?_
  refine A_region ?_
  refine w_n ?_
  refine w_seq ?_
  refine w_seq ?_
  refine A_region ?_
  refine w_n ?_
  refine A_condH hr (fun cF1 hr => ?_) (fun cF1 hr => ?_)
  · refine w_seq ?_
    refine A_region ?_
    refine w_n ?_
    refine w_ret ?_
    obtain rfl := hD _ hr
    exact (w_tr (A_endR (A_cut (os' := []) (sl := [(2, .cv (.val (.sl (List.map eRange ([] : List TRange))))), (3, .cv (.val (.bool false)))]) hwf) ⟨rfl, on_nil hwf⟩))
  · refine w_skip ?_
    refine w_n ?_
    refine w_seq ?_
    refine A_ops ?_
    refine A_upto 1 ?_
    obtain ⟨r, eF2, hr⟩ := hr.bind
    refine A_call (out := ?o_eF2) (hp := ?p_eF2) ?c_eF2 ?d_eF2 ?_
    case c_eF2 => exact scansionref02_Make_runs l eF2
    case d_eF2 => rfl
    refine A_ops_end ?_
    refine w_n ?_
    refine w_seq ?_
    refine A_region ?_
    refine w_n ?_
    refine w_ret ?_
    obtain rfl := hD _ hr
    exact (A_endR (A_cut (os' := []) (sl := [(2, .cv (.val (.sl (List.map eRange r.1)))), (3, .cv (.val (.bool (r.2 == (0 : Int)))))]) hwf) ⟨rfl, on_nil hwf⟩)
end Go.Val

/- part HW25 -/
/- scansion/ranges.Count runs as it is read off. -/
namespace Go.Val
set_option linter.unusedVariables false
set_option linter.unusedSimpArgs false
set_option maxRecDepth 20000
open Go.Proofs
theorem ranges_Count_runs (a_ : List TRange) {h : Heap} {a : Int} (e : ranges_Count a_ = some a) :
    Runs CT 25 [.cv (.val (.sl (List.map eRange a_)))] h fun o h' => o = [.cv (.val (.int .i64 a))] ∧ h' = h := by
  refine Runs.start Try.f25 _ Try.func25 rfl (by rw [Try.ntmps25]; simp) (by rfl) (by rfl) (fun hwf hu => ?_)
  obtain ⟨D, hD, hr⟩ : ∃ D : Int → Prop, (∀ z, D z → z = a) ∧ Holds (ranges_Count a_) D := ⟨fun z => z = a, fun _ h => h, Holds.intro e rfl⟩
  dsimp only [ranges_Count] at hr
  change wpCode _ _ _ _ _ ⟨[(0, .cv (.val (.sl (List.map eRange a_))))], h.on []⟩
  refine w_seq ?_
  refine A_region ?_
  refine w_n ?_
  refine w_seq ?_
  refine A_region ?_
  refine w_n ?_
  refine w_seq ?_
  refine w_seq ?_
  refine A_region ?_
  refine w_n ?_
  refine w_K (D := D) (fun xX : Int => ⟨[(3, .cv (.val (.int .i64 xX)))], h.on []⟩) (fun xX : Int => ranges_Count.k1 xX) (fun xX s' hr ht => ?_) ?_
  · obtain ⟨n, rfl⟩ : ∃ z, z = xX := ⟨xX, rfl⟩
    dsimp only [ranges_Count.k1] at hr ht
    refine (w_nT ht ?_)
    refine w_seq ?_
    refine A_region ?_
    refine w_n ?_
    refine w_ret ?_
    obtain rfl := hD _ hr
    exact (A_endR (A_cut (os' := []) (sl := [(2, .cv (.val (.int .i64 n)))]) hwf) ⟨rfl, on_nil hwf⟩)
  · refine w_block ?_
    refine w_Loop (fun xX : (Int × Int) => ⟨[(3, .cv (.val (.int .i64 xX.1))), (6, .cv (.val (.sl (List.map eRange a_)))), (7, .cv (.val (.int .i64 (a_.length : Int)))), (8, .cv (.val (.int .i64 xX.2)))], h.on []⟩) hr (A_cut hwf) (fun W1 xX hr => ?_)
    obtain ⟨n1, v⟩ := xX
    dsimp only [ranges_Count.b1] at hr
    refine w_seq ?_
    refine A_region ?_
    refine w_n ?_
    refine w_seq ?_
    refine A_condH hr (fun cF1 hr => ?_) (fun cF1 hr => ?_)
    · refine w_skip ?_
      refine w_n ?_
      refine w_seq ?_
      refine w_block ?_
      refine w_seq ?_
      obtain ⟨x, nF2, eF3, gF4, hr⟩ := hr.idx
      refine A_region ?_
      refine w_n ?_
      refine A_region ?_
      refine (w_bn (w_n ?_))
      refine A_region ?_
      exact (w_k ⟨((IntKind.i64.wrap (n1 + (IntKind.i64.wrap ((IntKind.i64.wrap (x.High - x.Low)) + (1 : Int))))), (IntKind.i64.wrap (v + (1 : Int)))), hr, (A_cut hwf)⟩)
    · refine w_exit ?_
      exact (w_te (w_te (w_bx (w_k ⟨n1, (hr).map, (A_cut hwf)⟩))))
end Go.Val

/- part HW26 -/
/- scansion/ranges.Nth runs as it is read off. -/
namespace Go.Val
set_option linter.unusedVariables false
set_option linter.unusedSimpArgs false
set_option maxRecDepth 20000
open Go.Proofs
theorem ranges_Nth_runs (a_ : List TRange) (n : Int) {h : Heap} {a : (Int × Int)} (e : ranges_Nth a_ n = some a) :
    Runs CT 26 [.cv (.val (.sl (List.map eRange a_))), .cv (.val (.int .i64 n))] h fun o h' => o = [.cv (.val (.int .i64 a.1)), .cv (.val (.int .i64 a.2))] ∧ h' = h := by
  refine Runs.start Try.f26 _ Try.func26 rfl (by rw [Try.ntmps26]; simp) (by rfl) (by rfl) (fun hwf hu => ?_)
  obtain ⟨D, hD, hr⟩ : ∃ D : (Int × Int) → Prop, (∀ z, D z → z = a) ∧ Holds (ranges_Nth a_ n) D := ⟨fun z => z = a, fun _ h => h, Holds.intro e rfl⟩
  dsimp only [ranges_Nth] at hr
  change wpCode _ _ _ _ _ ⟨[(0, .cv (.val (.sl (List.map eRange a_)))), (1, .cv (.val (.int .i64 n)))], h.on []⟩
  refine w_seq ?_
  refine A_region ?_
  refine w_n ?_
  refine w_seq ?_
  refine w_seq ?_
  refine A_region ?_
  refine w_n ?_
  refine A_condH hr (fun cF1 hr => ?_) (fun cF1 hr => ?_)
  · refine w_seq ?_
    refine A_region ?_
    refine w_n ?_
    refine w_ret ?_
    obtain rfl := hD _ hr
    exact (w_tr (A_endR (A_cut (os' := []) (sl := [(4, .cv (.val (.int .i64 (0 : Int)))), (5, .cv (.val (.int .i64 (4 : Int))))]) hwf) ⟨rfl, on_nil hwf⟩))
  · refine w_skip ?_
    refine w_n ?_
    refine w_seq ?_
    refine w_seq ?_
    refine A_region ?_
    refine w_n ?_
    refine w_K (D := D) (fun xX : Unit => ⟨[], h.on []⟩) (fun xX : Unit => ranges_Nth.k1) (fun xX s' hr ht => ?_) ?_
    · dsimp only [ranges_Nth.k1] at hr ht
      refine (w_nT ht ?_)
      refine w_seq ?_
      refine A_region ?_
      refine w_n ?_
      refine w_ret ?_
      obtain rfl := hD _ hr
      exact (A_endR (A_cut (os' := []) (sl := [(4, .cv (.val (.int .i64 (0 : Int)))), (5, .cv (.val (.int .i64 (4 : Int))))]) hwf) ⟨rfl, on_nil hwf⟩)
    · refine w_block ?_
      refine w_Loop (fun xX : (Int × Int) => ⟨[(1, .cv (.val (.int .i64 xX.1))), (11, .cv (.val (.sl (List.map eRange a_)))), (12, .cv (.val (.int .i64 (a_.length : Int)))), (13, .cv (.val (.int .i64 xX.2)))], h.on []⟩) hr (A_cut hwf) (fun W1 xX hr => ?_)
      obtain ⟨n1, v⟩ := xX
      dsimp only [ranges_Nth.b1] at hr
      refine w_seq ?_
      refine A_region ?_
      refine w_n ?_
      refine w_seq ?_
      refine A_condH hr (fun cF2 hr => ?_) (fun cF2 hr => ?_)
      · refine w_skip ?_
        refine w_n ?_
        refine w_seq ?_
        refine w_block ?_
        refine w_seq ?_
        obtain ⟨x, nF3, eF4, gF5, hr⟩ := hr.idx
        refine A_region ?_
        refine w_n ?_
        refine w_seq ?_
        refine A_region ?_
        refine w_n ?_
        refine w_seq ?_
        refine w_seq ?_
        refine A_region ?_
        refine w_n ?_
        refine A_condH hr (fun cF6 hr => ?_) (fun cF6 hr => ?_)
        · refine w_seq ?_
          refine A_region ?_
          refine w_n ?_
          refine w_ret ?_
          obtain rfl := hD _ hr
          exact (w_tr (w_br (w_tr (w_tr (w_br (w_tr (w_tr (A_endR (A_cut (os' := []) (sl := [(4, .cv (.val (.int .i64 (IntKind.i64.wrap (x.Low + n1))))), (5, .cv (.val (.int .i64 (0 : Int))))]) hwf) ⟨rfl, on_nil hwf⟩))))))))
        · refine w_skip ?_
          refine w_n ?_
          refine A_region ?_
          refine (w_bn (w_n ?_))
          refine A_region ?_
          exact (w_k ⟨((IntKind.i64.wrap (n1 - (IntKind.i64.wrap ((IntKind.i64.wrap (x.High - x.Low)) + (1 : Int))))), (IntKind.i64.wrap (v + (1 : Int)))), hr, (A_cut hwf)⟩)
      · refine w_exit ?_
        exact (w_te (w_te (w_bx (w_k ⟨(), (hr).map, (A_cut hwf)⟩))))
end Go.Val

/- part HW30 -/
/- scansion/ranges.Make$1 runs as it is read off. -/
namespace Go.Val
set_option linter.unusedVariables false
set_option linter.unusedSimpArgs false
set_option maxRecDepth 20000
open Go.Proofs
theorem ranges_Make_1_runs (x : TRange) {h : Heap} {a : Bool} (e : ranges_Make_1 x = some a) :
    Runs CT 30 [.cv (.val (.agg [.int .i64 x.Low, .int .i64 x.High]))] h fun o h' => o = [.cv (.val (.bool a))] ∧ h' = h := by
  refine Runs.start Try.f30 _ Try.func30 rfl (by rw [Try.ntmps30]; simp) (by rfl) (by rfl) (fun hwf hu => ?_)
  obtain ⟨D, hD, hr⟩ : ∃ D : Bool → Prop, (∀ z, D z → z = a) ∧ Holds (ranges_Make_1 x) D := ⟨fun z => z = a, fun _ h => h, Holds.intro e rfl⟩
  dsimp only [ranges_Make_1] at hr
  change wpCode _ _ _ _ _ ⟨[(0, .cv (.val (.agg [.int .i64 x.Low, .int .i64 x.High])))], h.on []⟩
  refine w_seq ?_
  refine A_region ?_
  refine w_n ?_
  refine w_joinR (sj := ⟨[(2, .cv (.val (.bool ((decide (x.Low < (0 : Int))) || ((decide (x.High > (1114111 : Int))) || (decide (x.Low > x.High)))))))], h.on []⟩) (A_ops ?_) ?_
  · refine A_upto 4 ?_
    rcases Bool.eq_false_or_eq_true (decide (x.Low < (0 : Int))) with cF1 | cF1
    · refine A_ops_end ?_
      exact w_k (A_cut hwf)
    · refine A_upto 5 ?_
      rcases Bool.eq_false_or_eq_true (decide (x.High > (1114111 : Int))) with cF2 | cF2
      · refine A_ops_end ?_
        exact w_k (A_cut hwf)
      · refine A_ops_end ?_
        exact w_k (A_cut hwf)
  refine w_ret ?_
  obtain rfl := hD _ hr
  exact (A_endR (A_cut (os' := []) (sl := [(2, .cv (.val (.bool ((decide (x.Low < (0 : Int))) || ((decide (x.High > (1114111 : Int))) || (decide (x.Low > x.High)))))))]) hwf) ⟨rfl, on_nil hwf⟩)
end Go.Val

/- part HW45 -/
/- slices.IndexFunc[[]scansion/api.Range,scansion/api.Range] runs as it is read off. -/
namespace Go.Val
set_option linter.unusedVariables false
set_option linter.unusedSimpArgs false
set_option maxRecDepth 20000
open Go.Proofs
theorem slices_IndexFunc_api_Range_api_Range_runs (s : List TRange) (f : TRange → Option Bool) (fid_f : FuncId) (caps_f : List DVal) {h : Heap} (h_f : ∀ os x0 r, f x0 = some r → Runs CT fid_f ([.cv (.val (.agg [.int .i64 x0.Low, .int .i64 x0.High]))] ++ sval caps_f) (h.on os) fun o h' => o = [.cv (.val (.bool r))] ∧ h' = h.on os) (d_f : ∀ i, CT.how fid_f i = .data) {a : Int} (e : slices_IndexFunc_api_Range_api_Range s f = some a) :
    Runs CT 45 [.cv (.val (.sl (List.map eRange s))), .cv (.val (.fn fid_f [] caps_f))] h fun o h' => o = [.cv (.val (.int .i64 a))] ∧ h' = h := by
  refine Runs.start Try.f45 _ Try.func45 rfl (by rw [Try.ntmps45]; simp) (by rfl) (by rfl) (fun hwf hu => ?_)
  have u_f : underL h.n caps_f := (hu (.cv (.val (.fn fid_f [] caps_f))) (by simp)).2
  have vu_f := fun k => under_add (k := k) u_f
  obtain ⟨D, hD, hr⟩ : ∃ D : Int → Prop, (∀ z, D z → z = a) ∧ Holds (slices_IndexFunc_api_Range_api_Range s f) D := ⟨fun z => z = a, fun _ h => h, Holds.intro e rfl⟩
  dsimp only [slices_IndexFunc_api_Range_api_Range] at hr
  change wpCode _ _ _ _ _ ⟨[(0, .cv (.val (.sl (List.map eRange s)))), (1, .cv (.val (.fn fid_f [] caps_f)))], h.on []⟩
  refine w_seq ?_
  refine A_region ?_
  refine w_n ?_
  refine w_seq ?_
  refine w_seq ?_
  refine A_region ?_
  refine w_n ?_
  refine w_K (D := D) (fun xX : Unit => ⟨[], h.on []⟩) (fun xX : Unit => slices_IndexFunc_api_Range_api_Range.k1) (fun xX s' hr ht => ?_) ?_
  · dsimp only [slices_IndexFunc_api_Range_api_Range.k1] at hr ht
    refine (w_nT ht ?_)
    refine w_seq ?_
    refine A_region ?_
    refine w_n ?_
    refine w_ret ?_
    obtain rfl := hD _ hr
    exact (A_endR (A_cut (os' := []) (sl := [(4, .cv (.val (.int .i64 (-1 : Int))))]) hwf) ⟨rfl, on_nil hwf⟩)
  · refine w_block ?_
    refine w_Loop (fun xX : Int => ⟨[(0, .cv (.val (.sl (List.map eRange s)))), (1, .cv (.val (.fn fid_f [] caps_f))), (7, .cv (.val (.int .i64 (s.length : Int)))), (8, .cv (.val (.int .i64 xX)))], h.on []⟩) hr (A_cut hwf) (fun W1 xX hr => ?_)
    obtain ⟨v, rfl⟩ : ∃ z, z = xX := ⟨xX, rfl⟩
    dsimp only [slices_IndexFunc_api_Range_api_Range.b1] at hr
    refine w_seq ?_
    refine A_region ?_
    refine w_n ?_
    refine w_seq ?_
    refine A_condH hr (fun cF1 hr => ?_) (fun cF1 hr => ?_)
    · refine w_skip ?_
      refine w_n ?_
      refine w_seq ?_
      refine w_block ?_
      refine w_seq ?_
      refine A_region ?_
      refine w_n ?_
      refine w_seq ?_
      refine A_ops ?_
      obtain ⟨x, nF2, eF3, gF4, hr⟩ := hr.idx
      refine A_upto 5 ?_
      obtain ⟨r, eF5, hr⟩ := hr.bind
      refine A_call (out := ?o_eF5) (hp := ?p_eF5) ?c_eF5 ?d_eF5 ?_
      case c_eF5 => exact h_f _ _ _ eF5
      case d_eF5 => rfl
      refine w_ops_nil ?_
      refine w_n ?_
      refine A_condH hr (fun cF6 hr => ?_) (fun cF6 hr => ?_)
      · refine w_seq ?_
        refine A_region ?_
        refine w_n ?_
        refine w_ret ?_
        obtain rfl := hD _ hr
        exact (w_br (w_tr (w_tr (w_br (w_tr (w_tr (A_endR (A_cut (os' := []) (sl := [(4, .cv (.val (.int .i64 v)))]) hwf) ⟨rfl, on_nil hwf⟩)))))))
      · refine w_skip ?_
        refine (w_bn (w_n ?_))
        refine A_region ?_
        exact (w_k ⟨(IntKind.i64.wrap (v + (1 : Int))), hr, (A_cut hwf)⟩)
    · refine w_exit ?_
      exact (w_te (w_te (w_bx (w_k ⟨(), (hr).map, (A_cut hwf)⟩))))
end Go.Val

/- part HW31 -/
/- slices.ContainsFunc[[]scansion/api.Range,scansion/api.Range] runs as it is read off. -/
namespace Go.Val
set_option linter.unusedVariables false
set_option linter.unusedSimpArgs false
set_option maxRecDepth 20000
open Go.Proofs
theorem slices_ContainsFunc_api_Range_api_Range_runs (s : List TRange) (f : TRange → Option Bool) (fid_f : FuncId) (caps_f : List DVal) {h : Heap} (h_f : ∀ os x0 r, f x0 = some r → Runs CT fid_f ([.cv (.val (.agg [.int .i64 x0.Low, .int .i64 x0.High]))] ++ sval caps_f) (h.on os) fun o h' => o = [.cv (.val (.bool r))] ∧ h' = h.on os) (d_f : ∀ i, CT.how fid_f i = .data) {a : Bool} (e : slices_ContainsFunc_api_Range_api_Range s f = some a) :
    Runs CT 31 [.cv (.val (.sl (List.map eRange s))), .cv (.val (.fn fid_f [] caps_f))] h fun o h' => o = [.cv (.val (.bool a))] ∧ h' = h := by
  refine Runs.start Try.f31 _ Try.func31 rfl (by rw [Try.ntmps31]; simp) (by rfl) (by rfl) (fun hwf hu => ?_)
  have u_f : underL h.n caps_f := (hu (.cv (.val (.fn fid_f [] caps_f))) (by simp)).2
  have vu_f := fun k => under_add (k := k) u_f
  obtain ⟨D, hD, hr⟩ : ∃ D : Bool → Prop, (∀ z, D z → z = a) ∧ Holds (slices_ContainsFunc_api_Range_api_Range s f) D := ⟨fun z => z = a, fun _ h => h, Holds.intro e rfl⟩
  dsimp only [slices_ContainsFunc_api_Range_api_Range] at hr
  change wpCode _ _ _ _ _ ⟨[(0, .cv (.val (.sl (List.map eRange s)))), (1, .cv (.val (.fn fid_f [] caps_f)))], h.on []⟩
  refine w_seq ?_
  refine A_region ?_
  refine w_n ?_
  refine w_seq ?_
  refine A_ops ?_
  refine A_upto 2 ?_
  obtain ⟨r, eF1, hr⟩ := hr.bind
  refine A_call (out := ?o_eF1) (hp := ?p_eF1) ?c_eF1 ?d_eF1 ?_
  case c_eF1 => (refine slices_IndexFunc_api_Range_api_Range_runs s f _ _ ?_ ?_ eF1; (exact (fun os x0 r e => by rw [on_on]; exact h_f _ x0 r e)); (exact d_f))
  case d_eF1 => rfl
  refine A_ops_end ?_
  refine w_n ?_
  refine w_ret ?_
  obtain rfl := hD _ hr
  exact (A_endR (A_cut (os' := []) (sl := [(4, .cv (.val (.bool (decide (r ≥ (0 : Int))))))]) hwf) ⟨rfl, on_nil hwf⟩)
end Go.Val

/- part HW32 -/
/- slices.Clone at ranges: by hand (an empty slice may be nil, or not). -/
namespace Go.Val
set_option linter.unusedVariables false
set_option linter.unusedSimpArgs false
set_option maxRecDepth 20000
open Go.Proofs
theorem slices_Clone_api_Range_api_Range_runs (s : List TRange) {h : Heap} {a : List TRange} (e : slices_Clone_api_Range_api_Range s = some a) :
    Runs CT 32 [.cv (.val (.sl (List.map eRange s)))] h fun o h' => o = [.cv (.row 30 (List.map eRange a))] ∧ h' = h := by
  refine Runs.start Try.f32 _ Try.func32 rfl (by rw [Try.ntmps32]; simp) (by rfl) (by rfl) (fun hwf hu => ?_)
  have hr : Holds (slices_Clone_api_Range_api_Range s) (fun z => z = a) := Holds.intro e rfl
  unfold slices_Clone_api_Range_api_Range at hr
  obtain ⟨nF1, hr⟩ := hr.room
  obtain rfl : s = a := hr
  change wpCode _ _ _ _ _ ⟨[(0, .cv (.val (.sl (List.map eRange s))))], h.on []⟩
  refine w_seq ?_
  refine A_region ?_
  refine w_n ?_
  refine w_seq ?_
  refine w_seq ?_
  refine A_ops ?_
  refine A_upto 1 ?_
  refine w_nilCmp rfl Try.underlying22 (by simp (disch := (apply Apart.mk; decide)) only [go_sem, Nat.reduceAdd, Nat.reduceLT]; rfl) (fun b hb => ?_)
  refine w_ops_nil ?_
  refine w_n ?_
  cases b with
  | true =>
    have hs : s = [] := by
      cases s with
      | nil => rfl
      | cons x l => exact absurd (hb (by simp)) (by simp)
    subst hs
    refine A_cond true (fun _ => ?_) (fun e => by cases e)
    refine w_seq ?_
    refine A_region ?_
    refine w_n ?_
    refine w_ret ?_
    exact (w_tr (A_endR (A_cut (os' := []) (sl := [(2, .cv (.row 30 (List.map eRange ([] : List TRange))))]) hwf) ⟨rfl, on_nil hwf⟩))
  | false =>
    refine A_cond false (fun e => by cases e) (fun _ => ?_)
    refine w_skip ?_
    refine w_n ?_
    refine w_seq ?_
    refine A_region ?_
    refine w_n ?_
    refine w_ret ?_
    exact (A_endR (A_cut (os' := []) (sl := [(2, .cv (.row 30 (List.map eRange s)))]) hwf) ⟨rfl, on_nil hwf⟩)
end Go.Val

/- part HW36 -/
/- scansion/ranges.put runs as it is read off. -/
namespace Go.Val
set_option linter.unusedVariables false
set_option linter.unusedSimpArgs false
set_option maxRecDepth 20000
open Go.Proofs
theorem ranges_put_runs (l : List TRange) (x : TRange) {h : Heap} {a : List TRange} (e : ranges_put l x = some a) :
    Runs CT 36 [.cv (.row 30 (List.map eRange l)), .cv (.val (.agg [.int .i64 x.Low, .int .i64 x.High]))] h fun o h' => o = [.cv (.row 30 (List.map eRange a))] ∧ h' = h := by
  refine Runs.start Try.f36 _ Try.func36 rfl (by rw [Try.ntmps36]; simp) (by rfl) (by rfl) (fun hwf hu => ?_)
  obtain ⟨D, hD, hr⟩ : ∃ D : List TRange → Prop, (∀ z, D z → z = a) ∧ Holds (ranges_put l x) D := ⟨fun z => z = a, fun _ h => h, Holds.intro e rfl⟩
  dsimp only [ranges_put] at hr
  change wpCode _ _ _ _ _ ⟨[(0, .cv (.row 30 (List.map eRange l))), (1, .cv (.val (.agg [.int .i64 x.Low, .int .i64 x.High])))], h.on []⟩
  refine w_seq ?_
  refine A_region ?_
  refine w_n ?_
  refine w_seq ?_
  refine A_region ?_
  refine w_n ?_
  refine w_seq ?_
  obtain ⟨v, vF5, hr⟩ := hr.bind
  refine w_joinR (sj := ⟨[(0, .cv (.row 30 (List.map eRange l))), (3, .cv (.val (.ptr (some (h.n + 0, 0))))), (5, .cv (.val (.int .i64 (l.length : Int)))), (21, .cv (.val (.bool v)))], h.on [some (.cells [.val (.int .i64 x.Low), .val (.int .i64 x.High)])]⟩) (w_drawn [0, 1, 2, 3, 4, 5, 6, 7, 8, 9, 10, 11, 12, 13] (by rfl) ?_) ?_
  · have hr := Holds.intro (D := fun z => z = v) vF5 rfl
    refine p_run (l := [0, 1, 2]) (pend' := [2, 1, 0]) (by simp (disch := (apply Apart.mk; decide)) only [go_sem, Nat.reduceAdd, Nat.reduceLT, Nat.reduceMul, Nat.reduceLeDiff, Int.reduceToNat, Int.reduceLT, Int.reduceLE]; rfl) rfl ?_
    rcases hr.ite with ⟨cF1, hr⟩ | ⟨cF1, hr⟩
    · obtain ⟨x1, nF2, eF3, gF4, hr⟩ := hr.idx
      refine p_run (l := [3, 4, 5, 6, 7, 8, 9, 10, 11, 12, 13]) (pend' := [13, 12, 11, 10, 9, 8, 7, 6, 5, 4, 3, 2, 1, 0]) (by simp (disch := (apply Apart.mk; decide)) only [go_sem, Nat.reduceAdd, Nat.reduceLT, Nat.reduceMul, Nat.reduceLeDiff, Int.reduceToNat, Int.reduceLT, Int.reduceLE, cF1, nF2, eF3, gF4]; rfl) rfl ?_
      refine p_end (by simp (disch := (apply Apart.mk; decide)) only [go_sem, Nat.reduceAdd, Nat.reduceLT, Nat.reduceMul, Nat.reduceLeDiff, Int.reduceToNat, Int.reduceLT, Int.reduceLE, cF1, nF2, eF3, gF4]) ?_
      obtain rfl : _ = v := hr
      exact w_k (A_cut hwf)
    · refine p_run (l := [3, 4, 5, 6, 7, 8, 9, 10, 11, 12, 13]) (pend' := [13, 12, 11, 10, 9, 8, 7, 6, 5, 4, 3, 2, 1, 0]) (by simp (disch := (apply Apart.mk; decide)) only [go_sem, Nat.reduceAdd, Nat.reduceLT, Nat.reduceMul, Nat.reduceLeDiff, Int.reduceToNat, Int.reduceLT, Int.reduceLE, cF1]; rfl) rfl ?_
      refine p_end (by simp (disch := (apply Apart.mk; decide)) only [go_sem, Nat.reduceAdd, Nat.reduceLT, Nat.reduceMul, Nat.reduceLeDiff, Int.reduceToNat, Int.reduceLT, Int.reduceLE, cF1]) ?_
      obtain rfl : _ = v := hr
      exact w_k (A_cut hwf)
  refine A_condH hr (fun cF6 hr => ?_) (fun cF6 hr => ?_)
  · refine w_seq ?_
    refine w_drawn [0, 1, 2, 3, 4, 5, 6, 7, 8, 9, 10, 11, 12, 13, 14] (by rfl) ?_
    obtain ⟨x2, nF7, eF8, gF9, hr⟩ := hr.idx
    refine p_run (l := [0, 1, 2, 3, 4, 5, 6, 7, 8, 9, 10, 11, 12, 13]) (pend' := [13, 12, 11, 10, 9, 8, 7, 6, 5, 4, 3, 2, 1, 0]) (by simp (disch := (apply Apart.mk; decide)) only [go_sem, Nat.reduceAdd, Nat.reduceLT, Nat.reduceMul, Nat.reduceLeDiff, Int.reduceToNat, Int.reduceLT, Int.reduceLE, nF7, eF8, gF9]; rfl) rfl ?_
    refine p_op (pend' := []) rfl (by simp (disch := (apply Apart.mk; decide)) only [go_sem, Nat.reduceAdd, Nat.reduceLT, Nat.reduceMul, Nat.reduceLeDiff, Int.reduceToNat, Int.reduceLT, Int.reduceLE, nF7, eF8, gF9]) (by simp (disch := (apply Apart.mk; decide)) only [go_sem, Nat.reduceAdd, Nat.reduceLT, Nat.reduceMul, Nat.reduceLeDiff, Int.reduceToNat, Int.reduceLT, Int.reduceLE, nF7, eF8, gF9]; rfl) (by rfl) ?_
    refine p_end (by simp (disch := (apply Apart.mk; decide)) only [go_sem, Nat.reduceAdd, Nat.reduceLT, Nat.reduceMul, Nat.reduceLeDiff, Int.reduceToNat, Int.reduceLT, Int.reduceLE, nF7, eF8, gF9, nF7, eF8, gF9]) ?_
    refine w_n ?_
    refine w_seq ?_
    refine A_region ?_
    refine w_n ?_
    refine w_ret ?_
    obtain rfl := hD _ hr
    exact (w_tr (A_endR (A_cut (os' := []) (sl := [(4, .cv (.row 30 (List.map eRange (List.set l (Int.toNat (IntKind.i64.wrap ((l.length : Int) - (1 : Int)))) (TRange.mk x2.Low (mx x2.High x.High))))))]) hwf) ⟨rfl, on_nil hwf⟩))
  · refine w_skip ?_
    refine w_n ?_
    refine w_seq ?_
    obtain ⟨nF10, hr⟩ := hr.room
    refine A_region ?_
    refine w_n ?_
    refine w_ret ?_
    obtain rfl := hD _ hr
    exact (A_endR (A_cut (os' := []) (sl := [(4, .cv (.row 30 (List.map eRange (l ++ ([x])))))]) hwf) ⟨rfl, on_nil hwf⟩)
end Go.Val

/- part HW12 -/
/- scansion/ranges.Make runs as it is read off. -/
namespace Go.Val
set_option linter.unusedVariables false
set_option linter.unusedSimpArgs false
set_option maxRecDepth 20000
open Go.Proofs
theorem ranges_Make_runs (l : List TRange) {h : Heap} {a : (List TRange × Int)} (e : ranges_Make l = some a) :
    Runs CT 12 [.cv (.val (.sl (List.map eRange l)))] h fun o h' => o = [.cv (.val (.sl (List.map eRange a.1))), .cv (.val (.int .i64 a.2))] ∧ h' = h := by
  refine Runs.start Try.f12 _ Try.func12 rfl (by rw [Try.ntmps12]; simp) (by rfl) (by rfl) (fun hwf hu => ?_)
  obtain ⟨D, hD, hr⟩ : ∃ D : (List TRange × Int) → Prop, (∀ z, D z → z = a) ∧ Holds (ranges_Make l) D := ⟨fun z => z = a, fun _ h => h, Holds.intro e rfl⟩
  dsimp only [ranges_Make] at hr
  change wpCode _ _ _ _ _ ⟨[(0, .cv (.val (.sl (List.map eRange l))))], h.on []⟩
  refine w_seq ?_
  refine A_region ?_
  refine w_n ?_
  refine w_seq ?_
  refine A_region ?_
  refine w_n ?_
  refine w_seq ?_
  refine w_seq ?_
  refine A_ops ?_
  refine A_upto 2 ?_
  obtain ⟨r, eF1, hr⟩ := hr.bind
  refine A_call (out := ?o_eF1) (hp := ?p_eF1) ?c_eF1 ?d_eF1 ?_
  case c_eF1 => (refine slices_ContainsFunc_api_Range_api_Range_runs l (ranges_Make_1) _ _ ?_ ?_ eF1; (exact (fun os x0 r e => ranges_Make_1_runs x0 e)); (exact (fun i => by simp [CT])))
  case d_eF1 => rfl
  refine w_ops_nil ?_
  refine w_n ?_
  refine A_condH hr (fun cF2 hr => ?_) (fun cF2 hr => ?_)
  · refine w_seq ?_
    refine A_region ?_
    refine w_n ?_
    refine w_ret ?_
    obtain rfl := hD _ hr
    exact (w_tr (A_endR (A_cut (os' := []) (sl := [(2, .cv (.val (.sl (List.map eRange ([] : List TRange))))), (3, .cv (.val (.int .i64 (1 : Int))))]) hwf) ⟨rfl, on_nil hwf⟩))
  · refine w_skip ?_
    refine w_n ?_
    refine w_seq ?_
    refine A_ops ?_
    refine A_upto 1 ?_
    obtain ⟨r1, eF3, hr⟩ := hr.bind
    refine A_call (out := ?o_eF3) (hp := ?p_eF3) ?c_eF3 ?d_eF3 ?_
    case c_eF3 => exact slices_Clone_api_Range_api_Range_runs l eF3
    case d_eF3 => rfl
    refine A_ops_end ?_
    refine w_n ?_
    refine w_seq ?_
    refine A_ops ?_
    refine A_upto 1 ?_
    obtain ⟨l1, eF4, hr⟩ := hr.bind
    refine w_ext rfl (by simp (disch := (apply Apart.mk; decide)) only [go_sem, Nat.reduceAdd, Nat.reduceLT, Nat.reduceMul, Nat.reduceLeDiff, Int.reduceToNat, Int.reduceLT, Int.reduceLE, Option.getD_some] <;> rfl) rfl (by simp (disch := (apply Apart.mk; decide)) only [go_sem, Nat.reduceAdd, Nat.reduceLT, Nat.reduceMul, Nat.reduceLeDiff, Int.reduceToNat, Int.reduceLT, Int.reduceLE, Option.getD_some] <;> rfl) (by simp (disch := (apply Apart.mk; decide)) only [go_sem, Nat.reduceAdd, Nat.reduceLT, Nat.reduceMul, Nat.reduceLeDiff, Int.reduceToNat, Int.reduceLT, Int.reduceLE, Option.getD_some] <;> rfl) (by simp (disch := (apply Apart.mk; decide)) only [go_sem, Nat.reduceAdd, Nat.reduceLT, Nat.reduceMul, Nat.reduceLeDiff, Int.reduceToNat, Int.reduceLT, Int.reduceLE, Option.getD_some] <;> rfl) (by rfl) (ext_sortR eF4) ?_
    refine w_ops_nil ?_
    refine w_n ?_
    refine w_seq ?_
    refine A_region ?_
    refine w_n ?_
    refine w_seq ?_
    refine w_seq ?_
    refine A_region ?_
    refine w_n ?_
    refine w_K (D := D) (fun xX : List TRange => ⟨[(6, .cv (.row 30 (List.map eRange xX)))], h.on []⟩) (fun xX : List TRange => ranges_Make.k1 xX) (fun xX s' hr ht => ?_) ?_
    · obtain ⟨out, rfl⟩ : ∃ z, z = xX := ⟨xX, rfl⟩
      dsimp only [ranges_Make.k1] at hr ht
      refine (w_nT ht ?_)
      refine w_seq ?_
      refine A_region ?_
      refine w_n ?_
      refine w_ret ?_
      obtain rfl := hD _ hr
      exact (A_endR (.fix _ _ (.slot 2) 30 _ (by simp (disch := (apply Apart.mk; decide)) only [go_sem, Nat.reduceAdd, Nat.reduceLT, Nat.reduceMul, Nat.reduceLeDiff, Int.reduceToNat, Int.reduceLT, Int.reduceLE, cF2]; rfl) (A_cut (os' := []) (sl := [(2, .cv (.val (.sl (List.map eRange out)))), (3, .cv (.val (.int .i64 (0 : Int))))]) hwf)) ⟨rfl, on_nil hwf⟩)
    · refine w_block ?_
      refine w_Loop (fun xX : (List TRange × Int) => ⟨[(5, .cv (.row 30 (List.map eRange l1))), (6, .cv (.row 30 (List.map eRange xX.1))), (16, .alias (.slot 5)), (17, .cv (.val (.int .i64 (l1.length : Int)))), (18, .cv (.val (.int .i64 xX.2)))], h.on []⟩) hr (A_cut hwf) (fun W1 xX hr => ?_)
      obtain ⟨out1, v⟩ := xX
      dsimp only [ranges_Make.b1] at hr
      refine w_seq ?_
      refine A_region ?_
      refine w_n ?_
      refine w_seq ?_
      refine A_condH hr (fun cF5 hr => ?_) (fun cF5 hr => ?_)
      · refine w_skip ?_
        refine w_n ?_
        refine w_seq ?_
        refine w_block ?_
        refine w_seq ?_
        obtain ⟨x, nF6, eF7, gF8, hr⟩ := hr.idx
        refine A_region ?_
        refine w_n ?_
        refine A_ops ?_
        refine A_upto 2 ?_
        obtain ⟨r2, eF9, hr⟩ := hr.bind
        refine A_call (out := ?o_eF9) (hp := ?p_eF9) ?c_eF9 ?d_eF9 ?_
        case c_eF9 => exact ranges_put_runs out1 x eF9
        case d_eF9 => rfl
        refine A_ops_end ?_
        refine (w_bn (w_n ?_))
        refine A_region ?_
        exact (w_k ⟨(r2, (IntKind.i64.wrap (v + (1 : Int)))), hr, (A_cut hwf)⟩)
      · refine w_exit ?_
        exact (w_te (w_te (w_bx (w_k ⟨out1, (hr).map, (A_cut hwf)⟩))))
end Go.Val

/- part HW11 -/
/- scansion/scansionlaw02.awake runs as it is read off. -/
namespace Go.Val
set_option linter.unusedVariables false
set_option linter.unusedSimpArgs false
set_option maxRecDepth 20000
open Go.Proofs
theorem scansionlaw02_awake_runs {h : Heap} {a : Bool} (e : scansionlaw02_awake = some a) :
    Runs CT 11 [] h fun o h' => o = [.cv (.val (.bool a))] ∧ h' = h := by
  refine Runs.start Try.f11 _ Try.func11 rfl (by rw [Try.ntmps11]; simp) (by rfl) (by rfl) (fun hwf hu => ?_)
  obtain ⟨D, hD, hr⟩ : ∃ D : Bool → Prop, (∀ z, D z → z = a) ∧ Holds (scansionlaw02_awake) D := ⟨fun z => z = a, fun _ h => h, Holds.intro e rfl⟩
  dsimp only [scansionlaw02_awake] at hr
  change wpCode _ _ _ _ _ ⟨[], h.on []⟩
  refine w_seq ?_
  refine A_region ?_
  refine w_n ?_
  refine w_seq ?_
  refine A_ops ?_
  refine A_upto 3 ?_
  obtain ⟨r, eF1, hr⟩ := hr.bind
  refine A_call (out := ?o_eF1) (hp := ?p_eF1) ?c_eF1 ?d_eF1 ?_
  case c_eF1 => exact ranges_Make_runs ([(TRange.mk (5 : Int) (7 : Int)), (TRange.mk (1 : Int) (4 : Int))]) eF1
  case d_eF1 => rfl
  refine A_ops_end ?_
  refine w_n ?_
  obtain ⟨v, vF6, hr⟩ := hr.bind
  refine w_joinR (sj := ⟨[(0, .cv (.val (.bool v)))], h.on []⟩) (A_ops ?_) ?_
  · have hr := Holds.intro (D := fun z => z = v) vF6 rfl
    refine A_upto 3 ?_
    rcases hr.ite with ⟨cF2, hr⟩ | ⟨cF2, hr⟩
    · refine A_upto 5 ?_
      rcases hr.ite with ⟨cF3, hr⟩ | ⟨cF3, hr⟩
      · obtain ⟨x, eF4, gF5, hr⟩ := hr.idxK
        refine A_ops_end ?_
        obtain rfl : _ = v := hr
        exact w_k (A_cut hwf)
      · refine A_ops_end ?_
        obtain rfl : _ = v := hr
        exact w_k (A_cut hwf)
    · refine A_ops_end ?_
      obtain rfl : _ = v := hr
      exact w_k (A_cut hwf)
  refine w_ret ?_
  obtain rfl := hD _ hr
  exact (A_endR (A_cut (os' := []) (sl := [(0, .cv (.val (.bool v)))]) hwf) ⟨rfl, on_nil hwf⟩)
end Go.Val

/- part HW10 -/
/- scansion/scansionlaw02.RangesSteps runs as it is read off. -/
namespace Go.Val
set_option linter.unusedVariables false
set_option linter.unusedSimpArgs false
set_option maxRecDepth 20000
open Go.Proofs
theorem scansionlaw02_RangesSteps_runs (l : List TRange) {h : Heap} {a : Bool} (e : scansionlaw02_RangesSteps l = some a) :
    Runs CT 10 [.cv (.val (.sl (List.map eRange l)))] h fun o h' => o = [.cv (.val (.bool a))] ∧ h' = h := by
  refine Runs.start Try.f10 _ Try.func10 rfl (by rw [Try.ntmps10]; simp) (by rfl) (by rfl) (fun hwf hu => ?_)
  obtain ⟨D, hD, hr⟩ : ∃ D : Bool → Prop, (∀ z, D z → z = a) ∧ Holds (scansionlaw02_RangesSteps l) D := ⟨fun z => z = a, fun _ h => h, Holds.intro e rfl⟩
  dsimp only [scansionlaw02_RangesSteps] at hr
  change wpCode _ _ _ _ _ ⟨[(0, .cv (.val (.sl (List.map eRange l))))], h.on []⟩
  refine w_seq ?_
  refine A_region ?_
  refine w_n ?_
  refine w_seq ?_
  refine A_ops ?_
  obtain ⟨r, eF1, hr⟩ := hr.bind
  refine A_call (out := ?o_eF1) (hp := ?p_eF1) ?c_eF1 ?d_eF1 ?_
  case c_eF1 => exact scansionlaw02_awake_runs  eF1
  case d_eF1 => rfl
  refine A_ops_end ?_
  refine w_n ?_
  refine w_seq ?_
  refine A_ops ?_
  refine A_upto 1 ?_
  obtain ⟨r1, eF2, hr⟩ := hr.bind
  refine A_call (out := ?o_eF2) (hp := ?p_eF2) ?c_eF2 ?d_eF2 ?_
  case c_eF2 => exact scansionlaw02_set_runs l eF2
  case d_eF2 => rfl
  refine A_ops_end ?_
  refine w_n ?_
  refine w_seq ?_
  refine w_joinR (sj := ⟨[(3, .cv (.val (.bool r))), (4, .cv (.val (.sl (List.map eRange r1.1)))), (23, .cv (.val (.bool ((!r) || (!r1.2)))))], h.on []⟩) (A_ops ?_) ?_
  · refine A_upto 3 ?_
    rcases Bool.eq_false_or_eq_true (!r) with cF3 | cF3
    · refine A_ops_end ?_
      exact w_k (A_cut hwf)
    · refine A_ops_end ?_
      exact w_k (A_cut hwf)
  refine A_condH hr (fun cF4 hr => ?_) (fun cF4 hr => ?_)
  · refine w_seq ?_
    refine A_region ?_
    refine w_n ?_
    refine w_ret ?_
    obtain rfl := hD _ hr
    exact (w_tr (A_endR (A_cut (os' := []) (sl := [(2, .cv (.val (.bool r)))]) hwf) ⟨rfl, on_nil hwf⟩))
  · refine w_skip ?_
    refine w_n ?_
    refine w_seq ?_
    refine A_region ?_
    refine w_n ?_
    refine w_seq ?_
    refine w_seq ?_
    refine A_region ?_
    refine w_n ?_
    refine w_K (D := D) (fun xX : Int => ⟨[(4, .cv (.val (.sl (List.map eRange r1.1)))), (6, .cv (.val (.int .i64 xX)))], h.on []⟩) (fun xX : Int => scansionlaw02_RangesSteps.k1 r1 xX) (fun xX s' hr ht => ?_) ?_
    · obtain ⟨n, rfl⟩ : ∃ z, z = xX := ⟨xX, rfl⟩
      dsimp only [scansionlaw02_RangesSteps.k1] at hr ht
      refine (w_nT ht ?_)
      refine w_seq ?_
      refine A_ops ?_
      refine A_upto 2 ?_
      obtain ⟨r2, eF5, hr⟩ := hr.bind
      refine A_call (out := ?o_eF5) (hp := ?p_eF5) ?c_eF5 ?d_eF5 ?_
      case c_eF5 => exact ranges_Count_runs r1.1 eF5
      case d_eF5 => rfl
      refine A_ops_end ?_
      refine w_n ?_
      refine w_ret ?_
      obtain rfl := hD _ hr
      exact (A_endR (A_cut (os' := []) (sl := [(2, .cv (.val (.bool (n == r2))))]) hwf) ⟨rfl, on_nil hwf⟩)
    · refine w_block ?_
      refine w_Loop (fun xX : (Int × Int) => ⟨[(4, .cv (.val (.sl (List.map eRange r1.1)))), (6, .cv (.val (.int .i64 xX.1))), (7, .cv (.val (.int .i64 xX.2)))], h.on []⟩) hr (A_cut hwf) (fun W1 xX hr => ?_)
      obtain ⟨n1, i⟩ := xX
      dsimp only [scansionlaw02_RangesSteps.b1] at hr
      refine w_seq ?_
      refine w_seq ?_
      refine A_region ?_
      refine w_n ?_
      refine A_condH hr (fun cF6 hr => ?_) (fun cF6 hr => ?_)
      · refine w_skip ?_
        refine w_n ?_
        refine w_seq ?_
        refine w_block ?_
        refine w_seq ?_
        refine A_ops ?_
        obtain ⟨x, nF7, eF8, gF9, hr⟩ := hr.idx
        refine A_upto 7 ?_
        obtain ⟨r3, eF10, hr⟩ := hr.bind
        refine A_call (out := ?o_eF10) (hp := ?p_eF10) ?c_eF10 ?d_eF10 ?_
        case c_eF10 => exact ranges_Has_runs r1.1 (IntKind.i64.wrap (x.Low - (1 : Int))) eF10
        case d_eF10 => rfl
        refine A_ops_end ?_
        refine w_n ?_
        refine w_seq ?_
        refine A_ops ?_
        refine A_upto 7 ?_
        obtain ⟨r4, eF11, hr⟩ := hr.bind
        refine A_call (out := ?o_eF11) (hp := ?p_eF11) ?c_eF11 ?d_eF11 ?_
        case c_eF11 => exact ranges_Has_runs r1.1 (IntKind.i64.wrap (x.High + (1 : Int))) eF11
        case d_eF11 => rfl
        refine A_ops_end ?_
        refine w_n ?_
        refine w_seq ?_
        refine A_ops ?_
        refine A_upto 2 ?_
        obtain ⟨r5, eF12, hr⟩ := hr.bind
        refine A_call (out := ?o_eF12) (hp := ?p_eF12) ?c_eF12 ?d_eF12 ?_
        case c_eF12 => exact ranges_Nth_runs r1.1 n1 eF12
        case d_eF12 => rfl
        refine A_ops_end ?_
        refine w_n ?_
        refine w_seq ?_
        refine w_joinR (sj := ⟨[(4, .cv (.val (.sl (List.map eRange r1.1)))), (6, .cv (.val (.int .i64 n1))), (7, .cv (.val (.int .i64 i))), (69, .cv (.val (.bool (r3 || (r4 || ((r5.2 != (0 : Int)) || (r5.1 != x.Low)))))))], h.on []⟩) (A_ops ?_) ?_
        · refine A_upto 2 ?_
          rcases Bool.eq_false_or_eq_true r3 with cF13 | cF13
          · refine A_ops_end ?_
            exact w_k (A_cut hwf)
          · refine A_upto 3 ?_
            rcases Bool.eq_false_or_eq_true r4 with cF14 | cF14
            · refine A_ops_end ?_
              exact w_k (A_cut hwf)
            · refine A_upto 4 ?_
              rcases Bool.eq_false_or_eq_true (r5.2 != (0 : Int)) with cF15 | cF15
              · refine A_ops_end ?_
                exact w_k (A_cut hwf)
              · refine A_ops_end ?_
                exact w_k (A_cut hwf)
        refine A_condH hr (fun cF16 hr => ?_) (fun cF16 hr => ?_)
        · refine w_seq ?_
          refine A_region ?_
          refine w_n ?_
          refine w_ret ?_
          obtain rfl := hD _ hr
          exact (w_tr (w_br (w_tr (w_tr (w_br (w_tr (w_tr (A_endR (A_cut (os' := []) (sl := [(2, .cv (.val (.bool false)))]) hwf) ⟨rfl, on_nil hwf⟩))))))))
        · refine w_skip ?_
          refine w_n ?_
          refine w_drawn [0, 1, 2, 3, 4, 5, 6, 7, 8, 9, 10, 11, 12, 13, 14] (by rfl) ?_
          refine p_run (l := [0, 1, 2, 3, 4, 5, 6, 7, 8, 9, 10, 11, 12, 13]) (pend' := [13, 12, 11, 10, 9, 8, 7, 6, 5, 4, 3, 2, 1, 0]) (by simp (disch := (apply Apart.mk; decide)) only [go_sem, Nat.reduceAdd, Nat.reduceLT, Nat.reduceMul, Nat.reduceLeDiff, Int.reduceToNat, Int.reduceLT, Int.reduceLE, nF7, eF8, gF9]; rfl) rfl ?_
          refine p_op (pend' := []) rfl (by simp (disch := (apply Apart.mk; decide)) only [go_sem, Nat.reduceAdd, Nat.reduceLT, Nat.reduceMul, Nat.reduceLeDiff, Int.reduceToNat, Int.reduceLT, Int.reduceLE, nF7, eF8, gF9]) (by simp (disch := (apply Apart.mk; decide)) only [go_sem, Nat.reduceAdd, Nat.reduceLT, Nat.reduceMul, Nat.reduceLeDiff, Int.reduceToNat, Int.reduceLT, Int.reduceLE, nF7, eF8, gF9]; rfl) (by rfl) ?_
          refine p_end (by simp (disch := (apply Apart.mk; decide)) only [go_sem, Nat.reduceAdd, Nat.reduceLT, Nat.reduceMul, Nat.reduceLeDiff, Int.reduceToNat, Int.reduceLT, Int.reduceLE, nF7, eF8, gF9, nF7, eF8, gF9]) ?_
          refine (w_bn (w_n ?_))
          refine A_region ?_
          exact (w_k ⟨((IntKind.i64.wrap ((IntKind.i64.wrap ((IntKind.i64.wrap (n1 + x.High)) - x.Low)) + (1 : Int))), (IntKind.i64.wrap (i + (1 : Int)))), hr, (A_cut hwf)⟩)
      · refine w_exit ?_
        exact (w_te (w_te (w_bx (w_k ⟨n1, (hr).map, (A_cut hwf)⟩))))
end Go.Val

/- part P1 -/
/- Plain lemmas: loops that are read off. -/
namespace Go.Val
set_option linter.unusedVariables false

theorem w64 {n : Int} (h1 : -9223372036854775808 ≤ n) (h2 : n ≤ 9223372036854775807) : IntKind.i64.wrap n = n := by rw [IntKind.wrap_i64]; omega
theorem w64s {i : Nat} (h : i < 9223372036854775807) : IntKind.i64.wrap ((i : Int) + 1) = ((i + 1 : Nat) : Int) := by rw [w64 (by omega) (by omega)]; omega
theorem idx_nat {α : Type} {xs : List α} {i : Nat} : idx xs (i : Int) = xs[i]? := by
  unfold idx; rw [if_neg (by omega)]; simp
theorem room_ok {sz n : Nat} (h : n * sz ≤ 140737488355328) : room sz n = some () := by
  unfold room roomOf; rw [if_pos h]
/-- Rounds that go on, one by one. -/
theorem Loop_run {σ ρ : Type} {b : σ → Option (Step σ ρ)} (st : Nat → σ) {i n : Nat} (hin : i ≤ n) (h : ∀ j, i ≤ j → j < n → b (st j) = some (.next (st (j + 1)))) : Loop b (st i) = Loop b (st n) := by
  induction n with
  | zero => obtain rfl : i = 0 := by omega
            rfl
  | succ n ih =>
    by_cases e : i = n + 1
    · rw [e]
    · rw [ih (by omega) fun j h1 h2 => h j h1 (by omega)]
      exact Loop_next (h n (by omega) (by omega))
theorem Loop_int {ρ : Type} {b : Int → Option (Step Int ρ)} {i n : Nat} (hin : i ≤ n) (h : ∀ j : Nat, i ≤ j → j < n → b j = some (.next ((j + 1 : Nat) : Int))) : Loop b (i : Int) = Loop b (n : Int) := Loop_run (fun j : Nat => (j : Int)) hin h
/-- A loop's end. -/
theorem Loop_end {σ ρ : Type} {b : σ → Option (Step σ ρ)} {s : σ} {R : Option ρ} (h : b s = R.map Step.done) : Loop b s = R := by
  cases R with
  | some r => exact Loop_done h
  | none =>
    apply Option.ext_some
    · intro r hr
      obtain ⟨n, hn⟩ := Loop_get hr
      cases n with
      | zero => simp [rounds] at hn
      | succ n => simp [rounds, h] at hn
    · intro r hr; cases hr
open Classical in
/-- A loop that looks for what is bad. -/
theorem Loop_all {ρ : Type} {b : Int → Option (Step Int ρ)} (P : Nat → Prop) {n : Nat} {r R : ρ} (hg : ∀ j, j < n → P j → b (j : Int) = some (.next ((j + 1 : Nat) : Int))) (hb : ∀ j, j < n → ¬ P j → b (j : Int) = some (.done r)) (he : b (n : Int) = some (.done R)) :
    ∀ (d i : Nat), i + d = n → Loop b (i : Int) = if ∀ j, i ≤ j → j < n → P j then some R else some r := by
  intro d
  induction d with
  | zero =>
    intro i hi
    obtain rfl : i = n := by omega
    rw [if_pos (fun j h1 h2 => by omega)]
    exact Loop_done he
  | succ d ih =>
    intro i hi
    by_cases hp : P i
    · rw [Loop_next (hg i (by omega) hp), ih (i + 1) (by omega)]
      have : (∀ j, i + 1 ≤ j → j < n → P j) ↔ ∀ j, i ≤ j → j < n → P j := by
        constructor
        · intro h j h1 h2
          by_cases e : j = i
          · rw [e]; exact hp
          · exact h j (by omega) h2
        · intro h j h1 h2; exact h j (by omega) h2
      simp only [this]
    · rw [Loop_done (hb i (by omega) hp), if_neg (fun h => hp (h i (Nat.le_refl _) (by omega)))]
theorem Loop_all0 {ρ : Type} {b : Int → Option (Step Int ρ)} (P : Nat → Prop) (n : Nat) {r R : ρ} (hg : ∀ j, j < n → P j → b (j : Int) = some (.next ((j + 1 : Nat) : Int))) (hb : ∀ j, j < n → ¬ P j → b (j : Int) = some (.done r)) (he : b (n : Int) = some (.done R)) :
    ((∀ j, j < n → P j) → Loop b 0 = some R) ∧ ((¬ ∀ j, j < n → P j) → Loop b 0 = some r) := by
  have := Loop_all P hg hb he n 0 (by omega)
  exact ⟨fun h => by rw [if_pos (fun j _ hj => h j hj)] at this; exact this, fun h => by rw [if_neg (fun h' => h fun j hj => h' j (Nat.zero_le _) hj)] at this; exact this⟩
end Go.Val

/- part Q1 -/
/- Plain lemmas: ranges, and the one list of ranges that a set has. -/
namespace Go.Val
set_option linter.unusedVariables false
/-- A loop with an end: what is known at its head, what grows less, what is known of its end. -/
theorem Loop_spec {σ ρ : Type} {body : σ → Option (Step σ ρ)} {Q : ρ → Prop} (I : σ → Prop) (μ : σ → Nat)
    (h : ∀ s, I s → (∃ s', body s = some (.next s') ∧ I s' ∧ μ s' < μ s) ∨ (∃ r, body s = some (.done r) ∧ Q r)) : ∀ s, I s → ∃ r, Loop body s = some r ∧ Q r := by
  have key : ∀ (n : Nat) (s : σ), μ s = n → I s → ∃ r, Loop body s = some r ∧ Q r := by
    intro n
    induction n using Nat.strongRecOn with
    | _ n ih =>
      intro s hn hs
      rcases h s hs with ⟨s', h1, h2, h3⟩ | ⟨r, h1, h2⟩
      · rw [Loop_next h1]
        exact ih _ (by omega) s' rfl h2
      · exact ⟨r, Loop_done h1, h2⟩
  intro s hs
  exact key _ s rfl hs

/-- A number is in one of the ranges. -/
def In (a : List TRange) (r : Int) : Prop := ∃ x ∈ a, x.Low ≤ r ∧ r ≤ x.High
def Ok (x : TRange) : Prop := 0 ≤ x.Low ∧ x.Low ≤ x.High ∧ x.High ≤ 1114111
/-- Ranges that rise and don't touch. -/
def Norm (a : List TRange) : Prop := (∀ x ∈ a, Ok x) ∧ a.Pairwise (fun x y => x.High + 1 < y.Low)
theorem In_nil {r : Int} : ¬ In [] r := by rintro ⟨x, h, _⟩; cases h
theorem In_cons {x : TRange} {l : List TRange} {r : Int} : In (x :: l) r ↔ (x.Low ≤ r ∧ r ≤ x.High) ∨ In l r := by
  simp only [In, List.mem_cons]
  constructor
  · rintro ⟨y, rfl | h, hy⟩
    · exact .inl hy
    · exact .inr ⟨y, h, hy⟩
  · rintro (h | ⟨y, h, hy⟩)
    · exact ⟨x, .inl rfl, h⟩
    · exact ⟨y, .inr h, hy⟩
theorem In_append {l m : List TRange} {r : Int} : In (l ++ m) r ↔ In l r ∨ In m r := by
  simp only [In, List.mem_append]
  constructor
  · rintro ⟨y, h | h, hy⟩
    · exact .inl ⟨y, h, hy⟩
    · exact .inr ⟨y, h, hy⟩
  · rintro (⟨y, h, hy⟩ | ⟨y, h, hy⟩)
    · exact ⟨y, .inl h, hy⟩
    · exact ⟨y, .inr h, hy⟩
theorem In_one {x : TRange} {r : Int} : In [x] r ↔ x.Low ≤ r ∧ r ≤ x.High := by
  rw [In_cons]
  exact ⟨fun h => h.elim id fun h => absurd h In_nil, .inl⟩
theorem In_perm {l m : List TRange} (h : l.Perm m) {r : Int} : In l r ↔ In m r := by
  simp only [In, h.mem_iff]
theorem Norm_nil : Norm [] := ⟨fun x h => (by cases h), .nil⟩
theorem Norm_cons {x : TRange} {l : List TRange} : Norm (x :: l) ↔ Ok x ∧ (∀ y ∈ l, x.High + 1 < y.Low) ∧ Norm l := by
  simp only [Norm, List.mem_cons, forall_eq_or_imp, List.pairwise_cons]
  constructor
  · rintro ⟨⟨h1, h2⟩, h3, h4⟩; exact ⟨h1, h3, h2, h4⟩
  · rintro ⟨h1, h3, h2, h4⟩; exact ⟨⟨h1, h2⟩, h3, h4⟩
theorem Norm_snoc {x : TRange} {l : List TRange} : Norm (l ++ [x]) ↔ Norm l ∧ Ok x ∧ ∀ y ∈ l, y.High + 1 < x.Low := by
  simp only [Norm, List.mem_append, List.mem_singleton, List.pairwise_append]
  constructor
  · rintro ⟨h1, h2, h3, h4⟩
    exact ⟨⟨fun y hy => h1 y (.inl hy), h2⟩, h1 x (.inr rfl), fun y hy => h4 y hy x rfl⟩
  · rintro ⟨⟨h1, h2⟩, h3, h4⟩
    refine ⟨fun y hy => ?_, h2, List.pairwise_singleton _ _, fun y hy z hz => ?_⟩
    · rcases hy with hy | rfl
      · exact h1 y hy
      · exact h3
    · subst hz; exact h4 y hy
theorem Norm.bound {a : List TRange} (h : Norm a) {r : Int} (hr : In a r) : 0 ≤ r ∧ r ≤ 1114111 := by
  obtain ⟨x, hx, h1, h2⟩ := hr
  have := h.1 x hx
  unfold Ok at this
  omega
theorem In_low {a : List TRange} (h : Norm a) {x : TRange} (hx : x ∈ a) : In a x.Low := ⟨x, hx, Int.le_refl _, (h.1 x hx).2.1⟩
theorem In_high {a : List TRange} (h : Norm a) {x : TRange} (hx : x ∈ a) : In a x.High := ⟨x, hx, (h.1 x hx).2.1, Int.le_refl _⟩
/-- A set has one list of ranges. -/
theorem Norm.unique : ∀ {a b : List TRange}, Norm a → Norm b → (∀ r, In a r ↔ In b r) → a = b
  | [], [], _, _, _ => rfl
  | [], y :: m, _, hb, h => absurd ((h y.Low).2 (In_low hb (by simp))) In_nil
  | x :: l, [], ha, _, h => absurd ((h x.Low).1 (In_low ha (by simp))) In_nil
  | x :: l, y :: m, ha, hb, h => by
    have ha' := Norm_cons.1 ha
    have hb' := Norm_cons.1 hb
    have hxo := ha'.1
    have hyo := hb'.1
    unfold Ok at hxo hyo
    have low : ∀ {x : TRange} {l : List TRange}, Norm (x :: l) → ∀ {r : Int}, In (x :: l) r → x.Low ≤ r := fun {x l} hn {r} hr => by
      have hn' := Norm_cons.1 hn
      have ho := hn'.1
      unfold Ok at ho
      rcases In_cons.1 hr with h | ⟨z, hz, h1, h2⟩
      · exact h.1
      · have := hn'.2.1 z hz; omega
    have next : ∀ {x : TRange} {l : List TRange}, Norm (x :: l) → ¬ In (x :: l) (x.High + 1) := fun {x l} hn hr => by
      have hn' := Norm_cons.1 hn
      rcases In_cons.1 hr with h | ⟨z, hz, h1, h2⟩
      · omega
      · have := hn'.2.1 z hz; omega
    have e1 : x.Low = y.Low := by
      have h1 := low hb ((h x.Low).1 (In_low ha (by simp)))
      have h2 := low ha ((h y.Low).2 (In_low hb (by simp)))
      omega
    have e2 : x.High = y.High := by
      have h1 : ¬ x.High < y.High := fun hlt => next ha ((h _).2 (In_cons.2 (.inl ⟨by omega, by omega⟩)))
      have h2 : ¬ y.High < x.High := fun hlt => next hb ((h _).1 (In_cons.2 (.inl ⟨by omega, by omega⟩)))
      omega
    have e : x = y := by cases x; cases y; simp_all
    subst e
    rw [Norm.unique ha'.2.2 hb'.2.2 fun r => ?_]
    constructor
    · intro hr
      rcases In_cons.1 ((h r).1 (In_cons.2 (.inr hr))) with h1 | h1
      · obtain ⟨z, hz, k1, k2⟩ := hr
        have := ha'.2.1 z hz; omega
      · exact h1
    · intro hr
      rcases In_cons.1 ((h r).2 (In_cons.2 (.inr hr))) with h1 | h1
      · obtain ⟨z, hz, k1, k2⟩ := hr
        have := hb'.2.1 z hz; omega
      · exact h1
theorem mx_ge {a b : Int} : a ≤ mx a b ∧ b ≤ mx a b := by unfold mx; split <;> omega
theorem mx_le {a b c : Int} (h1 : a ≤ c) (h2 : b ≤ c) : mx a b ≤ c := by unfold mx; split <;> omega
theorem mx_or {a b : Int} : mx a b = a ∨ mx a b = b := by unfold mx; split <;> simp
theorem len_pred {n : Nat} (h : n < 9223372036854775807) : IntKind.i64.wrap (((n + 1 : Nat) : Int) - 1) = n := by rw [w64 (by omega) (by omega)]; omega
/-- A range is put behind ranges. -/
theorem put_spec {out : List TRange} {x : TRange} (hn : Norm out) (hx : Ok x) (hl : ∀ y ∈ out, y.Low ≤ x.Low) (hlen : (out.length + 1) * 16 ≤ 140737488355328) :
    ∃ out', ranges_put out x = some out' ∧ Norm out' ∧ (∀ r, In out' r ↔ In out r ∨ (x.Low ≤ r ∧ r ≤ x.High)) ∧ out'.length ≤ out.length + 1 ∧ ∀ y ∈ out', y.Low ≤ x.Low := by
  have hxo := hx
  unfold Ok at hxo
  rcases List.eq_nil_or_concat out with rfl | ⟨init, y, rfl⟩
  · refine ⟨[x], ?_, Norm_snoc (l := []).2 ⟨Norm_nil, hx, fun y h => by cases h⟩, fun r => ?_, by simp, fun y hy => ?_⟩
    · unfold ranges_put
      rw [if_neg (by simp), Option.bind_some, if_neg (by simp), room_ok (by simp), Option.bind_some]; rfl
    · rw [In_one]; exact ⟨.inr, fun h => h.elim (fun h => absurd h In_nil) id⟩
    · simp at hy; subst hy; omega
  · rw [List.concat_eq_append] at *
    have hlen' : (init ++ [y]).length = init.length + 1 := by simp
    obtain ⟨n1, n2, n3⟩ := Norm_snoc.1 hn
    have hyo := n2
    unfold Ok at hyo
    have hyl := hl y (by simp)
    have hi : (init ++ [y])[init.length]? = some y := by simp
    have hbig : init.length < 9223372036854775807 := by rw [hlen'] at hlen; omega
    have hw : IntKind.i64.wrap (((init ++ [y]).length : Int) - 1) = (init.length : Int) := by rw [hlen']; exact len_pred hbig
    have hcond : (if (decide (((init ++ [y]).length : Int) > (0 : Int))) then
      (idx (init ++ [y]) (IntKind.i64.wrap (((init ++ [y]).length : Int) - (1 : Int)))).bind fun x1 =>
      some (decide (x.Low ≤ (IntKind.i64.wrap (x1.High + (1 : Int)))))
    else
      some false) = some (decide (x.Low ≤ y.High + 1)) := by
      rw [if_pos (by simp), hw, idx_nat, hi, Option.bind_some, w64 (by omega) (by omega)]
    by_cases hc : x.Low ≤ y.High + 1
    · refine ⟨init ++ [⟨y.Low, mx y.High x.High⟩], ?_, Norm_snoc.2 ⟨n1, ⟨(show 0 ≤ y.Low by omega), ?_, mx_le (by omega) (by omega)⟩, n3⟩, fun r => ?_, by simp, fun z hz => ?_⟩
      · unfold ranges_put
        rw [hcond, Option.bind_some, if_pos (by simpa using hc), hw, idx_nat, hi, Option.bind_some]
        try simp
      · have := (mx_ge (a := y.High) (b := x.High)).1
        show y.Low ≤ mx y.High x.High
        omega
      · rw [In_append, In_append, In_one, In_one]
        have h1 := mx_ge (a := y.High) (b := x.High)
        have h2 := mx_or (a := y.High) (b := x.High)
        show In init r ∨ (y.Low ≤ r ∧ r ≤ mx y.High x.High) ↔ (In init r ∨ (y.Low ≤ r ∧ r ≤ y.High)) ∨ (x.Low ≤ r ∧ r ≤ x.High)
        constructor
        · rintro (h | ⟨h3, h4⟩)
          · exact .inl (.inl h)
          · by_cases h5 : r ≤ y.High
            · exact .inl (.inr ⟨h3, h5⟩)
            · exact .inr ⟨by omega, by omega⟩
        · rintro ((h | ⟨h3, h4⟩) | ⟨h3, h4⟩)
          · exact .inl h
          · exact .inr ⟨h3, by omega⟩
          · exact .inr ⟨by omega, by omega⟩
      · rcases List.mem_append.1 hz with hz | hz
        · exact hl z (by simp [hz])
        · simp at hz; subst hz; exact hyl
    · refine ⟨init ++ [y] ++ [x], ?_, Norm_snoc.2 ⟨hn, hx, fun z hz => ?_⟩, fun r => ?_, by simp, fun z hz => ?_⟩
      · unfold ranges_put
        rw [hcond, Option.bind_some, if_neg (by simpa using hc), room_ok hlen, Option.bind_some]
      · rcases List.mem_append.1 hz with hz | hz
        · have := n3 z hz; omega
        · simp at hz; subst hz; omega
      · rw [In_append, In_one]
      · rcases List.mem_append.1 hz with hz | hz
        · exact hl z hz
        · simp at hz; subst hz; omega
end Go.Val

/- part Q2 -/
/- Plain lemmas: Make of ranges. -/
namespace Go.Val
set_option linter.unusedVariables false
theorem Contains_eq {l : List TRange} {f : TRange → Option Bool} {g : TRange → Bool} (hf : ∀ x ∈ l, f x = some (g x)) (hl : l.length < 9223372036854775807) : slices_ContainsFunc_api_Range_api_Range l f = some (l.any g) := by
  obtain ⟨r, h1, h2⟩ := Loop_spec (body := slices_IndexFunc_api_Range_api_Range.b1 l f) (Q := fun r => decide (r ≥ (0 : Int)) = l.any g) (fun v => ∃ k : Nat, v = k ∧ k ≤ l.length ∧ ∀ j, j < k → ∀ x, l[j]? = some x → g x = false) (fun v => l.length - v.toNat) (fun s ⟨k, hk, hkl, hall⟩ => by
    subst hk
    by_cases h : k < l.length
    · have hx : l[k]? = some l[k] := List.getElem?_eq_getElem h
      cases hg : g l[k] with
      | true =>
        right
        refine ⟨(k : Int), ?_, ?_⟩
        · rw [slices_IndexFunc_api_Range_api_Range.b1, if_pos (by simpa using h), idx_nat, hx, Option.bind_some, hf _ (List.getElem_mem h), Option.bind_some, hg, if_pos rfl]
        · rw [decide_eq_true (by omega)]; symm; rw [List.any_eq_true]; exact ⟨_, List.getElem_mem h, hg⟩
      | false =>
        left
        refine ⟨((k + 1 : Nat) : Int), ?_, ⟨k + 1, rfl, h, fun j hj x hx' => ?_⟩, by omega⟩
        · rw [slices_IndexFunc_api_Range_api_Range.b1, if_pos (by simpa using h), idx_nat, hx, Option.bind_some, hf _ (List.getElem_mem h), Option.bind_some, hg, if_neg (by simp), w64s (by omega)]
        · by_cases e : j = k
          · subst e; rw [hx] at hx'; cases hx'; exact hg
          · exact hall j (by omega) x hx'
    · right
      obtain rfl : k = l.length := by omega
      refine ⟨-1, ?_, ?_⟩
      · rw [slices_IndexFunc_api_Range_api_Range.b1, if_neg (by simp)]; rfl
      · rw [decide_eq_false (by omega)]; symm; rw [List.any_eq_false]
        intro x hx
        obtain ⟨j, hj, rfl⟩ := List.getElem_of_mem hx
        simp [hall j hj _ (List.getElem?_eq_getElem hj)]) (0 : Int) ⟨0, rfl, Nat.zero_le _, fun j hj => absurd hj (by omega)⟩
  unfold slices_ContainsFunc_api_Range_api_Range slices_IndexFunc_api_Range_api_Range
  rw [h1, Option.bind_some, h2]
theorem swoL : Go.Sort.SWO ltR where
  irrefl x := by simp [ltR]
  trans x y z h1 h2 := by simp [ltR] at *; omega
  ntrans x y z h1 h2 := by simp [ltR] at *; omega
theorem sortR_spec {l : List TRange} (h : l.length ≤ 140737488355328) : ∃ l', sortR l = some l' ∧ l'.Perm l ∧ l'.Pairwise (fun x y => x.Low ≤ y.Low) := by
  unfold sortR
  rw [if_pos (show l.length ≤ roomOf from h)]
  obtain ⟨⟨h1, _, h2⟩, h3⟩ := Go.Sort.pdq_sorts ltR swoL l.toArray 0 l.length (Go.Lib.bitLen l.length) true true (Nat.zero_le _) (by simp) (Or.inl rfl)
  generalize Go.Sort.pdq ltR l.toArray 0 l.length (Go.Lib.bitLen l.length) true true = d at h1 h2 h3 ⊢
  have hs : d.size = l.length := by simpa using h1
  refine ⟨_, rfl, ?_, ?_⟩
  · have e1 : d.extract 0 l.length = d := by rw [← hs]; simp
    have e2 : l.toArray.extract 0 l.length = l.toArray := by simp
    rw [e1, e2] at h2
    simpa using h2
  · rw [List.pairwise_iff_getElem]
    intro i j hi hj hij
    have := h3 i j (Nat.zero_le _) hij (by simpa [hs] using hj)
    rw [getElem!_pos d j (by simpa using hj), getElem!_pos d i (by simpa using hi)] at this
    simp only [ltR, decide_eq_false_iff_not] at this
    simp only [Array.getElem_toList]
    omega
theorem Clone_eq {l : List TRange} (h : l.length * 16 ≤ 140737488355328) : slices_Clone_api_Range_api_Range l = some l := by
  unfold slices_Clone_api_Range_api_Range
  rw [room_ok (by omega)]; rfl
instance (x : TRange) : Decidable (Ok x) := inferInstanceAs (Decidable (_ ∧ _ ∧ _))
theorem Make_1_eq (x : TRange) : ranges_Make_1 x = some (!decide (Ok x)) := by
  unfold ranges_Make_1 Ok
  congr 1
  by_cases h1 : x.Low < 0
  · have : ¬ (0 ≤ x.Low ∧ x.Low ≤ x.High ∧ x.High ≤ 1114111) := by omega
    simp [h1, this]
  · by_cases h2 : x.High > 1114111
    · have : ¬ (0 ≤ x.Low ∧ x.Low ≤ x.High ∧ x.High ≤ 1114111) := by omega
      simp [h2, this]
    · by_cases h3 : x.Low > x.High
      · have : ¬ (0 ≤ x.Low ∧ x.Low ≤ x.High ∧ x.High ≤ 1114111) := by omega
        simp [h3, this]
      · have : 0 ≤ x.Low ∧ x.Low ≤ x.High ∧ x.High ≤ 1114111 := by omega
        simp [h1, h2, h3, this]
theorem any_bad {l : List TRange} : (l.any fun x => !decide (Ok x)) = !decide (∀ x ∈ l, Ok x) := by
  rw [Bool.eq_iff_iff]
  simp
theorem take_snoc2 {l : List TRange} {s : Nat} {x : TRange} (h : l[s]? = some x) : l.take (s + 1) = l.take s ++ [x] := by
  rw [List.take_add_one, h]; rfl
theorem Make_loop {l1 : List TRange} (hok : ∀ x ∈ l1, Ok x) (hs : l1.Pairwise (fun x y => x.Low ≤ y.Low)) (hl : l1.length * 16 ≤ 140737488355328) :
    ∃ r, Loop (ranges_Make.b1 l1) ([], (0 : Int)) = some r ∧ r.2 = 0 ∧ Norm r.1 ∧ (∀ t, In r.1 t ↔ In l1 t) ∧ r.1.length ≤ l1.length := by
  refine Loop_spec (body := ranges_Make.b1 l1) (fun p => ∃ k : Nat, p.2 = k ∧ k ≤ l1.length ∧ Norm p.1 ∧ (∀ t, In p.1 t ↔ In (l1.take k) t) ∧ p.1.length ≤ k ∧ ∀ y ∈ p.1, ∀ z ∈ l1.drop k, y.Low ≤ z.Low) (fun p => l1.length - p.2.toNat) (fun p hp => ?_) _
    ⟨0, rfl, Nat.zero_le _, Norm_nil, fun t => by simp, Nat.le_refl _, fun y hy => by cases hy⟩
  obtain ⟨out, v⟩ := p
  obtain ⟨k, hk, hkl, hn, hin, hlen, hlow⟩ := hp
  simp only at hk hn hin hlen hlow
  subst hk
  by_cases h : k < l1.length
  · left
    have hx : l1[k]? = some l1[k] := List.getElem?_eq_getElem h
    have hd : l1.drop k = l1[k] :: l1.drop (k + 1) := List.drop_eq_getElem_cons h
    obtain ⟨out', g1, g2, g3, g4, g5⟩ := put_spec (x := l1[k]) hn (hok _ (List.getElem_mem h)) (fun y hy => hlow y hy _ (by rw [hd]; exact List.mem_cons_self)) (by omega)
    refine ⟨(out', ((k + 1 : Nat) : Int)), ?_, ⟨k + 1, rfl, h, g2, fun t => ?_, by simp only; omega, fun y hy z hz => ?_⟩, by simp only; omega⟩
    · simp only [ranges_Make.b1]
      rw [if_pos (by simpa using h), idx_nat, hx, Option.bind_some, g1, Option.bind_some, w64s (by omega)]
    · simp only
      rw [g3, hin, take_snoc2 hx, In_append, In_one]
    · have h1 := g5 y hy
      rw [List.pairwise_iff_getElem] at hs
      obtain ⟨j, hj, rfl⟩ := List.getElem_of_mem hz
      simp only [List.getElem_drop]
      have := hs k (k + 1 + j) h (by simp at hj; omega) (by omega)
      omega
  · right
    obtain rfl : k = l1.length := by omega
    refine ⟨(out, 0), ?_, rfl, hn, fun t => ?_, hlen⟩
    · simp only [ranges_Make.b1]
      rw [if_neg (by simp)]; rfl
    · simp only
      rw [hin, List.take_length]
/-- The set of ranges. -/
theorem Make_ok {l : List TRange} (hok : ∀ x ∈ l, Ok x) (hl : l.length * 16 ≤ 140737488355328) :
    ∃ out, ranges_Make l = some (out, 0) ∧ Norm out ∧ (∀ t, In out t ↔ In l t) ∧ out.length ≤ l.length := by
  obtain ⟨l1, h1, h2, h3⟩ := sortR_spec (l := l) (by omega)
  obtain ⟨r, g1, g2, g3, g4, g5⟩ := Make_loop (l1 := l1) (fun x hx => hok x (h2.mem_iff.1 hx)) h3 (by rw [h2.length_eq]; exact hl)
  refine ⟨r.1, ?_, g3, fun t => (g4 t).trans (In_perm h2), by rw [← h2.length_eq]; exact g5⟩
  unfold ranges_Make
  rw [Contains_eq (fun x _ => Make_1_eq x) (by omega), Option.bind_some, any_bad, decide_eq_true hok]
  rw [if_neg (by simp), Clone_eq hl, Option.bind_some, h1, Option.bind_some, g1, ← g2]
theorem awake02 : scansionlaw02_awake = some true := by
  obtain ⟨out, h1, h2, h3, _⟩ := Make_ok (l := [⟨5, 7⟩, ⟨1, 4⟩]) (fun x hx => by
    simp at hx
    rcases hx with rfl | rfl <;> (unfold Ok; simp)) (by simp)
  have e : out = [⟨1, 7⟩] := Norm.unique h2 (Norm_snoc (l := []).2 ⟨Norm_nil, ⟨by decide, by decide, by decide⟩, fun y h => by cases h⟩) fun r => by
    rw [h3, In_cons, In_one, In_one]
    show (5 ≤ r ∧ r ≤ 7) ∨ (1 ≤ r ∧ r ≤ 4) ↔ (1 ≤ r ∧ r ≤ 7)
    omega
  subst e
  unfold scansionlaw02_awake
  rw [h1]
  rfl
end Go.Val

/- part Q3 -/
/- Plain lemmas: Has, Count and Nth of ranges. -/
namespace Go.Val
set_option linter.unusedVariables false
theorem Norm.short : ∀ {l : List TRange} {lo : Int}, Norm l → (∀ x ∈ l, lo ≤ x.Low) → (l.length : Int) ≤ max 0 (1114112 - lo)
  | [], lo, _, _ => by simp; omega
  | x :: l, lo, h, hlo => by
    obtain ⟨h1, h2, h3⟩ := Norm_cons.1 h
    unfold Ok at h1
    have := Norm.short h3 (lo := x.High + 2) (fun y hy => by have := h2 y hy; omega)
    have := hlo x (by simp)
    simp only [List.length_cons]
    omega
theorem Norm.len {l : List TRange} (h : Norm l) : l.length ≤ 1114112 := by
  have := h.short (lo := 0) (fun x hx => (h.1 x hx).1)
  omega
theorem Norm.sep : ∀ {a : List TRange}, Norm a → ∀ x ∈ a, ∀ z ∈ a, z = x ∨ z.High + 1 < x.Low ∨ x.High + 1 < z.Low
  | [], _, x, hx, _, _ => by cases hx
  | y :: l, h, x, hx, z, hz => by
    obtain ⟨h1, h2, h3⟩ := Norm_cons.1 h
    rcases List.mem_cons.1 hx with e1 | hx1
    · rcases List.mem_cons.1 hz with e2 | hz1
      · exact .inl (e2.trans e1.symm)
      · rw [e1]; exact .inr (.inr (h2 z hz1))
    · rcases List.mem_cons.1 hz with e2 | hz1
      · rw [e2]; exact .inr (.inl (h2 x hx1))
      · exact Norm.sep h3 x hx1 z hz1
theorem Norm.below {a : List TRange} (h : Norm a) {x : TRange} (hx : x ∈ a) : ¬ In a (x.Low - 1) := by
  rintro ⟨z, hz, h1, h2⟩
  have k1 := h.1 x hx
  have k2 := h.1 z hz
  unfold Ok at k1 k2
  rcases h.sep x hx z hz with e | e | e
  · subst e; omega
  · omega
  · omega
theorem Norm.above {a : List TRange} (h : Norm a) {x : TRange} (hx : x ∈ a) : ¬ In a (x.High + 1) := by
  rintro ⟨z, hz, h1, h2⟩
  have k1 := h.1 x hx
  have k2 := h.1 z hz
  unfold Ok at k1 k2
  rcases h.sep x hx z hz with e | e | e
  · subst e; omega
  · omega
  · omega
theorem Norm.take {a : List TRange} (h : Norm a) (k : Nat) : Norm (a.take k) := ⟨fun x hx => h.1 x (List.mem_of_mem_take hx), h.2.sublist (List.take_sublist _ _)⟩
theorem Norm.drop {a : List TRange} (h : Norm a) (k : Nat) : Norm (a.drop k) := ⟨fun x hx => h.1 x (List.mem_of_mem_drop hx), h.2.sublist (List.drop_sublist _ _)⟩
def hasB (a : List TRange) (r : Int) : Bool := a.any fun x => decide (x.Low ≤ r) && decide (r ≤ x.High)
theorem hasB_iff {a : List TRange} {r : Int} : hasB a r = true ↔ In a r := by
  simp [hasB, In]
theorem hasB_dec {a : List TRange} {r : Int} {p : Prop} [Decidable p] (h : In a r ↔ p) : hasB a r = decide p := by
  rw [Bool.eq_iff_iff, hasB_iff, h]; simp

/-! ### Has -/
theorem half_eq {i j : Nat} (h : i + j < 9223372036854775807) : shR .u64 (IntKind.u64.wrap (IntKind.i64.wrap ((i : Int) + j))) 1 = (((i + j) / 2 : Nat) : Int) := by
  rw [w64 (by omega) (by omega)]
  have : IntKind.u64.wrap ((i : Int) + j) = (i : Int) + j := by simp [IntKind.wrap, IntKind.bits, IntKind.signed]; omega
  rw [this]
  unfold shR
  rw [show (2 : Int) ^ (min (1 : Int).toNat IntKind.u64.bits) = 2 from rfl, Int.fdiv_eq_ediv_of_nonneg _ (by omega)]
  omega
def cmpR (x : TRange) (r : Int) : Int := if x.High < r then -1 else if x.Low > r then 1 else 0
theorem Has_1_eq (x : TRange) (r : Int) : ranges_Has_1 x r = some (cmpR x r) := by
  unfold ranges_Has_1 cmpR
  by_cases h1 : x.High < r
  · simp [h1]
  · by_cases h2 : x.Low > r
    · simp [h1, h2]
    · simp [h1, h2]
theorem Has_eq {a : List TRange} (hn : Norm a) (r : Int) : ranges_Has a r = some (hasB a r) := by
  have hl := hn.len
  have hp := List.pairwise_iff_getElem.1 hn.2
  have ho := hn.1
  obtain ⟨q, h1, h2⟩ := Loop_spec (body := slices_BinarySearchFunc_api_Range_api_Range_int.b1 a r ranges_Has_1) (Q := fun q => q.2 = hasB a r)
    (fun p => ∃ i j : Nat, p.1 = i ∧ p.2 = j ∧ i ≤ j ∧ j ≤ a.length ∧ (∀ k, k < i → ∀ x, a[k]? = some x → x.High < r) ∧ (∀ k, j ≤ k → ∀ x, a[k]? = some x → r ≤ x.High)) (fun p => (p.2 - p.1).toNat) (fun p hp' => by
    obtain ⟨i0, j0⟩ := p
    obtain ⟨i, j, e1, e2, hij, hj, hlo, hhi⟩ := hp'
    simp only at e1 e2
    subst e1; subst e2
    simp only [slices_BinarySearchFunc_api_Range_api_Range_int.b1]
    by_cases h : i < j
    · left
      have hm : (i + j) / 2 < a.length := by omega
      have hx : a[(i + j) / 2]? = some a[(i + j) / 2] := List.getElem?_eq_getElem hm
      rw [if_pos (by simpa using h), half_eq (by omega), Option.bind_some, w64 (by omega) (by omega), idx_nat, hx, Option.bind_some, Has_1_eq, Option.bind_some]
      by_cases hc : a[(i + j) / 2].High < r
      · refine ⟨((((i + j) / 2 + 1 : Nat) : Int), (j : Int)), ?_, ⟨(i + j) / 2 + 1, j, rfl, rfl, by omega, hj, fun k hk x hx' => ?_, hhi⟩, by simp only; omega⟩
        · rw [if_pos (by simp [cmpR, hc]), w64s (by omega)]; rfl
        · by_cases e : k = (i + j) / 2
          · subst e; rw [hx] at hx'; cases hx'; exact hc
          · have hkl : k < a.length := (List.getElem?_eq_some_iff.1 hx').1
            have hkx : a[k] = x := (List.getElem?_eq_some_iff.1 hx').2
            have := hp k ((i + j) / 2) hkl hm (by omega)
            have o1 := ho _ (List.getElem_mem hm)
            unfold Ok at o1
            rw [hkx] at this
            omega
      · refine ⟨((i : Int), (((i + j) / 2 : Nat) : Int)), ?_, ⟨i, (i + j) / 2, rfl, rfl, by omega, by omega, hlo, fun k hk x hx' => ?_⟩, by simp only; omega⟩
        · rw [if_neg (by simp only [cmpR, hc, if_false]; split <;> simp)]; rfl
        · by_cases e : k = (i + j) / 2
          · subst e; rw [hx] at hx'; cases hx'; omega
          · have hkl : k < a.length := (List.getElem?_eq_some_iff.1 hx').1
            have hkx : a[k] = x := (List.getElem?_eq_some_iff.1 hx').2
            have := hp ((i + j) / 2) k hm hkl (by omega)
            have o1 := ho _ (List.getElem_mem hkl)
            unfold Ok at o1
            rw [hkx] at this o1
            omega
    · right
      obtain rfl : i = j := by omega
      rw [if_neg (by simp)]
      unfold slices_BinarySearchFunc_api_Range_api_Range_int.k1
      by_cases hi : i < a.length
      · have hx : a[i]? = some a[i] := List.getElem?_eq_getElem hi
        rw [if_pos (by simpa using hi), idx_nat, hx, Option.bind_some, Has_1_eq, Option.bind_some, Option.bind_some]
        refine ⟨_, rfl, ?_⟩
        simp only
        have o1 := ho _ (List.getElem_mem hi)
        have hh := hhi i (Nat.le_refl _) _ hx
        unfold Ok at o1
        have hin : In a r ↔ a[i].Low ≤ r := by
          constructor
          · rintro ⟨x, hx', k1, k2⟩
            obtain ⟨k, hk, rfl⟩ := List.getElem_of_mem hx'
            by_cases e : k < i
            · have := hlo k e _ (List.getElem?_eq_getElem hk); omega
            · by_cases e2 : k = i
              · subst e2; exact k1
              · have := hp i k hi hk (by omega); omega
          · exact fun hlow => ⟨_, List.getElem_mem hi, hlow, hh⟩
        rw [hasB_dec hin, Bool.eq_iff_iff]
        simp only [cmpR, beq_iff_eq, decide_eq_true_eq]
        rw [if_neg (by omega)]
        split <;> simp <;> omega
      · rw [if_neg (by simpa using hi), Option.bind_some]
        refine ⟨_, rfl, ?_⟩
        simp only
        have hin : ¬ In a r := by
          rintro ⟨x, hx', k1, k2⟩
          obtain ⟨k, hk, rfl⟩ := List.getElem_of_mem hx'
          have := hlo k (by omega) _ (List.getElem?_eq_getElem hk); omega
        symm
        rw [← Bool.not_eq_true, hasB_iff]
        exact hin) ((0 : Int), (a.length : Int)) ⟨0, a.length, rfl, rfl, Nat.zero_le _, Nat.le_refl _, fun k hk => absurd hk (by omega), fun k hk x hx => by
      have := (List.getElem?_eq_some_iff.1 hx).1; omega⟩
  unfold ranges_Has slices_BinarySearchFunc_api_Range_api_Range_int
  rw [h1, Option.bind_some, h2]
/-- The document's Has. -/
theorem refHas_eq {a : List TRange} (hl : a.length < 9223372036854775807) (r : Int) : scansionref02_Has a r = some (hasB a r) := by
  have := Loop_all0 (b := scansionref02_Has.b1 a r) (fun j => ∀ x, a[j]? = some x → ¬ (x.Low ≤ r ∧ r ≤ x.High)) a.length (r := true) (R := false) (fun j hj hp => ?_) (fun j hj hp => ?_) ?_
  · unfold scansionref02_Has
    by_cases h : ∀ j, j < a.length → ∀ x, a[j]? = some x → ¬ (x.Low ≤ r ∧ r ≤ x.High)
    · rw [this.1 h]
      congr 1
      symm
      rw [← Bool.not_eq_true, hasB_iff]
      rintro ⟨x, hx, h1⟩
      obtain ⟨k, hk, rfl⟩ := List.getElem_of_mem hx
      exact h k hk _ (List.getElem?_eq_getElem hk) h1
    · rw [this.2 h]
      congr 1
      symm
      rw [hasB_iff]
      simp only [Classical.not_forall, Classical.not_not] at h
      obtain ⟨j, hj, x, hx, h1⟩ := h
      exact ⟨x, List.mem_of_getElem? hx, h1⟩
  · have hx : a[j]? = some a[j] := List.getElem?_eq_getElem hj
    have h1 := hp _ hx
    rw [scansionref02_Has.b1, if_pos (by simpa using hj), idx_nat, hx, Option.bind_some]
    by_cases h2 : r ≥ a[j].Low
    · rw [if_pos (by simpa using h2), Option.bind_some, if_neg (by simp; omega), w64s (by omega)]
    · rw [if_neg (by simpa using h2), Option.bind_some, if_neg (by simp), w64s (by omega)]
  · have hx : a[j]? = some a[j] := List.getElem?_eq_getElem hj
    have h1 : a[j].Low ≤ r ∧ r ≤ a[j].High := Classical.not_not.1 fun hn => hp fun x hx' => by rw [hx] at hx'; cases hx'; exact hn
    rw [scansionref02_Has.b1, if_pos (by simpa using hj), idx_nat, hx, Option.bind_some, if_pos (by simpa using h1.1), Option.bind_some, if_pos (by simpa using h1.2)]
  · rw [scansionref02_Has.b1, if_neg (by simp)]; rfl

/-! ### Count, Nth -/
def many (x : TRange) : Int := x.High - x.Low + 1
def cnt : List TRange → Int
  | [] => 0
  | x :: l => many x + cnt l
theorem cnt_append : ∀ {l m : List TRange}, cnt (l ++ m) = cnt l + cnt m
  | [], m => by simp [cnt]
  | x :: l, m => by simp only [List.cons_append, cnt, cnt_append (l := l)]; omega
theorem cnt_bound : ∀ {l : List TRange} {lo : Int}, Norm l → (∀ x ∈ l, lo ≤ x.Low) → 0 ≤ cnt l ∧ cnt l ≤ max 0 (1114112 - lo)
  | [], lo, _, _ => by simp [cnt]; omega
  | x :: l, lo, h, hlo => by
    obtain ⟨h1, h2, h3⟩ := Norm_cons.1 h
    unfold Ok at h1
    have := cnt_bound h3 (lo := x.High + 2) (fun y hy => by have := h2 y hy; omega)
    have := hlo x (by simp)
    simp only [cnt, many]
    omega
theorem Norm.cnt {l : List TRange} (h : Norm l) : 0 ≤ cnt l ∧ Val.cnt l ≤ 1114112 := by
  have := cnt_bound h (lo := 0) (fun x hx => (h.1 x hx).1)
  omega
theorem cnt_next {a : List TRange} {k : Nat} (h : k < a.length) : cnt (a.take (k + 1)) = cnt (a.take k) + many a[k] := by
  rw [List.take_add_one, List.getElem?_eq_getElem h, cnt_append]
  simp [cnt]
theorem Count_eq {a : List TRange} (hn : Norm a) : ranges_Count a = some (cnt a) := by
  have hl := hn.len
  unfold ranges_Count
  have := Loop_run (b := ranges_Count.b1 a) (fun k : Nat => (cnt (a.take k), (k : Int))) (i := 0) (n := a.length) (Nat.zero_le _) (fun k _ hk => by
    have hx : a[k]? = some a[k] := List.getElem?_eq_getElem hk
    have o := hn.1 _ (List.getElem_mem hk)
    have c1 := (hn.take k).cnt
    unfold Ok at o
    simp only [ranges_Count.b1]
    rw [if_pos (by simpa using hk), idx_nat, hx, Option.bind_some, cnt_next hk, w64s (by omega), w64 (n := a[k].High - a[k].Low) (by omega) (by omega), w64 (n := a[k].High - a[k].Low + 1) (by omega) (by omega), w64 (by omega) (by omega)]
    rfl)
  have e : Loop (ranges_Count.b1 a) ((0 : Int), (0 : Int)) = Loop (ranges_Count.b1 a) (cnt (a.take a.length), (a.length : Int)) := this
  rw [e, List.take_length]
  apply Loop_end
  simp only [ranges_Count.b1]
  rw [if_neg (by simp)]; rfl
def nthS : List TRange → Int → Option Int
  | [], _ => none
  | x :: l, n => if n < many x then some (x.Low + n) else nthS l (n - many x)
def nthR : Option Int → Int × Int
  | some v => (v, 0)
  | none => (0, 4)
theorem Nth_eq {a : List TRange} (hn : Norm a) {n : Int} (h0 : 0 ≤ n) (h1 : n ≤ 9223372036854775807) : ranges_Nth a n = some (nthR (nthS a n)) := by
  have hl := hn.len
  unfold ranges_Nth
  rw [if_neg (by simp; omega)]
  refine Loop_rule (R := some (nthR (nthS a n))) (fun p : Int × Int => ∃ k : Nat, p.2 = (k : Int) ∧ k ≤ a.length ∧ 0 ≤ p.1 ∧ p.1 ≤ 9223372036854775807 ∧ nthS (a.drop k) p.1 = nthS a n) (fun p => a.length - p.2.toNat) (fun p hp => ?_) _ ⟨0, rfl, Nat.zero_le _, h0, h1, rfl⟩
  obtain ⟨n1, v⟩ := p
  obtain ⟨k, e, hk, h2, h3, h4⟩ := hp
  simp only at e h2 h3 h4
  subst e
  simp only [ranges_Nth.b1]
  by_cases h : k < a.length
  · have hx : a[k]? = some a[k] := List.getElem?_eq_getElem h
    have o := hn.1 _ (List.getElem_mem h)
    unfold Ok at o
    rw [List.drop_eq_getElem_cons h, nthS] at h4
    rw [if_pos (by simpa using h), idx_nat, hx, Option.bind_some, w64 (n := a[k].High - a[k].Low) (by omega) (by omega), w64 (n := a[k].High - a[k].Low + 1) (by omega) (by omega)]
    by_cases hc : n1 < many a[k]
    · right
      rw [if_pos hc] at h4
      refine ⟨_, rfl, ?_⟩
      have hc' := hc
      unfold many at hc'
      rw [if_pos (by simpa [many] using hc), w64 (by omega) (by omega), ← h4]
      rfl
    · left
      rw [if_neg hc] at h4
      have hc' := hc
      unfold many at hc'
      refine ⟨(n1 - many a[k], ((k + 1 : Nat) : Int)), ?_, ⟨k + 1, rfl, h, ?_, ?_, h4⟩, by simp only; omega⟩
      · rw [if_neg (by simpa [many] using hc), w64s (by omega), w64 (by omega) (by omega)]; rfl
      · simp only; omega
      · simp only [many]; omega
  · right
    obtain rfl : k = a.length := by omega
    rw [List.drop_length] at h4
    refine ⟨_, rfl, ?_⟩
    rw [if_neg (by simp), ← h4]; rfl
theorem nth_at : ∀ {a : List TRange} {k : Nat}, Norm a → (h : k < a.length) → nthS a (cnt (a.take k)) = some a[k].Low
  | [], k, _, h => absurd h (by simp)
  | x :: l, 0, hn, h => by
    obtain ⟨h1, h2, h3⟩ := Norm_cons.1 hn
    unfold Ok at h1
    simp only [List.take_zero, cnt, nthS]
    rw [if_pos (by unfold many; omega)]
    simp
  | x :: l, k + 1, hn, h => by
    obtain ⟨h1, h2, h3⟩ := Norm_cons.1 hn
    have c := (h3.take k).cnt
    simp only [List.take_succ_cons, cnt, nthS]
    rw [if_neg (by omega), show many x + cnt (l.take k) - many x = cnt (l.take k) by omega, nth_at h3 (by simpa using h)]
    simp
end Go.Val

/- part Q4 -/
/- Plain lemmas: the document's sets (edges, pick). -/
namespace Go.Val
set_option linter.unusedVariables false
theorem take_snocR {α : Type} {l : List α} {s : Nat} {x : α} (h : l[s]? = some x) : l.take (s + 1) = l.take s ++ [x] := by
  rw [List.take_add_one, h]; rfl
theorem rising_spec {l : List Int} {n : Int} (hp : l.Pairwise (· < ·)) (hl : (l.length + 1) * 8 ≤ 140737488355328) :
    ∃ l', scansionref02_rising l n = some l' ∧ l'.Pairwise (· < ·) ∧ (∀ x, x ∈ l' ↔ x ∈ l ∨ x = n) ∧ l'.length ≤ l.length + 1 := by
  refine Loop_spec (body := scansionref02_rising.b1 l n) (fun v : Int => ∃ k : Nat, v = (k : Int) ∧ k ≤ l.length ∧ ∀ j, j < k → ∀ x, l[j]? = some x → x < n) (fun v => l.length - v.toNat) (fun s hs => ?_) _ ⟨0, rfl, Nat.zero_le _, fun j hj => absurd hj (by omega)⟩
  obtain ⟨k, rfl, hk, hlo⟩ := hs
  simp only [scansionref02_rising.b1]
  have hpw := List.pairwise_iff_getElem.1 hp
  by_cases hc : ∃ x, l[k]? = some x ∧ x < n
  · left
    obtain ⟨x, hx, hxn⟩ := hc
    have hkl : k < l.length := (List.getElem?_eq_some_iff.1 hx).1
    refine ⟨((k + 1 : Nat) : Int), ?_, ⟨k + 1, rfl, hkl, fun j hj y hy => ?_⟩, by omega⟩
    · rw [if_pos (by simpa using hkl), idx_nat, hx, Option.bind_some, Option.bind_some, if_pos (by simpa using hxn), w64s (by omega)]
    · by_cases e : j = k
      · subst e; rw [hx] at hy; cases hy; exact hxn
      · exact hlo j (by omega) y hy
  · right
    have hge : ∀ x, l[k]? = some x → n ≤ x := fun x hx => by
      rcases Int.lt_or_le x n with h | h
      · exact absurd ⟨x, hx, h⟩ hc
      · exact h
    have hv : ((if (decide (((k : Nat) : Int) < (l.length : Int))) then
        (idx l ((k : Nat) : Int)).bind fun n2 =>
        some (decide (n2 < n))
      else
        some false)) = some false := by
      by_cases hkl : k < l.length
      · have hx : l[k]? = some l[k] := List.getElem?_eq_getElem hkl
        rw [if_pos (by simpa using hkl), idx_nat, hx, Option.bind_some]
        have := hge _ hx
        rw [decide_eq_false (by omega)]
      · rw [if_neg (by simpa using hkl)]
    rw [hv, Option.bind_some, if_neg (by simp)]
    unfold scansionref02_rising.k1
    by_cases he : l[k]? = some n
    · have hkl : k < l.length := (List.getElem?_eq_some_iff.1 he).1
      refine ⟨l, ?_, hp, fun x => ⟨.inl, fun h => h.elim id fun e => by subst e; exact List.mem_of_getElem? he⟩, by omega⟩
      rw [if_pos (by simpa using hkl), idx_nat, he, Option.bind_some, Option.bind_some, if_pos (by simp)]; rfl
    · have hv2 : ((if (decide (((k : Nat) : Int) < (l.length : Int))) then
          (idx l ((k : Nat) : Int)).bind fun n1 =>
          some (n1 == n)
        else
          some false)) = some false := by
        by_cases hkl : k < l.length
        · have hx : l[k]? = some l[k] := List.getElem?_eq_getElem hkl
          rw [if_pos (by simpa using hkl), idx_nat, hx, Option.bind_some]
          rw [hx] at he
          congr 1
          rw [beq_eq_false_iff_ne]
          exact fun e => he (by rw [e])
        · rw [if_neg (by simpa using hkl)]
      have hgt : ∀ j, k ≤ j → ∀ x, l[j]? = some x → n < x := fun j hj x hx => by
        have hjl : j < l.length := (List.getElem?_eq_some_iff.1 hx).1
        have hxe : l[j] = x := (List.getElem?_eq_some_iff.1 hx).2
        have hkl : k < l.length := by omega
        have h1 := hge _ (List.getElem?_eq_getElem hkl)
        have h2 : l[k] ≠ n := fun e => he (by rw [List.getElem?_eq_getElem hkl, e])
        by_cases e : j = k
        · subst e; rw [hxe] at h1 h2; omega
        · have := hpw k j hkl hjl (by omega)
          rw [hxe] at this; omega
      have hch : cutH l (k : Int) = some (l.take k) := by unfold cutH; rw [if_pos ⟨by omega, by omega⟩]; simp
      have hcl : cutL l (k : Int) = some (l.drop k) := by unfold cutL; rw [if_pos ⟨by omega, by omega⟩]; simp
      have ht : (l.take k).length = k := by simp; omega
      have hd : (l.drop k).length = l.length - k := by simp
      refine ⟨l.take k ++ [n] ++ l.drop k, ?_, ?_, fun x => ?_, by simp; omega⟩
      · rw [hv2, Option.bind_some, if_neg (by simp), hch, Option.bind_some, show (Int.toNat (k : Int)) = k by simp, room_ok (by omega), Option.bind_some, room_ok (by omega), Option.bind_some, hcl, Option.bind_some, room_ok (by omega), Option.bind_some]; rfl
      · rw [List.pairwise_append, List.pairwise_append]
        refine ⟨⟨hp.sublist (List.take_sublist _ _), List.pairwise_singleton _ _, fun x hx y hy => ?_⟩, hp.sublist (List.drop_sublist _ _), fun x hx y hy => ?_⟩
        · simp at hy; subst hy
          obtain ⟨j, hj, rfl⟩ := List.getElem_of_mem hx
          rw [List.getElem_take]
          exact hlo j (by omega) _ (List.getElem?_eq_getElem _)
        · obtain ⟨j, hj, rfl⟩ := List.getElem_of_mem hy
          rw [List.getElem_drop]
          have hyn := hgt (k + j) (by omega) _ (List.getElem?_eq_getElem (by omega))
          rcases List.mem_append.1 hx with hx | hx
          · obtain ⟨i, hi, rfl⟩ := List.getElem_of_mem hx
            rw [List.getElem_take]
            have := hlo i (by omega) _ (List.getElem?_eq_getElem (by omega))
            omega
          · simp at hx; subst hx; exact hyn
      · have hm : x ∈ l ↔ x ∈ l.take k ∨ x ∈ l.drop k := by
          conv => lhs; rw [← List.take_append_drop k l]
          exact List.mem_append
        simp only [List.mem_append, List.mem_singleton, hm]
        constructor
        · rintro ((h | h) | h)
          · exact .inl (.inl h)
          · exact .inr h
          · exact .inl (.inr h)
        · rintro ((h | h) | h)
          · exact .inl (.inl h)
          · exact .inr h
          · exact .inl (.inr h)
/-- Where something may begin. -/
def Edge (m : List TRange) (e : Int) : Prop := e = 0 ∨ ∃ x ∈ m, e = x.Low ∨ (x.High < 1114111 ∧ e = x.High + 1)
theorem Edge_snoc {m : List TRange} {x : TRange} {e : Int} : Edge (m ++ [x]) e ↔ (Edge m e ∨ e = x.Low) ∨ (x.High < 1114111 ∧ e = x.High + 1) := by
  unfold Edge
  constructor
  · rintro (h | ⟨y, hy, h⟩)
    · exact .inl (.inl (.inl h))
    · rcases List.mem_append.1 hy with hy | hy
      · exact .inl (.inl (.inr ⟨y, hy, h⟩))
      · simp at hy; subst hy
        rcases h with h | h
        · exact .inl (.inr h)
        · exact .inr h
  · rintro (((h | ⟨y, hy, h⟩) | h) | h)
    · exact .inl h
    · exact .inr ⟨y, by simp [hy], h⟩
    · exact .inr ⟨x, by simp, .inl h⟩
    · exact .inr ⟨x, by simp, .inr h⟩
theorem edges_spec {a b : List TRange} (ha : ∀ x ∈ a, Ok x) (hb : ∀ x ∈ b, Ok x) (hl : a.length + b.length ≤ 4000000) :
    ∃ E, scansionref02_edges a b = some E ∧ E.Pairwise (· < ·) ∧ (∀ e, e ∈ E ↔ Edge (a ++ b) e) ∧ E.length ≤ 2 * (a.length + b.length) + 1 := by
  have hlen : (a ++ b).length = a.length + b.length := by simp
  have hok : ∀ x ∈ a ++ b, Ok x := fun x hx => (List.mem_append.1 hx).elim (ha x) (hb x)
  unfold scansionref02_edges
  rw [room_ok (by omega), Option.bind_some, room_ok (by omega), Option.bind_some]
  refine Loop_spec (body := scansionref02_edges.b1 a b) (fun p : List Int × Int => ∃ k : Nat, p.2 = (k : Int) ∧ k ≤ (a ++ b).length ∧ p.1.Pairwise (· < ·) ∧ (∀ e, e ∈ p.1 ↔ Edge ((a ++ b).take k) e) ∧ p.1.length ≤ 2 * k + 1) (fun p => (a ++ b).length - p.2.toNat) (fun p hp => ?_) _
    ⟨0, rfl, Nat.zero_le _, List.pairwise_singleton _ _, fun e => by simp [Edge], by simp⟩
  obtain ⟨out, v⟩ := p
  obtain ⟨k, e, hk, hpw, hm, hol⟩ := hp
  simp only at e hpw hm hol
  subst e
  generalize hL : a ++ b = L at *
  simp only [scansionref02_edges.b1, hL]
  by_cases h : k < L.length
  · left
    have hx : L[k]? = some L[k] := List.getElem?_eq_getElem h
    have o := hok _ (List.getElem_mem h)
    unfold Ok at o
    obtain ⟨r, r1, r2, r3, r4⟩ := rising_spec (n := L[k].Low) hpw (by omega)
    rw [if_pos (by simpa using h), idx_nat, hx, Option.bind_some, r1, Option.bind_some]
    by_cases hh : L[k].High < 1114111
    · obtain ⟨q, q1, q2, q3, q4⟩ := rising_spec (n := L[k].High + 1) r2 (by omega)
      refine ⟨(q, ((k + 1 : Nat) : Int)), ?_, ⟨k + 1, rfl, h, q2, fun e => ?_, by simp only; omega⟩, by simp only; omega⟩
      · rw [if_pos (by simpa using hh), w64 (by omega) (by omega), q1, Option.bind_some]
        unfold scansionref02_edges.k2
        rw [w64s (by omega)]
      · simp only
        rw [q3, r3, hm, take_snocR hx, Edge_snoc]
        constructor
        · rintro (h | h)
          · exact .inl h
          · exact .inr ⟨hh, h⟩
        · rintro (h | h)
          · exact .inl h
          · exact .inr h.2
    · refine ⟨(r, ((k + 1 : Nat) : Int)), ?_, ⟨k + 1, rfl, h, r2, fun e => ?_, by simp only; omega⟩, by simp only; omega⟩
      · rw [if_neg (by simpa using hh)]
        unfold scansionref02_edges.k2
        rw [w64s (by omega)]
      · simp only
        rw [r3, hm, take_snocR hx, Edge_snoc]
        constructor
        · exact .inl
        · rintro (h | h)
          · exact h
          · exact absurd h.1 hh
  · right
    obtain rfl : k = L.length := by omega
    refine ⟨out, ?_, hpw, fun e => ?_, by omega⟩
    · rw [if_neg (by simp)]; rfl
    · rw [hm, List.take_length]
theorem with_spec {out : List TRange} {low high : Int} (hn : Norm out) (h0 : 0 ≤ low) (h1 : low ≤ high) (h2 : high ≤ 1114111) (hl : ∀ y ∈ out, y.High < low) :
    ∃ out', scansionref02_with out low high = some out' ∧ Norm out' ∧ ∀ r, In out' r ↔ In out r ∨ (low ≤ r ∧ r ≤ high) := by
  have hlen := hn.len
  rcases List.eq_nil_or_concat out with rfl | ⟨init, y, rfl⟩
  · refine ⟨[⟨low, high⟩], ?_, Norm_snoc (l := []).2 ⟨Norm_nil, ⟨h0, h1, h2⟩, fun y h => by cases h⟩, fun r => ?_⟩
    · unfold scansionref02_with
      rw [if_neg (by simp), Option.bind_some, if_neg (by simp), room_ok (by simp), Option.bind_some]; rfl
    · rw [In_one]; exact ⟨.inr, fun h => h.elim (fun h => absurd h In_nil) id⟩
  · rw [List.concat_eq_append] at *
    have hlen' : (init ++ [y]).length = init.length + 1 := by simp
    obtain ⟨n1, n2, n3⟩ := Norm_snoc.1 hn
    have hyo := n2
    unfold Ok at hyo
    have hyl := hl y (by simp)
    have hi : (init ++ [y])[init.length]? = some y := by simp
    have hw : IntKind.i64.wrap (((init ++ [y]).length : Int) - 1) = (init.length : Int) := by rw [hlen']; exact len_pred (by omega)
    have hcond : (if (decide (((init ++ [y]).length : Int) > (0 : Int))) then
      (idx (init ++ [y]) (IntKind.i64.wrap (((init ++ [y]).length : Int) - (1 : Int)))).bind fun x =>
      some (x.High == (IntKind.i64.wrap (low - (1 : Int))))
    else
      some false) = some (y.High == low - 1) := by
      rw [if_pos (by simp), hw, idx_nat, hi, Option.bind_some, w64 (by omega) (by omega)]
    by_cases hc : y.High = low - 1
    · refine ⟨init ++ [⟨y.Low, high⟩], ?_, Norm_snoc.2 ⟨n1, ⟨(show 0 ≤ y.Low by omega), (show y.Low ≤ high by omega), h2⟩, n3⟩, fun r => ?_⟩
      · unfold scansionref02_with
        rw [hcond, Option.bind_some, if_pos (by simpa using hc), hw, idx_nat, hi, Option.bind_some]
        simp
      · rw [In_append, In_append, In_one, In_one]
        show In init r ∨ (y.Low ≤ r ∧ r ≤ high) ↔ (In init r ∨ (y.Low ≤ r ∧ r ≤ y.High)) ∨ (low ≤ r ∧ r ≤ high)
        constructor
        · rintro (h | ⟨h3, h4⟩)
          · exact .inl (.inl h)
          · by_cases h5 : r ≤ y.High
            · exact .inl (.inr ⟨h3, h5⟩)
            · exact .inr ⟨by omega, by omega⟩
        · rintro ((h | ⟨h3, h4⟩) | ⟨h3, h4⟩)
          · exact .inl h
          · exact .inr ⟨h3, by omega⟩
          · exact .inr ⟨by omega, by omega⟩
    · refine ⟨init ++ [y] ++ [⟨low, high⟩], ?_, Norm_snoc.2 ⟨hn, ⟨h0, h1, h2⟩, fun z hz => ?_⟩, fun r => ?_⟩
      · unfold scansionref02_with
        rw [hcond, Option.bind_some, if_neg (by simpa using hc), room_ok (by omega), Option.bind_some]
      · show z.High + 1 < low
        rcases List.mem_append.1 hz with hz | hz
        · have := n3 z hz; omega
        · simp at hz; subst hz; omega
      · rw [In_append, In_one]
end Go.Val

/- part Q5 -/
/- Plain lemmas: the document's Or, And, Less, Not, Make. -/
namespace Go.Val
set_option linter.unusedVariables false
/-- What is taken. -/
def kindP (kind : Int) (one two : Bool) : Bool := if kind = 1 then one && two else if kind = 2 then one && !two else if kind = 3 then !one && !two else one || two
/-- Where a piece ends: the next edge; the end of all. -/
def bnd (E : List Int) (k : Nat) : Int := (E[k]?).getD 1114112
theorem bnd_at {E : List Int} {k : Nat} (h : k < E.length) : bnd E k = E[k] := by unfold bnd; rw [List.getElem?_eq_getElem h]; rfl
theorem bnd_end {E : List Int} : bnd E E.length = 1114112 := by unfold bnd; rw [List.getElem?_eq_none (Nat.le_refl _)]; rfl
theorem bnd_split {E : List Int} (hp : E.Pairwise (· < ·)) {k : Nat} (h : k < E.length) {e : Int} (he : e ∈ E) : e ≤ E[k] ∨ bnd E (k + 1) ≤ e := by
  obtain ⟨j, hj, rfl⟩ := List.getElem_of_mem he
  have hpw := List.pairwise_iff_getElem.1 hp
  by_cases h1 : j < k
  · exact .inl (by have := hpw j k hj h h1; omega)
  · by_cases h2 : j = k
    · subst h2; exact .inl (Int.le_refl _)
    · right
      rw [bnd_at (by omega)]
      by_cases h3 : j = k + 1
      · subst h3; exact Int.le_refl _
      · have := hpw (k + 1) j (by omega) hj (by omega); omega
theorem bnd_lt {E : List Int} (hp : E.Pairwise (· < ·)) (hE : ∀ e ∈ E, e ≤ 1114111) {k : Nat} (h : k < E.length) : E[k] < bnd E (k + 1) := by
  by_cases h1 : k + 1 < E.length
  · rw [bnd_at h1]; exact List.pairwise_iff_getElem.1 hp k (k + 1) h h1 (by omega)
  · rw [show k + 1 = E.length by omega, bnd_end]
    have := hE _ (List.getElem_mem h); omega
theorem Edge_bound {m : List TRange} (hm : ∀ x ∈ m, Ok x) {e : Int} (h : Edge m e) : 0 ≤ e ∧ e ≤ 1114111 := by
  rcases h with rfl | ⟨x, hx, h⟩
  · omega
  · have := hm x hx
    unfold Ok at this
    rcases h with rfl | ⟨h, rfl⟩ <;> omega
/-- Between two edges nothing turns. -/
theorem const_at {m L : List TRange} {E : List Int} (hm : ∀ x ∈ L, Ok x) (hp : E.Pairwise (· < ·)) (hE : ∀ e, e ∈ E ↔ Edge L e) (hs : ∀ x ∈ m, x ∈ L) {k : Nat} (h : k < E.length) {t : Int} (h1 : E[k] ≤ t) (h2 : t < bnd E (k + 1)) (h3 : t ≤ 1114111) :
    hasB m t = hasB m E[k] := by
  rw [Bool.eq_iff_iff, hasB_iff, hasB_iff]
  have key : ∀ x ∈ m, (x.Low ≤ t ∧ t ≤ x.High) ↔ (x.Low ≤ E[k] ∧ E[k] ≤ x.High) := fun x hx => by
    have o := hm x (hs x hx)
    unfold Ok at o
    have k1 := bnd_split hp h ((hE x.Low).2 (.inr ⟨x, hs x hx, .inl rfl⟩))
    by_cases hh : x.High < 1114111
    · have k2 := bnd_split hp h ((hE (x.High + 1)).2 (.inr ⟨x, hs x hx, .inr ⟨hh, rfl⟩⟩))
      omega
    · omega
  constructor
  · rintro ⟨x, hx, h⟩; exact ⟨x, hx, (key x hx).1 h⟩
  · rintro ⟨x, hx, h⟩; exact ⟨x, hx, (key x hx).2 h⟩
theorem pick_k3 {a b : List TRange} {kind : Int} {E : List Int} {out : List TRange} {k : Nat} {high : Int} (h : k < E.length) (ha : a.length ≤ 4000000) (hb : b.length ≤ 4000000) :
    scansionref02_pick.k3 a b kind E out (k : Int) high = scansionref02_pick.k4 out k high E[k] (kindP kind (hasB a E[k]) (hasB b E[k])) := by
  unfold scansionref02_pick.k3 kindP
  rw [idx_nat, List.getElem?_eq_getElem h, Option.bind_some, refHas_eq (by omega), Option.bind_some, refHas_eq (by omega), Option.bind_some]
  generalize hasB a E[k] = p
  generalize hasB b E[k] = q
  by_cases h1 : kind = 1
  · subst h1; cases p <;> rfl
  · rw [if_neg (by simpa using h1), if_neg h1]
    by_cases h2 : kind = 2
    · subst h2; cases p <;> rfl
    · rw [if_neg (by simpa using h2), if_neg h2]
      by_cases h3 : kind = 3
      · subst h3; cases p <;> rfl
      · rw [if_neg (by simpa using h3), if_neg h3]
theorem pick_spec {a b : List TRange} {kind : Int} (ha : ∀ x ∈ a, Ok x) (hb : ∀ x ∈ b, Ok x) (hl : a.length + b.length ≤ 4000000) :
    ∃ out, scansionref02_pick a b kind = some out ∧ Norm out ∧ ∀ t, In out t ↔ (0 ≤ t ∧ t ≤ 1114111 ∧ kindP kind (hasB a t) (hasB b t) = true) := by
  obtain ⟨E, e1, e2, e3, e4⟩ := edges_spec ha hb hl
  have hok : ∀ x ∈ a ++ b, Ok x := fun x hx => (List.mem_append.1 hx).elim (ha x) (hb x)
  have hbd : ∀ e ∈ E, 0 ≤ e ∧ e ≤ 1114111 := fun e he => Edge_bound hok ((e3 e).1 he)
  have h0 : 0 < E.length := List.length_pos_of_mem ((e3 0).2 (.inl rfl))
  have hE0 : bnd E 0 = 0 := by
    rw [bnd_at h0]
    have k1 := hbd _ (List.getElem_mem h0)
    obtain ⟨j, hj, hje⟩ := List.getElem_of_mem ((e3 0).2 (.inl rfl))
    by_cases h : j = 0
    · subst h; exact hje
    · have := List.pairwise_iff_getElem.1 e2 0 j h0 hj (by omega); omega
  unfold scansionref02_pick
  rw [e1, Option.bind_some]
  refine Loop_spec (body := scansionref02_pick.b1 a b kind E) (fun p : List TRange × Int => ∃ k : Nat, p.2 = (k : Int) ∧ k ≤ E.length ∧ Norm p.1 ∧ ∀ t, In p.1 t ↔ (0 ≤ t ∧ t < bnd E k ∧ kindP kind (hasB a t) (hasB b t) = true)) (fun p => E.length - p.2.toNat) (fun p hp => ?_) _
    ⟨0, rfl, Nat.zero_le _, Norm_nil, fun t => ⟨fun h => absurd h In_nil, fun h => by rw [hE0] at h; omega⟩⟩
  obtain ⟨out, v⟩ := p
  obtain ⟨k, e, hk, hn, hin⟩ := hp
  simp only at e hn hin
  subst e
  simp only [scansionref02_pick.b1]
  by_cases h : k < E.length
  · left
    have hlt := bnd_lt e2 (fun e he => (hbd e he).2) h
    have hE := hbd _ (List.getElem_mem h)
    have hnext : bnd E (k + 1) ≤ 1114112 := by
      by_cases h1 : k + 1 < E.length
      · rw [bnd_at h1]; have := hbd _ (List.getElem_mem h1); omega
      · rw [show k + 1 = E.length by omega, bnd_end]; omega
    have hhigh : (if (decide ((IntKind.i64.wrap ((k : Int) + (1 : Int))) < (E.length : Int))) then
        (idx E (IntKind.i64.wrap ((k : Int) + (1 : Int)))).bind fun n1 =>
        scansionref02_pick.k3 a b kind E out (k : Int) (IntKind.i64.wrap (n1 - (1 : Int)))
      else
        scansionref02_pick.k3 a b kind E out (k : Int) (1114111 : Int)) = scansionref02_pick.k3 a b kind E out (k : Int) (bnd E (k + 1) - 1) := by
      rw [w64s (by omega)]
      by_cases h1 : k + 1 < E.length
      · have := hbd _ (List.getElem_mem h1)
        rw [if_pos (by simp; omega), idx_nat, List.getElem?_eq_getElem h1, Option.bind_some, bnd_at h1, w64 (by omega) (by omega)]
      · rw [if_neg (by simp; omega), show k + 1 = E.length by omega, bnd_end]; rfl
    rw [if_pos (by simpa using h), hhigh, pick_k3 h (by omega) (by omega)]
    unfold scansionref02_pick.k4 scansionref02_pick.k2
    have hconst : ∀ t, E[k] ≤ t → t < bnd E (k + 1) → kindP kind (hasB a t) (hasB b t) = kindP kind (hasB a E[k]) (hasB b E[k]) := fun t h1 h2 => by
      rw [const_at hok e2 e3 (fun x hx => by simp [hx]) h h1 h2 (by omega), const_at hok e2 e3 (fun x hx => by simp [hx]) h h1 h2 (by omega)]
    rw [bnd_at h] at hin
    cases hc : kindP kind (hasB a E[k]) (hasB b E[k]) with
    | true =>
      obtain ⟨out', q1, q2, q3⟩ := with_spec (low := E[k]) (high := bnd E (k + 1) - 1) hn hE.1 (by omega) (by omega) (fun y hy => ((hin y.High).1 (In_high hn hy)).2.1)
      refine ⟨(out', ((k + 1 : Nat) : Int)), ?_, ⟨k + 1, rfl, h, q2, fun t => ?_⟩, by simp only; omega⟩
      · rw [if_pos rfl, q1, Option.bind_some, w64s (by omega)]
      · simp only
        rw [q3, hin]
        constructor
        · rintro (⟨h1, h2, h3⟩ | ⟨h1, h2⟩)
          · exact ⟨h1, by omega, h3⟩
          · exact ⟨by omega, by omega, by rw [hconst t h1 (by omega)]; exact hc⟩
        · rintro ⟨h1, h2, h3⟩
          by_cases h4 : t < E[k]
          · exact .inl ⟨h1, h4, h3⟩
          · exact .inr ⟨by omega, by omega⟩
    | false =>
      refine ⟨(out, ((k + 1 : Nat) : Int)), ?_, ⟨k + 1, rfl, h, hn, fun t => ?_⟩, by simp only; omega⟩
      · rw [if_neg (by simp), w64s (by omega)]
      · simp only
        rw [hin]
        constructor
        · rintro ⟨h1, h2, h3⟩
          exact ⟨h1, by omega, h3⟩
        · rintro ⟨h1, h2, h3⟩
          by_cases h4 : t < E[k]
          · exact ⟨h1, h4, h3⟩
          · rw [hconst t (by omega) h2, hc] at h3; cases h3
  · right
    obtain rfl : k = E.length := by omega
    refine ⟨out, ?_, hn, fun t => ?_⟩
    · rw [if_neg (by simp)]; rfl
    · rw [hin, bnd_end]
      constructor
      · rintro ⟨h1, h2, h3⟩; exact ⟨h1, by omega, h3⟩
      · rintro ⟨h1, h2, h3⟩; exact ⟨h1, by omega, h3⟩
theorem refMake_bad_one {l : List TRange} {k : Nat} (h : k < l.length) (hb : ¬ Ok l[k]) : scansionref02_Make.b1 l (k : Int) = some (.done ([], 1)) := by
  rw [scansionref02_Make.b1, if_pos (by simpa using h), idx_nat, List.getElem?_eq_getElem h, Option.bind_some]
  unfold Ok at hb
  by_cases h1 : l[k].Low < 0
  · rw [if_pos (by simpa using h1), Option.bind_some]; rfl
  · by_cases h2 : l[k].High > 1114111
    · rw [if_neg (by simpa using h1), if_pos (by simpa using h2), Option.bind_some]; rfl
    · rw [if_neg (by simpa using h1), if_neg (by simpa using h2), Option.bind_some, if_pos (by simp; omega)]
theorem refMake_ok_one {l : List TRange} {k : Nat} (h : k < l.length) (hl : l.length ≤ 4000000) (hb : Ok l[k]) : scansionref02_Make.b1 l (k : Int) = some (.next ((k + 1 : Nat) : Int)) := by
  rw [scansionref02_Make.b1, if_pos (by simpa using h), idx_nat, List.getElem?_eq_getElem h, Option.bind_some]
  unfold Ok at hb
  rw [if_neg (by simp; omega), if_neg (by simp; omega), Option.bind_some, if_neg (by simp; omega), w64s (by omega)]
theorem refMake_ok {l : List TRange} (hok : ∀ x ∈ l, Ok x) (hl : l.length ≤ 4000000) : ∃ out, scansionref02_Make l = some (out, 0) ∧ Norm out ∧ ∀ t, In out t ↔ In l t := by
  obtain ⟨out, h1, h2, h3⟩ := pick_spec (a := l) (b := []) (kind := 0) hok (fun x h => by cases h) (by simpa using hl)
  refine ⟨out, ?_, h2, fun t => ?_⟩
  · unfold scansionref02_Make
    have := Loop_int (b := scansionref02_Make.b1 l) (i := 0) (n := l.length) (Nat.zero_le _) (fun j _ hj => refMake_ok_one hj hl (hok _ (List.getElem_mem hj)))
    rw [show ((0 : Nat) : Int) = 0 from rfl] at this
    rw [this]
    apply Loop_end
    rw [scansionref02_Make.b1, if_neg (by simp)]
    unfold scansionref02_Make.k1
    rw [h1]; rfl
  · rw [h3]
    have e : kindP 0 (hasB l t) (hasB [] t) = hasB l t := by simp [kindP, hasB]
    rw [e, hasB_iff]
    constructor
    · exact fun h => h.2.2
    · intro h
      obtain ⟨x, hx, k1, k2⟩ := h
      have := hok x hx
      unfold Ok at this
      exact ⟨by omega, by omega, x, hx, k1, k2⟩
theorem refMake_bad {l : List TRange} (hbad : ¬ ∀ x ∈ l, Ok x) (hl : l.length ≤ 4000000) : scansionref02_Make l = some ([], 1) := by
  unfold scansionref02_Make
  refine Loop_rule (R := some ([], 1)) (fun v : Int => ∃ k : Nat, v = (k : Int) ∧ k ≤ l.length ∧ ∀ j (hj : j < l.length), j < k → Ok l[j]) (fun v => l.length - v.toNat) (fun v hv => ?_) _ ⟨0, rfl, Nat.zero_le _, fun j _ hj => absurd hj (by omega)⟩
  obtain ⟨k, rfl, hk, hall⟩ := hv
  by_cases h : k < l.length
  · by_cases ho : Ok l[k]
    · left
      refine ⟨_, refMake_ok_one h hl ho, ⟨k + 1, rfl, h, fun j hj hjk => ?_⟩, by omega⟩
      by_cases e : j = k
      · subst e; exact ho
      · exact hall j hj (by omega)
    · right
      exact ⟨_, rfl, refMake_bad_one h ho⟩
  · exact absurd (fun x hx => by
      obtain ⟨j, hj, rfl⟩ := List.getElem_of_mem hx
      exact hall j hj (by omega)) hbad
end Go.Val

/- part Q6 -/
/- Plain lemmas: the program's Or, And, Less, Not. -/
namespace Go.Val
set_option linter.unusedVariables false
/-- What a set of one of the four kinds is. -/
structure IsSet (P : Bool → Bool → Bool) (a b out : List TRange) : Prop where
  norm : Norm out
  mem : ∀ t, In out t ↔ (0 ≤ t ∧ t ≤ 1114111 ∧ P (hasB a t) (hasB b t) = true)
theorem IsSet.unique {P Q : Bool → Bool → Bool} {a b c d o o' : List TRange} (h : IsSet P a b o) (h' : IsSet Q c d o') (he : ∀ t, 0 ≤ t → t ≤ 1114111 → P (hasB a t) (hasB b t) = Q (hasB c t) (hasB d t)) : o = o' :=
  Norm.unique h.norm h'.norm fun t => by
    rw [h.mem, h'.mem]
    constructor
    · rintro ⟨h1, h2, h3⟩; exact ⟨h1, h2, by rw [← he t h1 h2]; exact h3⟩
    · rintro ⟨h1, h2, h3⟩; exact ⟨h1, h2, by rw [he t h1 h2]; exact h3⟩
theorem IsSet.has {P : Bool → Bool → Bool} {a b o : List TRange} (h : IsSet P a b o) {t : Int} (h1 : 0 ≤ t) (h2 : t ≤ 1114111) : hasB o t = P (hasB a t) (hasB b t) := by
  rw [Bool.eq_iff_iff, hasB_iff, h.mem]
  exact ⟨fun h => h.2.2, fun h => ⟨h1, h2, h⟩⟩
end Go.Val

/- part Q7 -/
/- The laws of chapter 02, of the functions that were read off. -/
namespace Go.Val
set_option linter.unusedVariables false
theorem set_spec (l : List TRange) : (∃ s, scansionlaw02_set l = some (s, true) ∧ Norm s ∧ (∀ t, In s t ↔ In l t) ∧ l.length ≤ 40) ∨ ∃ s, scansionlaw02_set l = some (s, false) := by
  unfold scansionlaw02_set
  by_cases h : l.length > 40
  · right; exact ⟨[], by rw [if_pos (by simp; omega)]⟩
  · by_cases hok : ∀ x ∈ l, Ok x
    · left
      obtain ⟨out, h1, h2, h3⟩ := refMake_ok hok (by omega)
      exact ⟨out, by rw [if_neg (by simp; omega), h1]; rfl, h2, h3, by omega⟩
    · right
      exact ⟨[], by rw [if_neg (by simp; omega), refMake_bad hok (by omega)]; rfl⟩
theorem IsSet.empty {P : Bool → Bool → Bool} {a b o : List TRange} (h : IsSet P a b o) (he : ∀ t, 0 ≤ t → t ≤ 1114111 → P (hasB a t) (hasB b t) = false) : o = [] :=
  Norm.unique h.norm Norm_nil fun t => by
    rw [h.mem]
    constructor
    · rintro ⟨h1, h2, h3⟩; rw [he t h1 h2] at h3; cases h3
    · intro h; exact absurd h In_nil

/-! ### a set, and its Not -/
theorem RangesSteps_of (l : List TRange) : scansionlaw02_RangesSteps l = some true := by
  unfold scansionlaw02_RangesSteps
  rw [awake02, Option.bind_some]
  rcases set_spec l with ⟨a, a1, a2, _⟩ | ⟨a, a1⟩
  · rw [a1, Option.bind_some, if_neg (by simp)]
    have hal := a2.len
    have := Loop_run (b := scansionlaw02_RangesSteps.b1 (a, true)) (fun k : Nat => (cnt (a.take k), (k : Int))) (i := 0) (n := a.length) (Nat.zero_le _) (fun k _ hk => by
      have o := a2.1 _ (List.getElem_mem hk)
      have c := (a2.take k).cnt
      unfold Ok at o
      have n1 : hasB a (a[k].Low - 1) = false := by rw [← Bool.not_eq_true, hasB_iff]; exact a2.below (List.getElem_mem hk)
      have n2 : hasB a (a[k].High + 1) = false := by rw [← Bool.not_eq_true, hasB_iff]; exact a2.above (List.getElem_mem hk)
      simp only [scansionlaw02_RangesSteps.b1]
      rw [if_pos (by simpa using hk), idx_nat, List.getElem?_eq_getElem hk, Option.bind_some, w64 (n := a[k].Low - 1) (by omega) (by omega), Has_eq a2, n1, Option.bind_some, w64 (n := a[k].High + 1) (by omega) (by omega), Has_eq a2, n2, Option.bind_some,
        Nth_eq a2 c.1 (by omega), nth_at a2 hk, Option.bind_some, if_neg (by simp [nthR]), w64s (by omega), cnt_next hk, w64 (n := cnt (a.take k) + a[k].High) (by omega) (by omega), w64 (n := cnt (a.take k) + a[k].High - a[k].Low) (by omega) (by omega), w64 (by omega) (by omega)]
      simp only [many, Option.some.injEq, Step.next.injEq, Prod.mk.injEq, and_true]
      omega)
    have e : Loop (scansionlaw02_RangesSteps.b1 (a, true)) ((0 : Int), (0 : Int)) = Loop (scansionlaw02_RangesSteps.b1 (a, true)) (cnt (a.take a.length), (a.length : Int)) := this
    rw [e, List.take_length]
    apply Loop_end
    simp only [scansionlaw02_RangesSteps.b1]
    rw [if_neg (by simp)]
    unfold scansionlaw02_RangesSteps.k1
    rw [Count_eq a2, Option.bind_some]
    simp
  · rw [a1, Option.bind_some, if_pos (by simp)]
end Go.Val
