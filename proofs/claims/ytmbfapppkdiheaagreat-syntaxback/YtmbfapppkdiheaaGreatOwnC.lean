/- A value semantics of the model's programs, sound against it, and functions read off the given program with the proofs that it runs so; no condition. -/
import Derived.Test.YtmbfapppkdiheaaGreatOwnB
import GoSem.ClaimChange
set_option linter.all false
set_option linter.unnecessarySimpa false
set_option linter.unusedVariables false
set_option linter.unusedSimpArgs false
/- part V37 -/
/- Value semantics: what is made, and stored. -/
namespace Go.Val
variable {P : Program} {s : St} {x y : Operand}

def muOut (l : Nat) (kt : TypeId) (k v : DVal) (es : List Eff) : Option (List (DVal × DVal)) → Option Out
  | some en => some (.undef, es ++ [.setMap l kt (mput k v en)])
  | none => none
def muD (s : St) (kt : TypeId) (k v : DVal) (es : List Eff) : DVal → Option Out
  | .map (some l) => muOut l kt k v es (mapAt s kt (.map (some l)))
  | .map none => none
  | .agg _ => none
  | .ptr _ => none
  | .int _ _ => none
  | .bool _ => none
  | .str _ => none
  | .sl _ => none
  | .fn _ _ _ => none
  | .nilfn => none
def muK (P : Program) (s : St) (kt : TypeId) : Option DVal → Option DVal → Option TypeDesc → Option (DVal × List Eff) → Option Out
  | some d, some k, some td, some (v, es) => if isKey P kt td k = true then muD s kt k v es d else none
  | _, _, _, _ => none
def muTD (P : Program) (s : St) (x k v : Operand) : Option TypeDesc → Option Out
  | some (.map kt _) => muK P s kt (optVal s x) (optVal s k) (P.underlying kt) (s.asVal v)
  | _ => none
theorem mapUpdateOp_sv {t : TypeId} {z : Operand} : mapUpdateOp P s t x y z = muTD P s x y z (P.underlying t) := by
  unfold mapUpdateOp
  cases P.underlying t with
  | none => rfl
  | some td =>
    cases td
    case map kt e =>
      simp only [muTD]
      cases optVal s x with
      | none => rfl
      | some d =>
        cases optVal s y with
        | none => rfl
        | some k =>
          cases P.underlying kt with
          | none => rfl
          | some td =>
            cases s.asVal z with
            | none => rfl
            | some v =>
              simp only [Option.bind_some, muK]
              split
              · cases d with
                | map r =>
                  cases r with
                  | none => rfl
                  | some l => simp only [muD]; cases mapAt s kt (.map (some l)) <;> rfl
                | _ => rfl
              · rfl
    all_goals rfl
def alD (n : Nat) (z : List CV) : Option (List DVal) → Option Out
  | some _ => if z.length = 0 then none else some (.cv (.val (.ptr (some (n, 0)))), [.new (.cells z)])
  | none => none
def alO (n : Nat) : Option (List CV) → Option Out
  | some z => alD n z (toDs z)
  | none => none
def bxO (n k : Nat) : Option (List CV × List Eff) → Option Out
  | some (cs, es) => if cs.length = k ∧ anyRow (cs.drop 1) = false then some (.cv (.val (.ptr (some (n, 0)))), es ++ [.new (.cells cs)]) else none
  | none => none
def bldO : Option (List CV × List Eff) → Option Out
  | some (cs, es) => some (.bld cs, es)
  | none => none
def bdCells (P : Program) (s : St) (t : TypeId) (ps : List (Nat × Operand)) (z : List CV) : Bool → Option (List DVal) → Option Out
  | true, some _ => bldO (buildCells P s t z ps)
  | true, none => none
  | false, _ => none
def bdO (P : Program) (s : St) (t : TypeId) (ps : List (Nat × Operand)) : Option (List CV) → Option Out
  | some z => bdCells P s t ps z (fieldsOk P t) (toDs z)
  | none => none
def bcTail (es : List Eff) : Option (List CV × List Eff) → Option (List CV × List Eff)
  | some (cs, es') => some (cs, es ++ es')
  | none => none
def bcPart (P : Program) (s : St) (t : TypeId) (ps : List (Nat × Operand)) (cs : List CV) (off n : Nat) : Option (List CV × List Eff) → Option (List CV × List Eff)
  | some (c, es) => if c.length = n ∧ off + n ≤ cs.length then bcTail es (buildCells P (s.effs es) t (setFrom cs off c) ps) else none
  | none => none
def bcPlace (P : Program) (s : St) (t : TypeId) (x : Operand) (ps : List (Nat × Operand)) (cs : List CV) : Option (Nat × Nat) → Option (List CV × List Eff)
  | some (off, n) => bcPart P s t ps cs off n (partCells s x)
  | none => none
theorem buildCells_nil {t : TypeId} {cs : List CV} : buildCells P s t cs [] = some (cs, []) := rfl
theorem buildCells_cons {t : TypeId} {cs : List CV} {i : Nat} {ps : List (Nat × Operand)} : buildCells P s t cs ((i, x) :: ps) = bcPlace P s t x ps cs (place P t i) := by
  simp only [buildCells]
  cases place P t i with
  | none => rfl
  | some p =>
    obtain ⟨off, n⟩ := p
    simp only [Option.bind_some, bcPlace]
    cases partCells s x with
    | none => rfl
    | some c =>
      obtain ⟨c, es⟩ := c
      simp only [Option.bind_some, bcPart]
      split
      · cases buildCells P (s.effs es) t (setFrom cs off c) ps <;> rfl
      · rfl
def beTail (d : DVal) (es : List Eff) : Option (List DVal × List Eff) → Option (List DVal × List Eff)
  | some (ds, es') => some (d :: ds, es ++ es')
  | none => none
def bePart (P : Program) (s : St) (k j : Nat) (ps : List (Nat × Operand)) : Option (DVal × List Eff) → Option (List DVal × List Eff)
  | some (d, es) => if d.cells.length = k then beTail d es (buildElems P (s.effs es) k (j + 1) ps) else none
  | none => none
theorem buildElems_nil {k j : Nat} : buildElems P s k j [] = some ([], []) := rfl
theorem buildElems_cons {k j i : Nat} {ps : List (Nat × Operand)} : buildElems P s k j ((i, x) :: ps) = if i = j then bePart P s k j ps (s.asVal x) else none := by
  simp only [buildElems]
  split
  · cases s.asVal x with
    | none => rfl
    | some d =>
      obtain ⟨d, es⟩ := d
      simp only [Option.bind_some, bePart]
      split
      · cases buildElems P (s.effs es) k (j + 1) ps <;> rfl
      · rfl
  · rfl
def bsOut (P : Program) (e : TypeId) (n : Nat) : Option (List DVal × List Eff) → Option Out
  | some (ds, es) => if ds.length = n ∧ n * P.cellsOf e ≤ 2 ^ 24 ∧ P.cellsOf e ≠ 0 ∧ zeroOk P e = true then some (.cv (.row e ds), es) else none
  | none => none
def bsTD (P : Program) (s : St) (n : Nat) (ps : List (Nat × Operand)) : Option TypeDesc → Option Out
  | some (.slice e) => bsOut P e n (buildElems P s (P.cellsOf e) 0 ps)
  | _ => none
def mmOut (n : Nat) (kt : TypeId) : Option TypeDesc → Option Out
  | some _ => some (.cv (.val (.map (some n))), [.new (.map kt [])])
  | none => none
def mmTD (P : Program) (n : Nat) : Option TypeDesc → Option Out
  | some (.map kt _) => mmOut n kt (P.underlying kt)
  | _ => none
def mfOut (f : FuncId) : Option (List DVal) → Option (List DVal) → Option Out
  | some a, some b => if a.all DVal.one && b.all DVal.one then ret (.fn f a b) else none
  | some _, none => none
  | none, _ => none
def ovTail (d : DVal) : Option (List DVal) → Option (List DVal)
  | some ds => some (d :: ds)
  | none => none
def ovHead (s : St) (xs : List Operand) : Option DVal → Option (List DVal)
  | some d => ovTail d (optVals s xs)
  | none => none
theorem optVals_nil : optVals s [] = some [] := rfl
theorem optVals_cons {xs : List Operand} : optVals s (x :: xs) = ovHead s xs (optVal s x) := by
  simp only [optVals]
  cases optVal s x with
  | none => rfl
  | some d => simp only [Option.bind_some, ovHead]; cases optVals s xs <;> rfl
def stCells (l off n m : Nat) : Option (List CV × List Eff) → Option Out
  | some (c, es) => if c.length = n ∧ off + n ≤ m then some (.undef, es ++ setCells l off c) else none
  | none => none
def stObj (l off n : Nat) (c : Option (List CV × List Eff)) : Option BObj → Option Out
  | some (.cells cs) => stCells l off n cs.length c
  | some (.map _ _) => none
  | none => none
def stPtr (s : St) (n : Nat) (c : Option (List CV × List Eff)) (l off : Nat) : Option Out := stObj l off n c (s.box.at_ l)
def stElV (r : Root) (k : TypeId) (xs : List DVal) (i off n : Nat) (e : DVal) : Option (DVal × List Eff) → Option Out
  | some (d, []) => if d.cells.length = n ∧ off + n ≤ e.cells.length then some (.undef, [.setRow r k (xs.set i (remake e (setFrom e.cells off d.cells)))]) else none
  | some (_, _ :: _) => none
  | none => none
def stEl (r : Root) (k : TypeId) (xs : List DVal) (i off n : Nat) (v : Option (DVal × List Eff)) : Option DVal → Option Out
  | some e => stElV r k xs i off n e v
  | none => none
def stRow (r : Root) (i off n : Nat) (v : Option (DVal × List Eff)) : Option (TypeId × List DVal) → Option Out
  | some (k, xs) => stEl r k xs i off n v xs[i]?
  | none => none
def stSV (s : St) (n : Nat) (y : Operand) : SV → Option Out
  | .cv (.val d) => ptrD (stPtr s n (s.asCells y)) d
  | .elt r i off => stRow r i off n (s.asVal y) (s.rowAt r)
  | .imm _ => none
  | .cv .nil => none
  | .cv (.row _ _) => none
  | .cv .dead => none
  | .alias _ => none
  | .bld _ => none
  | .tup _ => none
  | .undef => none
theorem storeOp_sv {t : TypeId} : storeOp P s t x y = if P.cellsOf t = 0 then none else stSV s (P.cellsOf t) y (s.opv x) := by
  unfold storeOp
  split
  · rfl
  · cases s.opv x with
    | cv c =>
      cases c with
      | val d =>
        cases d with
        | ptr a =>
          cases a with
          | none => rfl
          | some a =>
            obtain ⟨l, off⟩ := a
            simp only [stSV, ptrD, stPtr]
            cases s.box.at_ l with
            | none => rfl
            | some o =>
              cases o with
              | map _ _ => rfl
              | cells cs => simp only [stObj]; cases s.asCells y <;> rfl
        | _ => rfl
      | _ => rfl
    | elt r i off =>
      simp only [stSV]
      cases s.rowAt r with
      | none => rfl
      | some p =>
        obtain ⟨k, xs⟩ := p
        simp only [Option.bind_some, stRow]
        cases xs[i]? with
        | none => rfl
        | some e =>
          simp only [Option.bind_some, stEl]
          cases s.asVal y with
          | none => rfl
          | some d =>
            obtain ⟨d, es⟩ := d
            cases es with
            | nil => simp only [Option.bind_some, stElV, List.isEmpty_nil, true_and]
            | cons _ _ => simp [stElV]
    | _ => rfl
end Go.Val

/- part V38 -/
/- Value semantics: one rule for each operation. -/
namespace Go.Val
variable {P : Program} {s : St} {dst : Option Tmp} {ty : TypeId} {pos : String} {after : Array Edge} {g : Option (Nat × Bool)}

def mnO (mx : Bool) : Option (List (IntKind × Int)) → Option Out
  | some ((k, a) :: l) => retO (foldMin mx k a l)
  | some [] => none
  | none => none
def aiTail (p : IntKind × Int) : Option (List (IntKind × Int)) → Option (List (IntKind × Int))
  | some l => some (p :: l)
  | none => none
def aiHead (s : St) (xs : List Operand) : Option (IntKind × Int) → Option (List (IntKind × Int))
  | some p => aiTail p (asInts s xs)
  | none => none
theorem asInts_nil : asInts s [] = some [] := rfl
theorem asInts_cons {x : Operand} {xs : List Operand} : asInts s (x :: xs) = aiHead s xs (s.asInt x) := by
  simp only [asInts]
  cases s.asInt x with
  | none => rfl
  | some d => simp only [Option.bind_some, aiHead]; cases asInts s xs <;> rfl
theorem a_convert {t t' : TypeId} {x : Operand} : aop P s ⟨dst, .convert t t' x, ty, pos, after, g⟩ = cvTD P s x (decide (t = t')) (P.underlying t) (P.underlying t') := convertOp_sv
theorem a_extract {x : Operand} {i : Nat} : aop P s ⟨dst, .extract x i, ty, pos, after, g⟩ = exSV i (s.opv x) := extractOp_sv
theorem a_field {t : TypeId} {x : Operand} {f : Nat} : aop P s ⟨dst, .field t x f, ty, pos, after, g⟩ = fTD P (optVal s x) f (P.underlying t) := fieldOp_sv
theorem a_index {t : TypeId} {x y : Operand} : aop P s ⟨dst, .index t x y, ty, pos, after, g⟩ = ixInt P t (optVal s x) (s.asInt y) := indexOp_sv
theorem a_slice {t : TypeId} {x : Operand} {lo hi mx : Option Operand} : aop P s ⟨dst, .slice t x lo hi mx, ty, pos, after, g⟩ = slTD P s x lo hi (P.underlying t) mx := sliceOp_sv
theorem a_store {t : TypeId} {x y : Operand} : aop P s ⟨dst, .store t x y, ty, pos, after, g⟩ = if P.cellsOf t = 0 then none else stSV s (P.cellsOf t) y (s.opv x) := storeOp_sv
theorem a_alloc {t : TypeId} : aop P s ⟨dst, .alloc t, ty, pos, after, g⟩ = alO s.box.n (zeroCVs P t) := by
  show ((zeroCVs P t).bind fun z => if z.length = 0 ∨ (toDs z).isNone then none else some ((SV.cv (.val (.ptr (some (s.box.n, 0))))), [Eff.new (.cells z)])) = _
  cases zeroCVs P t with
  | none => rfl
  | some z =>
    simp only [Option.bind_some, alO]
    cases toDs z with
    | none => simp [alD]
    | some d => simp [alD]
theorem a_box {t : TypeId} {x : Operand} : aop P s ⟨dst, .box t x, ty, pos, after, g⟩ = bxO s.box.n (P.cellsOf t) (s.asCells x) := by
  show ((s.asCells x).bind fun c => if c.1.length = P.cellsOf t ∧ anyRow (c.1.drop 1) = false then some ((SV.cv (.val (.ptr (some (s.box.n, 0))))), c.2 ++ [Eff.new (.cells c.1)]) else none) = _
  cases s.asCells x <;> rfl
theorem a_build {t : TypeId} {ps : Array (Nat × Operand)} : aop P s ⟨dst, .build t ps, ty, pos, after, g⟩ = bdO P s t ps.toList (zeroCVs P t) := by
  show ((zeroCVs P t).bind fun z => if fieldsOk P t ∧ (toDs z).isSome then (buildCells P s t z ps.toList).bind fun r => some ((SV.bld r.1), r.2) else none) = _
  cases zeroCVs P t with
  | none => rfl
  | some z =>
    simp only [Option.bind_some, bdO]
    cases fieldsOk P t with
    | false => cases toDs z <;> simp [bdCells]
    | true =>
      cases toDs z with
      | none => simp [bdCells]
      | some d => simp only [Option.isSome_some, and_self, if_true, bdCells]; cases buildCells P s t z ps.toList <;> rfl
theorem a_buildSlice {t : TypeId} {n : Nat} {ps : Array (Nat × Operand)} : aop P s ⟨dst, .buildSlice t n ps, ty, pos, after, g⟩ = bsTD P s n ps.toList (P.underlying t) := by
  show (match P.underlying t with
    | some (.slice e) => (buildElems P s (P.cellsOf e) 0 ps.toList).bind fun r => if r.1.length = n ∧ n * P.cellsOf e ≤ 2 ^ 24 ∧ P.cellsOf e ≠ 0 ∧ zeroOk P e then some ((SV.cv (.row e r.1)), r.2) else none
    | _ => none) = _
  cases P.underlying t with
  | none => rfl
  | some td =>
    cases td
    case slice e => simp only [bsTD]; cases buildElems P s (P.cellsOf e) 0 ps.toList <;> rfl
    all_goals rfl
theorem a_makeSlice {t : TypeId} {n m : Operand} : aop P s ⟨dst, .makeSlice t n m, ty, pos, after, g⟩ = msTD P s n m (P.underlying t) := makeSliceOp_sv
theorem a_makeMap {t : TypeId} : aop P s ⟨dst, .makeMap t none, ty, pos, after, g⟩ = mmTD P s.box.n (P.underlying t) := by
  show (match P.underlying t with
    | some (.map kt _) => if (P.underlying kt).isSome then some ((SV.cv (.val (.map (some s.box.n)))), [Eff.new (.map kt [])]) else none
    | _ => none) = _
  cases P.underlying t with
  | none => rfl
  | some td =>
    cases td
    case map kt e => simp only [mmTD]; cases P.underlying kt <;> rfl
    all_goals rfl
theorem a_makeFunc {f : FuncId} {first caps : Array Operand} : aop P s ⟨dst, .makeFunc (.func f) first caps, ty, pos, after, g⟩ = mfOut f (optVals s first.toList) (optVals s caps.toList) := by
  show ((optVals s first.toList).bind fun a => (optVals s caps.toList).bind fun b => if a.all DVal.one && b.all DVal.one then ret (.fn f a b) else none) = _
  cases optVals s first.toList with
  | none => rfl
  | some a => cases optVals s caps.toList <;> rfl
theorem a_lookup {t : TypeId} {x k : Operand} {ok : Bool} : aop P s ⟨dst, .lookup t x k ok, ty, pos, after, g⟩ = lkTD P s x k ok (P.underlying t) := lookupOp_sv
theorem a_mapUpdate {t : TypeId} {x k v : Operand} : aop P s ⟨dst, .mapUpdate t x k v, ty, pos, after, g⟩ = muTD P s x k v (P.underlying t) := mapUpdateOp_sv
theorem a_insert {t : TypeId} {x k v : Operand} : aop P s ⟨dst, .insert t x k v, ty, pos, after, g⟩ = muTD P s x k v (P.underlying t) := mapUpdateOp_sv
theorem a_append {x y : Operand} {t t' : TypeId} : aop P s ⟨dst, .call ⟨.builtin .append, #[x, y], #[t, t']⟩, ty, pos, after, g⟩ = apTD P s t' x y (P.underlying t) := appendOp_sv
theorem a_min {args : Array Operand} {ts : Array TypeId} : aop P s ⟨dst, .call ⟨.builtin .min, args, ts⟩, ty, pos, after, g⟩ = mnO false (asInts s args.toList) := by
  show ((asInts s args.toList).bind fun l => match l with | (k, a) :: l => (foldMin false k a l).bind ret | [] => none) = _
  cases asInts s args.toList with
  | none => rfl
  | some l =>
    cases l with
    | nil => rfl
    | cons p l => obtain ⟨k, a⟩ := p; simp only [Option.bind_some, mnO, retO_eq]
theorem a_max {args : Array Operand} {ts : Array TypeId} : aop P s ⟨dst, .call ⟨.builtin .max, args, ts⟩, ty, pos, after, g⟩ = mnO true (asInts s args.toList) := by
  show ((asInts s args.toList).bind fun l => match l with | (k, a) :: l => (foldMin true k a l).bind ret | [] => none) = _
  cases asInts s args.toList with
  | none => rfl
  | some l =>
    cases l with
    | nil => rfl
    | cons p l => obtain ⟨k, a⟩ := p; simp only [Option.bind_some, mnO, retO_eq]
end Go.Val

/- part V40 -/
/- Value semantics: the rules, as one set. -/
namespace Go.Val
attribute [go_sem] optVal_sv asVal_sv asCells_sv asRow_sv asInt_sv list_sv partCells_sv rowAt_slot rowAt_cell cell_obj setCell_obj put_none put_some eff_kill eff_fix eff_setRow eff_setCell eff_new eff_setMap a_move a_assign a_pick a_unOp a_binOp a_nilCheck g_none g_some a_load a_indexAddr a_fieldAddr a_len aggO boundOf_none boundOf_some mapAt_sv buildCells_nil buildCells_cons buildElems_nil buildElems_cons optVals_nil optVals_cons asInts_nil asInts_cons a_convert a_extract a_field a_index a_slice a_store a_alloc a_box a_build a_buildSlice a_makeSlice a_makeMap a_makeFunc a_lookup a_mapUpdate a_insert a_append a_min a_max moveOp_sv
attribute [go_sem] retO.eq_1 retO.eq_2 moveSV.eq_1 moveSV.eq_2 moveSV.eq_3 moveSV.eq_4 moveSV.eq_5 moveSV.eq_6 moveSV.eq_7 moveSV.eq_8 moveSV.eq_9 moveSV.eq_10 asgRow.eq_1 asgRow.eq_2 assignSV.eq_1 assignSV.eq_2 assignSV.eq_3 assignSV.eq_4 assignSV.eq_5 assignSV.eq_6 assignSV.eq_7 assignSV.eq_8 assignSV.eq_9 assignSV.eq_10 assignSV.eq_11 aggO.eq_1 aggO.eq_2 optSV.eq_1 optSV.eq_2 optSV.eq_3 optSV.eq_4 optSV.eq_5 optSV.eq_6 optSV.eq_7 optSV.eq_8 optSV.eq_9 optSV.eq_10 fixRow.eq_1 fixRow.eq_2 aggE.eq_1 aggE.eq_2 valSV.eq_1 valSV.eq_2 valSV.eq_3 valSV.eq_4 valSV.eq_5 valSV.eq_6 valSV.eq_7 valSV.eq_8 valSV.eq_9 valSV.eq_10 fixCells.eq_1 fixCells.eq_2 cellsSV.eq_1 cellsSV.eq_2 cellsSV.eq_3 cellsSV.eq_4 cellsSV.eq_5 cellsSV.eq_6 cellsSV.eq_7 cellsSV.eq_8 cellsSV.eq_9 cellsSV.eq_10 killRow.eq_1 killRow.eq_2 rowSV.eq_1 rowSV.eq_2 rowSV.eq_3 rowSV.eq_4 rowSV.eq_5 rowSV.eq_6 rowSV.eq_7 rowSV.eq_8 rowSV.eq_9 rowSV.eq_10 intD.eq_1 intD.eq_2 intD.eq_3 intD.eq_4 intD.eq_5 intD.eq_6 intD.eq_7 intD.eq_8 intD.eq_9 intSV.eq_1 intSV.eq_2 intSV.eq_3 intSV.eq_4 intSV.eq_5 intSV.eq_6 intSV.eq_7 intSV.eq_8 intSV.eq_9 intSV.eq_10 listRow.eq_1 listRow.eq_2 slD.eq_1 slD.eq_2 slD.eq_3 slD.eq_4 slD.eq_5 slD.eq_6 slD.eq_7 slD.eq_8 slD.eq_9 listSV.eq_1 listSV.eq_2 listSV.eq_3 listSV.eq_4 listSV.eq_5 listSV.eq_6 listSV.eq_7 listSV.eq_8 listSV.eq_9 listSV.eq_10 partV.eq_1 partV.eq_2 partSV.eq_1 partSV.eq_2 partSV.eq_3 partSV.eq_4 partSV.eq_5 partSV.eq_6 partSV.eq_7 partSV.eq_8 partSV.eq_9 partSV.eq_10 rowOfSV.eq_1 rowOfSV.eq_2 rowOfSV.eq_3 rowOfSV.eq_4 rowOfSV.eq_5 rowOfSV.eq_6 rowOfSV.eq_7 rowOfSV.eq_8 rowOfSV.eq_9 rowOfSV.eq_10 rowOfCV.eq_1 rowOfCV.eq_2 rowOfCV.eq_3 rowOfCV.eq_4 cellOf.eq_1 cellOf.eq_2 cellOf.eq_3 setCellOf.eq_1 setCellOf.eq_2 setCellOf.eq_3 putSV.eq_1 putSV.eq_2 putSV.eq_3 putSV.eq_4 putSV.eq_5 putSV.eq_6 putSV.eq_7 putSV.eq_8 putSV.eq_9 putSV.eq_10 dropCellIf.eq_1 dropCellIf.eq_2 dropCellIf.eq_3 dropCellIf.eq_4 pickD.eq_1 pickD.eq_2 pickD.eq_3 pickD.eq_4 pickD.eq_5 pickD.eq_6 pickD.eq_7 pickD.eq_8 pickD.eq_9 pickD.eq_10 pickSV.eq_1 pickSV.eq_2 pickSV.eq_3 pickSV.eq_4 pickSV.eq_5 pickSV.eq_6 pickSV.eq_7 pickSV.eq_8 pickSV.eq_9 pickSV.eq_10 unK.eq_1 unK.eq_2 binK.eq_1 binK.eq_2 binK.eq_3 nilD.eq_1 nilD.eq_2 nilD.eq_3 nilD.eq_4 nilD.eq_5 nilD.eq_6 nilD.eq_7 nilD.eq_8 nilD.eq_9 nilD.eq_10 nilSV.eq_1 nilSV.eq_2 nilSV.eq_3 nilSV.eq_4 nilSV.eq_5 nilSV.eq_6 nilSV.eq_7 nilSV.eq_8 nilSV.eq_9 nilSV.eq_10 guardD.eq_1 guardD.eq_2 guardD.eq_3 guardD.eq_4 guardD.eq_5 guardD.eq_6 guardD.eq_7 guardD.eq_8 guardD.eq_9 guardSV.eq_1 guardSV.eq_2 guardSV.eq_3 guardSV.eq_4 guardSV.eq_5 guardSV.eq_6 guardSV.eq_7 guardSV.eq_8 guardSV.eq_9 guardSV.eq_10 guardAt.eq_1 guardAt.eq_2 aggOut.eq_1 aggOut.eq_2 aggOut.eq_3 loadC.eq_1 loadC.eq_2 loadC.eq_3 loadC.eq_4 loadC.eq_5 loadAg loadCells.eq_1 loadCells.eq_2 loadAt.eq_1 loadAt.eq_2 loadAt.eq_3 loadList loadEl.eq_1 loadEl.eq_2 loadRow.eq_1 loadRow.eq_2 ptrD.eq_1 ptrD.eq_2 ptrD.eq_3 ptrD.eq_4 ptrD.eq_5 ptrD.eq_6 ptrD.eq_7 ptrD.eq_8 ptrD.eq_9 ptrD.eq_10 loadPtr loadSV.eq_1 loadSV.eq_2 loadSV.eq_3 loadSV.eq_4 loadSV.eq_5 loadSV.eq_6 loadSV.eq_7 loadSV.eq_8 loadSV.eq_9 loadSV.eq_10 loadIf.eq_1 loadIf.eq_2 idxEl.eq_1 idxEl.eq_2 idxRow.eq_1 idxRow.eq_2 idxSlD.eq_1 idxSlD.eq_2 idxSlD.eq_3 idxSlD.eq_4 idxSlD.eq_5 idxSlD.eq_6 idxSlD.eq_7 idxSlD.eq_8 idxSlD.eq_9 idxSl.eq_1 idxSl.eq_2 idxSl.eq_3 idxSl.eq_4 idxSl.eq_5 idxSl.eq_6 idxSl.eq_7 idxSl.eq_8 idxSl.eq_9 idxSl.eq_10 ptrOut ptrOn onSV.eq_1 onSV.eq_2 onSV.eq_3 onSV.eq_4 onSV.eq_5 onSV.eq_6 onSV.eq_7 onSV.eq_8 onSV.eq_9 onSV.eq_10 idxTD.eq_1 idxTD.eq_2 idxInt.eq_1 idxInt.eq_2 faFd.eq_1 faFd.eq_2 faTD.eq_1 lenD.eq_1 lenD.eq_2 lenD.eq_3 lenD.eq_4 lenD.eq_5 lenD.eq_6 lenD.eq_7 lenD.eq_8 lenD.eq_9 lenStrO.eq_1 lenStrO.eq_2 lenList.eq_1 lenList.eq_2 lenObj.eq_1 lenObj.eq_2 lenObj.eq_3 lenMapD.eq_1 lenMapD.eq_2 lenMapD.eq_3 lenMapD.eq_4 lenMapD.eq_5 lenMapD.eq_6 lenMapD.eq_7 lenMapD.eq_8 lenMapD.eq_9 lenMapD.eq_10 lenMapO.eq_1 lenMapO.eq_2 lenTD.eq_1 lenTD.eq_2 lenTD.eq_3 aggD.eq_1 aggD.eq_2 aggD.eq_3 aggD.eq_4 aggD.eq_5 aggD.eq_6 aggD.eq_7 aggD.eq_8 aggD.eq_9 aggO'.eq_1 aggO'.eq_2 strD.eq_1 strD.eq_2 strD.eq_3 strD.eq_4 strD.eq_5 strD.eq_6 strD.eq_7 strD.eq_8 strD.eq_9 strO.eq_1 strO.eq_2 fdCells fdO.eq_1 fdO.eq_2 fTD.eq_1 byteO.eq_1 byteO.eq_2 ixStr ixAr ixTD.eq_1 ixTD.eq_2 ixInt.eq_1 ixInt.eq_2 bdInt.eq_1 bdInt.eq_2 cutStr.eq_1 cutStr.eq_2 cutStrH.eq_1 cutStrH.eq_2 slStr cutSl.eq_1 cutSl.eq_2 cutSlH.eq_1 cutSlH.eq_2 slLst slV.eq_1 slNil.eq_1 slTD.eq_1 slTD.eq_2 slTD.eq_3 apStr apZero.eq_1 apZero.eq_2 apInt.eq_1 apInt.eq_2 apSrc.eq_1 apSrc.eq_2 apSrc.eq_3 apOut.eq_1 apOut.eq_2 apOut.eq_3 apTD.eq_1 msOut.eq_1 msTD.eq_1 cvInt.eq_1 cvInt.eq_2 cvStr cvBytes cvBack.eq_1 cvBack.eq_2 cvList.eq_1 cvList.eq_2 cvTD.eq_1 cvTD.eq_2 cvTD.eq_3 cvTD.eq_4 exSV.eq_1 exSV.eq_2 exSV.eq_3 exSV.eq_4 exSV.eq_5 exSV.eq_6 exSV.eq_7 mapObj.eq_1 mapObj.eq_2 mapObj.eq_3 mapD.eq_1 mapD.eq_2 mapD.eq_3 mapD.eq_4 mapD.eq_5 mapD.eq_6 mapD.eq_7 mapD.eq_8 mapD.eq_9 mapD.eq_10 lkOut.eq_1 lkOut.eq_2 lkK.eq_1 lkTD.eq_1 muOut.eq_1 muOut.eq_2 muD.eq_1 muD.eq_2 muD.eq_3 muD.eq_4 muD.eq_5 muD.eq_6 muD.eq_7 muD.eq_8 muD.eq_9 muD.eq_10 muK.eq_1 muTD.eq_1 alD.eq_1 alD.eq_2 alO.eq_1 alO.eq_2 bxO.eq_1 bxO.eq_2 bldO.eq_1 bldO.eq_2 bdCells.eq_1 bdCells.eq_2 bdCells.eq_3 bdO.eq_1 bdO.eq_2 bcTail.eq_1 bcTail.eq_2 bcPart.eq_1 bcPart.eq_2 bcPlace.eq_1 bcPlace.eq_2 beTail.eq_1 beTail.eq_2 bePart.eq_1 bePart.eq_2 bsOut.eq_1 bsOut.eq_2 bsTD.eq_1 mmOut.eq_1 mmOut.eq_2 mmTD.eq_1 mfOut.eq_1 mfOut.eq_2 mfOut.eq_3 ovTail.eq_1 ovTail.eq_2 ovHead.eq_1 ovHead.eq_2 stCells.eq_1 stCells.eq_2 stObj.eq_1 stObj.eq_2 stObj.eq_3 stPtr stElV.eq_1 stElV.eq_2 stElV.eq_3 stEl.eq_1 stEl.eq_2 stRow.eq_1 stRow.eq_2 stSV.eq_1 stSV.eq_2 stSV.eq_3 stSV.eq_4 stSV.eq_5 stSV.eq_6 stSV.eq_7 stSV.eq_8 stSV.eq_9 stSV.eq_10 mnO.eq_1 mnO.eq_2 mnO.eq_3 aiTail.eq_1 aiTail.eq_2 aiHead.eq_1 aiHead.eq_2
attribute [go_sem] runOps.eq_1 runOps.eq_2 contOps.eq_1 evalG.eq_1 evalG.eq_2 putOut.eq_1 resTail.eq_1 resHead.eq_1 results_nil resVal.eq_1 St.opv.eq_1 St.opv.eq_2 St.opv.eq_3 St.get look_hit look_miss look_nil
  unal_cv unal_undef unal_imm unal_bld unal_tup unal_alias unal_alias_eq unal_elt unal_elt_eq refix_alias refix_alias_eq refix_elt refix_elt_eq refix_cv refix_undef refix_imm refix_bld refix_tup
  St.effs.eq_1 St.effs.eq_2 St.setRoot.eq_1 St.setRoot.eq_2 mapSlots.eq_1 mapSlots.eq_2 lit.eq_1 lit.eq_2 lit.eq_3 lit.eq_4 lit.eq_5 lit.eq_6 lit.eq_7 ret tmpOf.eq_1 binD.eq_1 binD.eq_2 unD.eq_1 unD.eq_2 unD.eq_3 isShift intBin
  weakB.eq_1 weakB.eq_2 SV.fits CV.fits SV.rooted isRowSV entry Option.map_some List.getElem?_map eq_self Bool.false_eq_true List.length_map Option.bind_some
  and_self true_and and_true false_and and_false or_self or_false false_or or_true true_or not_true not_false_eq_true if_true if_false ofCells isAg DVal.cells List.length_cons List.length_nil List.take_succ_cons List.take_zero List.drop_zero
end Go.Val

/- part V41 -/
/- Value semantics: calls, by rule. -/
namespace Go.Val
variable {C : Ctx} {s : St} {x : Operand}

/-- In a region: so far, and on. -/
theorem w_upto {R : Oracle} (k : Nat) {ops : Array Oper} {K : St → Prop} {l : List Oper} {s s' : St} {o : Oper} {os : List Oper} (hl : l.drop k = o :: os) (h : runOps C.P ops (l.take k) s = some s') (hk : wpOps C R ops (o :: os) K s') : wpOps C R ops l K s :=
  run_take k h (hl ▸ hk)
theorem w_ops_end {R : Oracle} {ops : Array Oper} {K : St → Prop} {l : List Oper} {s' : St} (h : runOps C.P ops l s = some s') (hk : K s') : wpOps C R ops l K s := run_ok h hk
theorem w_ops {R : Oracle} {m : Nat} {Q : Ex → St → Prop} {id : Nat} {ops : Array Oper} {l : List Oper} (hl : ops.toList = l) (h : wpOps C R ops l (Q .normal) s) : wpCode C R m (.region id ops false) Q s := ⟨s, .refl s, hl ▸ h⟩

def agData : Option (DVal × List Eff) → Option (SV × List Eff)
  | some (d, es) => some (.cv (.val d), es)
  | none => none
def agRow (r : Root) : Option (TypeId × List DVal) → Option (SV × List Eff)
  | some (k, xs) => some (.cv (.row k xs), [.kill r])
  | none => none
def agMove (s : St) (x : Operand) : SV → Option (SV × List Eff)
  | .cv .nil => some (.cv .nil, [])
  | .cv (.row k xs) => some (.cv (.row k xs), [.kill (.slot (tmpOf x))])
  | .alias r => agRow r (s.rowAt r)
  | .cv (.val _) => none
  | .cv .dead => none
  | .imm _ => none
  | .elt _ _ _ => none
  | .bld _ => none
  | .tup _ => none
  | .undef => none
theorem argOf_data : argOf s .data x = agData (s.asVal x) := by
  simp only [argOf]
  cases s.asVal x <;> rfl
theorem argOf_move : argOf s .move x = agMove s x (s.opv x) := by
  simp only [argOf]
  cases s.opv x with
  | cv c => cases c <;> rfl
  | alias r => simp only [agMove]; cases s.rowAt r <;> rfl
  | _ => rfl
def agTail (a : SV) (es : List Eff) : Option (List SV × List Eff) → Option (List SV × List Eff)
  | some (as, es') => some (a :: as, es ++ es')
  | none => none
def agHead (C : Ctx) (f : FuncId) (s : St) (i : Nat) (xs : List Operand) : Option (SV × List Eff) → Option (List SV × List Eff)
  | some (a, es) => agTail a es (argsOf C f (s.effs es) (i + 1) xs)
  | none => none
theorem argsOf_nil {f : FuncId} {i : Nat} : argsOf C f s i [] = some ([], []) := rfl
theorem argsOf_cons {f : FuncId} {i : Nat} {xs : List Operand} : argsOf C f s i (x :: xs) = agHead C f s i xs (argOf s (C.how f i) x) := by
  simp only [argsOf]
  cases argOf s (C.how f i) x with
  | none => rfl
  | some a => simp only [Option.bind_some, agHead]; cases argsOf C f (s.effs a.2) (i + 1) xs <;> rfl
def fnD : DVal → Option (FuncId × List DVal × List DVal)
  | .fn f a b => some (f, a, b)
  | .map _ => none
  | .agg _ => none
  | .ptr _ => none
  | .int _ _ => none
  | .bool _ => none
  | .str _ => none
  | .sl _ => none
  | .nilfn => none
def fnSV : SV → Option (FuncId × List DVal × List DVal)
  | .cv (.val d) => fnD d
  | .cv .nil => none
  | .cv (.row _ _) => none
  | .cv .dead => none
  | .alias _ => none
  | .imm _ => none
  | .elt _ _ _ => none
  | .bld _ => none
  | .tup _ => none
  | .undef => none
theorem callee_func {g : FuncId} : callee s (.func g) = some (g, [], []) := rfl
theorem callee_tmp {t : Nat} : callee s (.tmp t) = fnSV (s.get t) := by
  simp only [callee, St.opv]
  cases s.get t with
  | cv c =>
    cases c with
    | val d => cases d <;> rfl
    | _ => rfl
  | _ => rfl
theorem uncell_map {sl : List (Nat × SV)} {i : Nat} {v : SV} : mapSlots SV.uncell ((i, v) :: sl) = (i, v.uncell) :: mapSlots SV.uncell sl := rfl
theorem uncell_cv {c : CV} : SV.uncell (.cv c) = .cv c := rfl
theorem uncell_undef : SV.uncell .undef = .undef := rfl
theorem uncell_imm {cs : List DVal} : SV.uncell (.imm cs) = .imm cs := rfl
theorem uncell_bld {cs : List CV} : SV.uncell (.bld cs) = .bld cs := rfl
theorem uncell_tup {ds : List DVal} : SV.uncell (.tup ds) = .tup ds := rfl
theorem uncell_slot {i : Nat} : SV.uncell (.alias (.slot i)) = .alias (.slot i) := rfl
theorem uncell_cell {l i : Nat} : SV.uncell (.alias (.cell l i)) = .cv .dead := rfl
theorem uncell_eslot {i j o : Nat} : SV.uncell (.elt (.slot i) j o) = .elt (.slot i) j o := rfl
theorem uncell_ecell {l i j o : Nat} : SV.uncell (.elt (.cell l i) j o) = .cv .dead := rfl

attribute [go_sem] argOf_data argOf_move argsOf_nil argsOf_cons callee_func callee_tmp uncell_map uncell_cv uncell_undef uncell_imm uncell_bld uncell_tup uncell_slot uncell_cell uncell_eslot uncell_ecell
attribute [go_sem] agData.eq_1 agData.eq_2 agRow.eq_1 agRow.eq_2 agMove.eq_1 agMove.eq_2 agMove.eq_3 agMove.eq_4 agMove.eq_5 agMove.eq_6 agMove.eq_7 agMove.eq_8 agMove.eq_9 agMove.eq_10 agTail.eq_1 agTail.eq_2 agHead.eq_1 agHead.eq_2 fnD.eq_1 fnD.eq_2 fnD.eq_3 fnD.eq_4 fnD.eq_5 fnD.eq_6 fnD.eq_7 fnD.eq_8 fnD.eq_9 fnSV.eq_1 fnSV.eq_2 fnSV.eq_3 fnSV.eq_4 fnSV.eq_5 fnSV.eq_6 fnSV.eq_7 fnSV.eq_8 fnSV.eq_9 fnSV.eq_10 packed.eq_1 packed.eq_2 datas.eq_1 datas.eq_2 sval List.map_cons List.map_nil List.nil_append List.cons_append List.append_nil List.append_assoc
end Go.Val

/- part V42 -/
/- Value semantics: regions whose order is drawn, by rule. -/
namespace Go.Val
variable {C : Ctx} {R : Oracle} {ops : Array Oper} {tab : List (Nat × Nat)}

def pureOut (s : St) (d : Option Nat) : Option Out → Option St
  | some (v, []) => some (s.put d v)
  | some (_, _ :: _) => none
  | none => none
def pureG (P : Program) (s : St) (o : Oper) : Option Bool → Option St
  | some true => pureOut s o.dst (aop P s o)
  | some false => some (s.put o.dst .undef)
  | none => none
def pureAt (P : Program) (ops : Array Oper) (s : St) : Option Oper → Option St
  | some o => if pass o = true then pureG P s o (guardOf ops s o) else none
  | none => none
mutual
def runPass (P : Program) (ops : Array Oper) : List Nat → St → Option St
  | [], s => some s
  | i :: l, s => contPass P ops l (pureAt P ops s ops[i]?)
def contPass (P : Program) (ops : Array Oper) : List Nat → Option St → Option St
  | l, some s => runPass P ops l s
  | _, none => none
end

theorem runPass_cons {P : Program} {i : Nat} {l : List Nat} {s s' : St} (h : runPass P ops (i :: l) s = some s') : ∃ o s1, ops[i]? = some o ∧ pass o = true ∧ pureG P s o (guardOf ops s o) = some s1 ∧ runPass P ops l s1 = some s' := by
  rw [runPass] at h
  cases he : pureAt P ops s ops[i]? with
  | none => rw [he, contPass] at h; cases h
  | some s1 =>
    rw [he, contPass] at h
    cases ho : ops[i]? with
    | none => rw [ho] at he; cases he
    | some o =>
      rw [ho] at he
      simp only [pureAt] at he
      split at he
      · rename_i hp; exact ⟨o, s1, rfl, hp, he, h⟩
      · cases he
/-- Those that nothing hangs on are told one by one. -/
theorem plan_pass {K : St → Prop} : ∀ {l rest pend : List Nat} {s s' : St}, runPass C.P ops l s = some s' → wpPlan C R ops tab (l.reverse ++ pend) rest K s' → wpPlan C R ops tab pend (l ++ rest) K s
  | [], rest, pend, s, s', h, hk => by rw [runPass] at h; cases h; simpa using hk
  | i :: l, rest, pend, s, s', h, hk => by
    obtain ⟨o, s1, ho, hp, hg, h1⟩ := runPass_cons h
    have ih := plan_pass (rest := rest) (pend := i :: pend) h1 (by simpa [List.reverse_cons, List.append_assoc] using hk)
    simp only [List.cons_append, wpPlan]
    refine ⟨o, ho, ?_⟩
    simp only [hp]
    cases hb : guardOf ops s o with
    | none => rw [hb] at hg; simp [pureG] at hg
    | some b =>
      rw [hb] at hg
      refine ⟨b, rfl, fun e => ?_, fun e => ?_⟩
      · subst e
        simp only [pureG] at hg
        cases ha : aop C.P s o with
        | none => rw [ha] at hg; simp [pureOut] at hg
        | some r =>
          obtain ⟨v, es⟩ := r
          rw [ha] at hg
          cases es with
          | nil => simp only [pureOut, Option.some.injEq] at hg; subst hg; exact ⟨v, rfl, ih⟩
          | cons _ _ => simp [pureOut] at hg
      · subst e
        simp only [pureG, Option.some.injEq] at hg
        subst hg; exact ih
theorem w_drawn {m : Nat} {Q : Ex → St → Prop} {s : St} {id : Nat} (plan : List Nat) (hp : planRight ops plan = true) (h : wpPlan C R ops (ancTab ops plan []) [] plan (Q .normal) s) : wpCode C R m (.region id ops true) Q s := ⟨s, plan, .refl s, hp, h⟩
end Go.Val

/- part V43 -/
/- Value semantics: more rules on data. -/
namespace Go.Val
theorem binD_bool {P : Program} {op : BinOp} {t : TypeId} {a b : Bool} : binD P op t (.bool a) (.bool b) = eqBin P op t (.bool a) (.bool b) := rfl
theorem binD_ptr {P : Program} {op : BinOp} {t : TypeId} {a b : Option (Nat × Nat)} : binD P op t (.ptr a) (.ptr b) = eqBin P op t (.ptr a) (.ptr b) := rfl
theorem binD_agg {P : Program} {op : BinOp} {t : TypeId} {a b : List DVal} : binD P op t (.agg a) (.agg b) = eqBin P op t (.agg a) (.agg b) := rfl
theorem beq_bytes {a b : ByteArray} : (a.toList == b.toList) = decide (a = b) := by
  rw [← beq_toListBytes]
  cases h : a == b with
  | true => have := ba_eq h; subst this; simp
  | false =>
    have : a ≠ b := fun e => by subst e; rw [ba_refl] at h; cases h
    simp [this]
attribute [go_sem] strBin shiftBin binD_bool binD_ptr binD_agg
end Go.Val

/- part V44 -/
/- Value semantics: memory as a list over what there was; what typed data are as data; the steps of the functions that are read off. -/
namespace Go.Val

/-! ### memory over memory -/
def Heap.on (h : Heap) (os : List (Option BObj)) : Heap := ⟨h.n + os.length, fun i => if i < h.n then h.at_ i else (os[i - h.n]?).join⟩
theorem Heap.ext {h h' : Heap} (hn : h.n = h'.n) (ha : ∀ i, h.at_ i = h'.at_ i) : h = h' := by
  cases h; cases h'; simp only at hn ha; subst hn; simp only [Heap.mk.injEq, true_and]; exact funext ha
theorem on_nil {h : Heap} (hwf : h.WF) : h.on [] = h := by
  refine Heap.ext rfl fun i => ?_
  simp only [Heap.on]
  split
  · rfl
  · cases hi : h.at_ i with
    | none => rfl
    | some o => exact absurd (hwf i o hi).1 (by assumption)
theorem on_new {h : Heap} {os : List (Option BObj)} {o : BObj} : (h.on os).new o = h.on (os ++ [some o]) := by
  refine Heap.ext (by simp [Heap.on, Heap.new, Nat.add_assoc]) fun i => ?_
  show (if i = h.n + os.length then some o else (if i < h.n then h.at_ i else (os[i - h.n]?).join)) = (if i < h.n then h.at_ i else ((os ++ [some o])[i - h.n]?).join)
  by_cases h1 : i < h.n
  · rw [if_neg (by omega), if_pos h1, if_pos h1]
  · by_cases h2 : i = h.n + os.length
    · subst h2; rw [if_pos rfl, if_neg h1]; simp
    · rw [if_neg h2, if_neg h1, if_neg h1]
      by_cases h3 : i - h.n < os.length
      · rw [List.getElem?_append_left h3]
      · rw [List.getElem?_eq_none (by omega), List.getElem?_eq_none (by simp; omega)]
theorem on_on {h : Heap} {os os' : List (Option BObj)} : (h.on os).on os' = h.on (os ++ os') := by
  refine Heap.ext (by simp [Heap.on, Nat.add_assoc]) fun i => ?_
  show (if i < h.n + os.length then (if i < h.n then h.at_ i else (os[i - h.n]?).join) else (os'[i - (h.n + os.length)]?).join) = (if i < h.n then h.at_ i else ((os ++ os')[i - h.n]?).join)
  by_cases h1 : i < h.n
  · rw [if_pos (by omega), if_pos h1, if_pos h1]
  · by_cases h2 : i < h.n + os.length
    · rw [if_pos h2, if_neg h1, if_neg h1, List.getElem?_append_left (by omega)]
    · rw [if_neg h2, if_neg h1, List.getElem?_append_right (by omega)]
      congr 2; omega
theorem on_at {h : Heap} {os : List (Option BObj)} {k : Nat} : (h.on os).at_ (h.n + k) = (os[k]?).join := by
  simp only [Heap.on]; rw [if_neg (by omega)]; congr 2; omega
theorem on_atB {h : Heap} {os : List (Option BObj)} {l : Nat} (hl : l < h.n) : (h.on os).at_ l = h.at_ l := by simp only [Heap.on]; rw [if_pos hl]
theorem on_upd {h : Heap} {os : List (Option BObj)} {k : Nat} {o : BObj} (hk : k < os.length) : (h.on os).upd (h.n + k) o = h.on (os.set k (some o)) := by
  refine Heap.ext (by simp [Heap.on, Heap.upd]) fun i => ?_
  show (if i = h.n + k then some o else (if i < h.n then h.at_ i else (os[i - h.n]?).join)) = (if i < h.n then h.at_ i else ((os.set k (some o))[i - h.n]?).join)
  by_cases h1 : i < h.n
  · rw [if_neg (by omega), if_pos h1, if_pos h1]
  · rw [if_neg h1, if_neg h1, List.getElem?_set]
    by_cases h2 : i = h.n + k
    · subst h2; rw [if_pos rfl, if_pos (by omega), if_pos (by omega)]; rfl
    · rw [if_neg h2, if_neg (by omega)]
theorem on_upd0 {h : Heap} {a : Option BObj} {os : List (Option BObj)} {o : BObj} : (h.on (a :: os)).upd (h.n + 0) o = h.on (some o :: os) := on_upd (by simp)
theorem on_upd1 {h : Heap} {a b : Option BObj} {os : List (Option BObj)} {o : BObj} : (h.on (a :: b :: os)).upd (h.n + 1) o = h.on (a :: some o :: os) := on_upd (by simp)
theorem on_upd2 {h : Heap} {a b c : Option BObj} {os : List (Option BObj)} {o : BObj} : (h.on (a :: b :: c :: os)).upd (h.n + 2) o = h.on (a :: b :: some o :: os) := on_upd (by simp)
theorem on_upd3 {h : Heap} {a b c d : Option BObj} {os : List (Option BObj)} {o : BObj} : (h.on (a :: b :: c :: d :: os)).upd (h.n + 3) o = h.on (a :: b :: c :: some o :: os) := on_upd (by simp)
theorem on_upd4 {h : Heap} {a b c d e : Option BObj} {os : List (Option BObj)} {o : BObj} : (h.on (a :: b :: c :: d :: e :: os)).upd (h.n + 4) o = h.on (a :: b :: c :: d :: some o :: os) := on_upd (by simp)
theorem on_upd5 {h : Heap} {a b c d e f : Option BObj} {os : List (Option BObj)} {o : BObj} : (h.on (a :: b :: c :: d :: e :: f :: os)).upd (h.n + 5) o = h.on (a :: b :: c :: d :: e :: some o :: os) := on_upd (by simp)
theorem on_upd6 {h : Heap} {a b c d e f g : Option BObj} {os : List (Option BObj)} {o : BObj} : (h.on (a :: b :: c :: d :: e :: f :: g :: os)).upd (h.n + 6) o = h.on (a :: b :: c :: d :: e :: f :: some o :: os) := on_upd (by simp)
theorem on_upd7 {h : Heap} {a b c d e f g z : Option BObj} {os : List (Option BObj)} {o : BObj} : (h.on (a :: b :: c :: d :: e :: f :: g :: z :: os)).upd (h.n + 7) o = h.on (a :: b :: c :: d :: e :: f :: g :: some o :: os) := on_upd (by simp)
theorem on_updB {h : Heap} {os : List (Option BObj)} {l : Nat} {o : BObj} (hl : l < h.n) : (h.on os).upd l o = (h.upd l o).on os := by
  refine Heap.ext rfl fun i => ?_
  show (if i = l then some o else (if i < h.n then h.at_ i else (os[i - h.n]?).join)) = (if i < h.n then (if i = l then some o else h.at_ i) else (os[i - h.n]?).join)
  by_cases h1 : i = l
  · subst h1; rw [if_pos rfl, if_pos hl, if_pos rfl]
  · rw [if_neg h1]
    by_cases h2 : i < h.n
    · rw [if_pos h2, if_pos h2, if_neg h1]
    · rw [if_neg h2, if_neg h2]
theorem upd_n {h : Heap} {l : Nat} {o : BObj} : (h.upd l o).n = h.n := rfl
theorem upd_at {h : Heap} {l : Nat} {o : BObj} : (h.upd l o).at_ l = some o := by simp [Heap.upd]
theorem upd_ne {h : Heap} {l l' : Nat} {o : BObj} (hne : l' ≠ l) : (h.upd l o).at_ l' = h.at_ l' := by simp [Heap.upd, hne]
theorem upd_upd {h : Heap} {l : Nat} {o o' : BObj} : (h.upd l o).upd l o' = h.upd l o' := Heap.ext rfl fun i => by simp only [Heap.upd]; split <;> rfl
theorem upd_same {h : Heap} {l : Nat} {o : BObj} (ha : h.at_ l = some o) : h.upd l o = h := Heap.ext rfl fun i => by
  simp only [Heap.upd]; split
  · rename_i e; rw [e, ha]
  · rfl
theorem WF.upd {h : Heap} {l : Nat} {o : BObj} (hwf : h.WF) (hl : l < h.n) (ho : o.under h.n) : (h.upd l o).WF := fun i o' hi => by
  simp only [Heap.upd] at hi
  split at hi
  · rename_i e; cases hi; subst e; exact ⟨hl, ho⟩
  · exact hwf i o' hi
theorem on_n0 {h : Heap} : (h.on []).n = h.n + 0 := rfl
theorem on_n1 {h : Heap} {a : Option BObj} : (h.on [a]).n = h.n + 1 := rfl
theorem on_n2 {h : Heap} {a b : Option BObj} : (h.on [a, b]).n = h.n + 2 := rfl
theorem on_n3 {h : Heap} {a b c : Option BObj} : (h.on [a, b, c]).n = h.n + 3 := rfl
theorem on_n4 {h : Heap} {a b c d : Option BObj} : (h.on [a, b, c, d]).n = h.n + 4 := rfl
theorem on_n5 {h : Heap} {a b c d e : Option BObj} : (h.on [a, b, c, d, e]).n = h.n + 5 := rfl
theorem on_n6 {h : Heap} {a b c d e f : Option BObj} : (h.on [a, b, c, d, e, f]).n = h.n + 6 := rfl
theorem on_n7 {h : Heap} {a b c d e f g : Option BObj} : (h.on [a, b, c, d, e, f, g]).n = h.n + 7 := rfl
theorem on_n8 {h : Heap} {a b c d e f g z : Option BObj} : (h.on [a, b, c, d, e, f, g, z]).n = h.n + 8 := rfl
theorem join_some {o : BObj} : Option.join (some (some o)) = some o := rfl

/-! ### less is kept -/
def cutO (N : Nat) : List (Option BObj) → List (Option BObj) → Prop
  | _, [] => True
  | _ :: os, none :: os' => cutO N os os'
  | some o :: os, some o' :: os' => o.fits o' ∧ o'.under N ∧ cutO N os os'
  | _, _ => False
theorem cutO_nil {N : Nat} {os : List (Option BObj)} : cutO N os [] = True := by cases os <;> rfl
def cutRoot (H H' : Heap) : SV → Prop
  | .alias (.cell l i) => H'.cell l i = H.cell l i
  | .elt (.cell l i) _ _ => H'.cell l i = H.cell l i
  | _ => True
def cutS (s : St) (H : Heap) (N : Nat) (sl0 : List (Nat × SV)) : List (Nat × SV) → Prop
  | [] => True
  | (i, v) :: sl => ((s.get i).fits v ∧ v.rooted ⟨sl0, H⟩ ∧ v.under N ∧ cutRoot s.box H v) ∧ cutS s H N sl0 sl
theorem cutS_all {s : St} {H : Heap} {N : Nat} {sl0 : List (Nat × SV)} : ∀ {sl : List (Nat × SV)}, cutS s H N sl0 sl → ∀ p ∈ sl, (s.get p.1).fits p.2 ∧ p.2.rooted ⟨sl0, H⟩ ∧ p.2.under N ∧ cutRoot s.box H p.2
  | [], _, p, hp => by cases hp
  | (i, v) :: sl, hw, p, hp => by
    rcases List.mem_cons.1 hp with rfl | hp
    · exact hw.1
    · exact cutS_all hw.2 p hp
theorem underL_le {n n' : Nat} (hn : n ≤ n') : ∀ {xs : List DVal}, underL n xs → underL n' xs := by
  have key : ∀ (d : DVal), d.under n → d.under n' := by
    intro d
    apply DVal.rec (motive_1 := fun d => d.under n → d.under n') (motive_2 := fun ds => underL n ds → underL n' ds)
    · intros; trivial
    · intros; trivial
    · intros; trivial
    · intro xs ih h; exact ih h
    · intro xs ih h; exact ih h
    · intro a h; cases a with
      | none => trivial
      | some a => exact Nat.lt_of_lt_of_le h hn
    · intro a h; cases a with
      | none => trivial
      | some a => exact Nat.lt_of_lt_of_le h hn
    · intro f a b iha ihb h; exact ⟨iha h.1, ihb h.2⟩
    · intros; trivial
    · intros; trivial
    · intro d ds ihd ihds h; exact ⟨ihd h.1, ihds h.2⟩
  intro xs
  induction xs with
  | nil => intro h; trivial
  | cons x xs ih => intro h; exact ⟨key x h.1, ih h.2⟩
theorem under_le {n n' : Nat} (hn : n ≤ n') {d : DVal} (h : d.under n) : d.under n' := (underL_le hn (xs := [d]) ⟨h, trivial⟩).1
theorem underC_le {n n' : Nat} (hn : n ≤ n') {c : CV} (h : c.under n) : c.under n' := by
  cases c with
  | val d => exact under_le hn h
  | row k xs => exact underL_le hn h
  | _ => trivial
theorem underO_le {n n' : Nat} (hn : n ≤ n') {o : BObj} (h : o.under n) : o.under n' := by
  cases o with
  | cells cs =>
    have : ∀ {cs : List CV}, underCs n cs → underCs n' cs := by
      intro cs
      induction cs with
      | nil => intro _; trivial
      | cons c cs ih => intro h; exact ⟨underC_le hn h.1, ih h.2⟩
    exact this h
  | map kt es =>
    have : ∀ {es : List (DVal × DVal)}, underEs n es → underEs n' es := by
      intro es
      induction es with
      | nil => intro _; trivial
      | cons c cs ih => intro h; exact ⟨⟨under_le hn h.1.1, under_le hn h.1.2⟩, ih h.2⟩
    exact this h
theorem bfits_refl (o : BObj) : o.fits o := by
  cases o with
  | cells cs =>
    show CV.fitsL cs cs
    induction cs with
    | nil => trivial
    | cons c cs ih => exact ⟨by cases c with
      | val d => cases d <;> rfl
      | _ => first | rfl | trivial, ih⟩
  | map kt es => rfl
theorem cutO_get {N : Nat} : ∀ {os os' : List (Option BObj)}, cutO N os os' → ∀ (k : Nat) (o' : BObj), os'[k]? = some (some o') → ∃ o, os[k]? = some (some o) ∧ o.fits o' ∧ o'.under N
  | _, [], _, k, o', h => by simp at h
  | _ :: os, none :: os', hc, k, o', h => by
    cases k with
    | zero => simp at h
    | succ k => simpa using cutO_get (os := os) (os' := os') hc k o' (by simpa using h)
  | some o :: os, some p :: os', hc, k, o', h => by
    cases k with
    | zero => simp at h; subst h; exact ⟨o, rfl, hc.1, hc.2.1⟩
    | succ k => simpa using cutO_get (os := os) (os' := os') hc.2.2 k o' (by simpa using h)
  | [], none :: _, hc, _, _, _ => by simp [cutO] at hc
  | [], some _ :: _, hc, _, _, _ => by simp [cutO] at hc
  | none :: _, some _ :: _, hc, _, _, _ => by simp [cutO] at hc
theorem cutO_len {N : Nat} : ∀ {os os' : List (Option BObj)}, cutO N os os' → os'.length ≤ os.length
  | _, [], _ => by simp
  | _ :: os, none :: os', hc => by simpa using cutO_len (os := os) (os' := os') hc
  | some o :: os, some p :: os', hc => by simpa using cutO_len (os := os) (os' := os') hc.2.2
  | [], none :: _, hc => by simp [cutO] at hc
  | [], some _ :: _, hc => by simp [cutO] at hc
  | none :: _, some _ :: _, hc => by simp [cutO] at hc

/-- To a state of which slots and variables are told; others are dropped. -/
theorem To.cut {m : Nat} {s : St} {h : Heap} {os os' : List (Option BObj)} {sl : List (Nat × SV)} (hwf : h.WF) (hm : m ≤ h.n) (hb : s.box = h.on os)
    (hc : cutO (h.on os').n os os' ∧ cutS s (h.on os') (h.on os').n sl sl) : St.To m s ⟨sl, h.on os'⟩ := by
  refine .shrink s _ _ ⟨?_, ?_, fun l o' ho' => ?_, fun p hp => ?_, fun p hp => ?_⟩ (.refl _)
  · show m ≤ h.n + os'.length; omega
  · rw [hb]; show h.n + os'.length ≤ h.n + os.length
    have := cutO_len hc.1; omega
  · rw [hb]
    simp only [Heap.on] at ho' ⊢
    by_cases h1 : l < h.n
    · rw [if_pos h1] at ho' ⊢
      have := hwf l o' ho'
      exact ⟨by omega, underO_le (by omega) this.2, o', ho', bfits_refl o'⟩
    · rw [if_neg h1] at ho' ⊢
      cases hj : os'[l - h.n]? with
      | none => rw [hj] at ho'; simp at ho'
      | some x =>
        rw [hj] at ho'
        simp only [Option.join_some] at ho'
        subst ho'
        obtain ⟨o, g1, g2, g3⟩ := cutO_get hc.1 _ _ hj
        have : l - h.n < os'.length := (List.getElem?_eq_some_iff.1 hj).1
        exact ⟨by omega, g3, o, by rw [g1]; rfl, g2⟩
  · have := cutS_all hc.2 p hp
    exact ⟨this.1, this.2.1, this.2.2.1⟩
  · have := (cutS_all hc.2 p hp).2.2.2
    unfold cutRoot at this
    split at this <;> simp_all

/-! ### typed data as data -/
class Enc {α : Type} (e : α → DVal) (k : outParam Nat) : Prop where
  cells : ∀ x, (e x).cells.length = k
  under : ∀ n x, (e x).under n
theorem sizes_map {α : Type} {e : α → DVal} {k : Nat} [Enc e k] {xs : List α} : sizesOk k (xs.map e) = true := by
  simp only [sizesOk, List.all_map, List.all_eq_true]
  intro x _
  simp [Enc.cells]
theorem under_map {α : Type} {e : α → DVal} {k n : Nat} [Enc e k] {xs : List α} : underL n (xs.map e) = True := by
  refine eq_true ?_
  induction xs with
  | nil => trivial
  | cons x xs ih => exact ⟨Enc.under n x, ih⟩
theorem under_maps {α β : Type} {e : α → DVal} {d : β → DVal} {k k' n : Nat} [Enc e k] [Enc d k'] {xs : List (α × β)} : underEs n (xs.map fun p => (e p.1, d p.2)) = True := by
  refine eq_true ?_
  induction xs with
  | nil => trivial
  | cons x xs ih => exact ⟨⟨Enc.under n x.1, Enc.under n x.2⟩, ih⟩

abbrev Str := List UInt8
def bs (s : Str) : ByteArray := ⟨s.toArray⟩
def eI (n : Int) : DVal := .int .i64 n
def eB (b : Bool) : DVal := .bool b
def eU (b : UInt8) : DVal := .int .u8 b.toNat
def eS (s : Str) : DVal := .str (bs s)
def eL {α : Type} (e : α → DVal) (xs : List α) : DVal := .sl (xs.map e)
instance : Enc eI 1 := ⟨fun _ => rfl, fun _ _ => trivial⟩
instance : Enc eB 1 := ⟨fun _ => rfl, fun _ _ => trivial⟩
instance : Enc eU 1 := ⟨fun _ => rfl, fun _ _ => trivial⟩
instance : Enc eS 1 := ⟨fun _ => rfl, fun _ _ => trivial⟩
instance {α : Type} {e : α → DVal} {k : Nat} [Enc e k] : Enc (eL e) 1 := ⟨fun _ => rfl, fun n x => by
  show underL n (x.map e)
  rw [under_map]; trivial⟩

theorem mk_bs {l : List UInt8} : ByteArray.mk l.toArray = bs l := rfl
theorem bs_size {s : Str} : (bs s).size = s.length := by simp [bs, ByteArray.size]
theorem bs_data {s : Str} : (bs s).data.toList = s := by simp [bs]
theorem bs_app {s t : Str} : bs s ++ bs t = bs (s ++ t) := by
  apply ByteArray.ext; simp [bs, ByteArray.data_append]
theorem bs_inj {s t : Str} : (bs s = bs t) = (s = t) := by
  apply propext; constructor
  · intro h; have := congrArg (fun b => b.data.toList) h; simpa [bs] using this
  · intro h; rw [h]
theorem bs_cut {s : Str} {l h : Nat} : (bs s).extract l h = bs ((s.take h).drop l) := by
  apply ByteArray.ext
  simp only [bs, ByteArray.data_extract]
  apply Array.ext'
  simp [List.drop_take]
theorem bs_toList {s : Str} : (bs s).toList = s := by
  rw [ByteArray.toList_eq, bs_data]

/-! ### the steps -/
def idx {α : Type} (xs : List α) (i : Int) : Option α := if i < 0 then none else xs[i.toNat]?
theorem Holds.idx {α β : Type} {xs : List α} {i : Int} {k : α → Option β} {D : β → Prop} (h : Holds ((idx xs i).bind k) D) : ∃ x, (i < 0) = False ∧ xs[i.toNat]? = some x ∧ (i.toNat < xs.length) = True ∧ Holds (k x) D := by
  obtain ⟨x, h1, h2⟩ := h.bind
  unfold Val.idx at h1
  split at h1
  · cases h1
  · rename_i hn
    exact ⟨x, eq_false hn, h1, eq_true (List.getElem?_eq_some_iff.1 h1).1, h2⟩
/-- xs[lo:hi], xs[lo:], xs[:hi] -/
def cut {α : Type} (xs : List α) (lo hi : Int) : Option (List α) := if 0 ≤ hi ∧ hi ≤ (xs.length : Int) ∧ 0 ≤ lo ∧ lo ≤ (hi.toNat : Int) then some ((xs.take hi.toNat).drop lo.toNat) else none
theorem Holds.cut {α β : Type} {xs : List α} {lo hi : Int} {k : List α → Option β} {D : β → Prop} (h : Holds ((cut xs lo hi).bind k) D) :
    (0 ≤ hi) = True ∧ (hi ≤ (xs.length : Int)) = True ∧ (0 ≤ lo) = True ∧ (lo ≤ (hi.toNat : Int)) = True ∧ Holds (k ((xs.take hi.toNat).drop lo.toNat)) D := by
  unfold Val.cut at h
  split at h
  · rename_i hc; exact ⟨eq_true hc.1, eq_true hc.2.1, eq_true hc.2.2.1, eq_true hc.2.2.2, h⟩
  · exact h.elim
/-- '+' of texts. -/
def cat (s t : Str) : Option Str := if ((s.length + t.length : Nat) : Int) > IntKind.i64.max then none else some (s ++ t)
theorem Holds.cat {β : Type} {s t : Str} {k : Str → Option β} {D : β → Prop} (h : Holds ((cat s t).bind k) D) :
    (((s.length + t.length : Nat) : Int) > IntKind.i64.max) = False ∧ Holds (k (s ++ t)) D := by
  unfold Val.cat at h
  split at h
  · exact h.elim
  · rename_i hc; exact ⟨eq_false hc, h⟩
/-- make([]T, n) -/
def mk {α : Type} (sz : Nat) (z : α) (n : Int) : Option (List α) := if 0 ≤ n ∧ n.toNat * sz ≤ roomOf then some (List.replicate n.toNat z) else none
theorem Holds.mk {α β : Type} {sz : Nat} {z : α} {n : Int} {k : List α → Option β} {D : β → Prop} (h : Holds ((mk sz z n).bind k) D) :
    (0 ≤ n) = True ∧ (n.toNat * sz ≤ roomOf) = True ∧ Holds (k (List.replicate n.toNat z)) D := by
  unfold Val.mk at h
  split at h
  · rename_i hc; exact ⟨eq_true hc.1, eq_true hc.2, h⟩
  · exact h.elim
theorem Holds.ite {α : Type} {b : Bool} {A B : Option α} {D : α → Prop} (h : Holds (if b = true then A else B) D) : (b = true ∧ Holds A D) ∨ (b = false ∧ Holds B D) := by
  cases b with
  | true => exact .inl ⟨rfl, h⟩
  | false => exact .inr ⟨rfl, h⟩
def u8 (n : Int) : UInt8 := UInt8.ofNat n.toNat
theorem u8_wrap {n : Int} : ((u8 (IntKind.u8.wrap n)).toNat : Int) = IntKind.u8.wrap n := by
  have h : IntKind.u8.wrap n = n % 256 := by simp [IntKind.wrap, IntKind.signed, IntKind.bits]
  rw [h]
  simp only [u8, UInt8.toNat_ofNat']
  omega
end Go.Val

/- part V45 -/
/- Value semantics: steps of walks, and of the functions that are read off; rules. -/
namespace Go.Val

section
variable {C : Ctx} {R : Oracle} {m : Nat} {Q : Ex → St → Prop} {K : St → Prop} {s s1 : St}
theorem w_k (h : K s) : Ex.then K Q .normal s := h
theorem w_n (h : K s) : Ex.then (fun s => ∃ s1, St.To m s s1 ∧ K s1) Q .normal s := ⟨s, .refl s, h⟩
theorem w_te {i : Nat} (h : Q (.exit i) s) : Ex.then K Q (.exit i) s := h
theorem w_tr (h : Q .ret s) : Ex.then K Q .ret s := h
theorem w_bn {id : Nat} (h : Q .normal s) : Ex.inBlock id Q .normal s := h
theorem w_bx {id : Nat} (h : Q .normal s) : Ex.inBlock id Q (.exit id) s := by simp only [Ex.inBlock, if_true]; exact h
theorem w_bo {i id : Nat} (h : Q (.exit i) s) (hne : (i == id) = false) : Ex.inBlock id Q (.exit i) s := by
  simp only [Ex.inBlock]; rw [if_neg (by simpa using hne)]; exact h
theorem w_br {id : Nat} (h : Q .ret s) : Ex.inBlock id Q .ret s := h
theorem w_join {sj : St} {a b : Code} (ha : wpCode C R m a (Ex.then (fun s' => St.To m s' sj) fun _ _ => False) s) (hR : R.Le R) (hk : wpCode C R m b Q sj) : wpCode C R m (.seq a b) Q s :=
  wpCode_mono hR a (fun e s h => by cases e with
    | normal => exact ⟨sj, h, hk⟩
    | _ => exact h.elim) s ha
theorem w_joinR {sj : St} {a b : Code} (ha : wpCode C (Runs C) m a (Ex.then (fun s' => St.To m s' sj) fun _ _ => False) s) (hk : wpCode C (Runs C) m b Q sj) : wpCode C (Runs C) m (.seq a b) Q s := w_join ha (Oracle.Le.refl_runs C) hk
theorem w_endR {f : FuncId} {fn : Func} {P : List SV → Heap → Prop} {out : List SV} {h' : Heap} (ht : St.To m s s1) (hres : results C f s1 fn.results.toList = some (out, h')) (hq : P out h') : atEnd C m f fn P .ret s := ⟨s1, ht, out, h', hres, h', .inl rfl, hq⟩
theorem w_endN {f : FuncId} {fn : Func} {P : List SV → Heap → Prop} {out : List SV} {h' : Heap} (ht : St.To m s s1) (hres : results C f s1 fn.results.toList = some (out, h')) (hq : P out h') : atEnd C m f fn P .normal s := ⟨s1, ht, out, h', hres, h', .inl rfl, hq⟩
def underV (n : Nat) : List SV → Prop
  | [] => True
  | v :: vs => v.under n ∧ underV n vs
theorem underV_all {n : Nat} : ∀ {vs : List SV}, underV n vs → ∀ v ∈ vs, v.under n
  | [], _, v, hv => by cases hv
  | u :: us, h, v, hv => by
    rcases List.mem_cons.1 hv with rfl | hv
    · exact h.1
    · exact underV_all h.2 v hv
theorem Drops.on {h : Heap} {os os' : List (Option BObj)} {out : List SV} (hwf : h.WF) (hm : m ≤ h.n) (hc : cutO (h.on os').n os os' ∧ underV (h.on os').n out) : Heap.Drops m (h.on os) (h.on os') out := by
  have hlen := cutO_len hc.1
  refine ⟨by show m ≤ h.n + os'.length; omega, by show h.n + os'.length ≤ h.n + os.length; omega, fun l o' ho' => ?_, underV_all hc.2⟩
  simp only [Heap.on] at ho' ⊢
  by_cases h1 : l < h.n
  · rw [if_pos h1] at ho' ⊢
    have := hwf l o' ho'
    exact ⟨by omega, underO_le (by omega) this.2, o', ho', bfits_refl o'⟩
  · rw [if_neg h1] at ho' ⊢
    cases hj : os'[l - h.n]? with
    | none => rw [hj] at ho'; simp at ho'
    | some x =>
      rw [hj] at ho'
      simp only [Option.join_some] at ho'
      subst ho'
      obtain ⟨o, g1, g2, g3⟩ := cutO_get hc.1 _ _ hj
      have : l - h.n < os'.length := (List.getElem?_eq_some_iff.1 hj).1
      exact ⟨by omega, g3, o, by rw [g1]; rfl, g2⟩
theorem w_endRD {f : FuncId} {fn : Func} {P : List SV → Heap → Prop} {out : List SV} {h' h'' : Heap} (ht : St.To m s s1) (hres : results C f s1 fn.results.toList = some (out, h')) (hd : Heap.Drops m h' h'' out) (hq : P out h'') : atEnd C m f fn P .ret s := ⟨s1, ht, out, h', hres, h'', .inr hd, hq⟩
end
theorem w_ops_nil {C : Ctx} {R : Oracle} {ops : Array Oper} {K : St → Prop} {s : St} (h : K s) : wpOps C R ops [] K s := h
/-- Room for so many elements. -/
def room (sz n : Nat) : Option Unit := if n * sz ≤ roomOf then some () else none
theorem Holds.room {β : Type} {sz n : Nat} {k : Unit → Option β} {D : β → Prop} (h : Holds ((room sz n).bind k) D) : (n * sz ≤ roomOf) = True ∧ Holds (k ()) D := by
  unfold Val.room at h
  split at h
  · rename_i hc; exact ⟨eq_true hc, h⟩
  · exact h.elim
/-- A text may be so long. -/
def roomS (n : Nat) : Option Unit := if (n : Int) > IntKind.i64.max then none else some ()
theorem Holds.roomS {β : Type} {n : Nat} {k : Unit → Option β} {D : β → Prop} (h : Holds ((roomS n).bind k) D) : ((n : Int) > IntKind.i64.max) = False ∧ Holds (k ()) D := by
  unfold Val.roomS at h
  split at h
  · exact h.elim
  · rename_i hc; exact ⟨eq_false hc, h⟩
theorem Holds.map {α β : Type} {o : Option α} {f : α → β} {D : β → Prop} (h : Holds (o.map f) D) : Holds o fun a => D (f a) := by
  cases o with
  | none => exact h.elim
  | some a => exact h
theorem Runs.start {C : Ctx} {f : FuncId} {args : List SV} {h : Heap} {Q : List SV → Heap → Prop} (fn : Func) (code : Code) (hf : C.P.funcs[f]? = some fn) (hb : fn.body = some code) (hl : args.length ≤ fn.ntmps) (hin : within fn.ntmps code = true) (hname : (fn.name == "runtime.NumGoroutine") = false)
    (hw : h.WF → (∀ v ∈ args, v.under h.n) → wpCode C (Runs C) h.n code (atEnd C h.n f fn Q) ⟨entry 0 args, h.on []⟩) : Runs C f args h Q :=
  Runs.intro fn code hf hb hl hin hname fun hwf hu => by have := hw hwf hu; rwa [on_nil hwf] at this

section
variable {C : Ctx} {s : St}
theorem w_call' {ops : Array Oper} {os : List Oper} {K : St → Prop} {dst : Option Tmp} {ty : TypeId} {pos : String} {after : Array Edge} {f : Operand} {args : Array Operand} {ts : Array TypeId} {gd : Option (Nat × Bool)}
    {g : FuncId} {fs cs : List DVal} {as : List SV} {es : List Eff} {s1 : St} {out : List SV} {hp : Heap} (h0 : guardOf ops s ⟨dst, .call ⟨.value f, args, ts⟩, ty, pos, after, gd⟩ = some true) (h1 : callee s f = some (g, fs, cs)) (h2 : argsOf C g s fs.length args.toList = some (as, es)) (h3 : s.effs es = s1)
    (h4 : Runs C g (sval fs ++ as ++ sval cs) s1.box fun o h' => o = out ∧ h' = hp) (h5 : (packed out).isSome = true) (hk : wpOps C (Runs C) ops os K (St.put ⟨mapSlots SV.uncell s1.slots, hp⟩ dst ((packed out).getD .undef))) :
    wpOps C (Runs C) ops (⟨dst, .call ⟨.value f, args, ts⟩, ty, pos, after, gd⟩ :: os) K s := by
  subst h3
  refine ⟨true, h0, fun _ => .inr ⟨g, fs, cs, as, es, h1, h2, fun _ => h4.mono fun o h' ⟨e1, e2⟩ => ?_⟩, fun e => by cases e⟩
  subst e1; subst e2
  cases hpk : packed o with
  | none => rw [hpk] at h5; cases h5
  | some v => exact ⟨v, rfl, by rw [hpk] at hk; exact hk⟩
/-- A row is turned where it lies. -/
theorem w_ext {R : Oracle} {ops : Array Oper} {os : List Oper} {K : St → Prop} {dst : Option Tmp} {ty : TypeId} {pos : String} {after : Array Edge} {f x : Operand} {xs : List Operand} {args : Array Operand} {ts : Array TypeId} {gd : Option (Nat × Bool)}
    {g : FuncId} {r : Root} {k : Nat} {zs ds ys : List DVal} (h0 : guardOf ops s ⟨dst, .call ⟨.value f, args, ts⟩, ty, pos, after, gd⟩ = some true) (h1 : callee s f = some (g, [], [])) (h2 : args.toList = x :: xs) (h3 : rootOf s x = some r) (h4 : s.rowAt r = some (k, zs))
    (h5 : optVals s xs = some ds) (h6 : ds.all DVal.one = true) (h7 : C.ext g ds k zs = some ys) (hk : wpOps C R ops os K ((s.eff (.setRow r k ys)).put dst .undef)) :
    wpOps C R ops (⟨dst, .call ⟨.value f, args, ts⟩, ty, pos, after, gd⟩ :: os) K s :=
  ⟨true, h0, fun _ => .inl (.inr ⟨g, x, xs, r, k, zs, ds, ys, h1, h2, h3, h4, h5, h6, h7, hk⟩), fun e => by cases e⟩
/-- What a guard switches off. -/
theorem w_off {R : Oracle} {ops : Array Oper} {os : List Oper} {K : St → Prop} {o : Oper} (h0 : guardOf ops s o = some false) (hk : wpOps C R ops os K (s.put o.dst .undef)) : wpOps C R ops (o :: os) K s :=
  ⟨false, h0, fun e => (by cases e), fun _ => hk⟩
end

/-! ### drawn regions, step by step -/
def holdO (P : Program) (s : St) (o : Oper) (d : Nat) : Option Bool → Prop
  | some true => aop P s o = some (s.get d, [])
  | some false => s.get d = .undef
  | none => False
def holdD (P : Program) (ops : Array Oper) (s : St) (o : Oper) : Option Nat → Prop
  | some d => holdO P s o d (guardOf ops s o)
  | none => False
def holdA (P : Program) (ops : Array Oper) (s : St) : Option Oper → Prop
  | some o => holdD P ops s o o.dst
  | none => False
def holdsL (P : Program) (ops : Array Oper) (s : St) : List Nat → Prop
  | [] => True
  | p :: ps => holdA P ops s ops[p]? ∧ holdsL P ops s ps
theorem holdsL_all {P : Program} {ops : Array Oper} {s : St} : ∀ {l : List Nat}, holdsL P ops s l → ∀ p ∈ l, holdsAt P ops s p
  | [], _, p, hp => by cases hp
  | q :: qs, h, p, hp => by
    rcases List.mem_cons.1 hp with rfl | hp
    · obtain ⟨h1, _⟩ := h
      cases ho : ops[p]? with
      | none => rw [ho] at h1; exact h1.elim
      | some o =>
        rw [ho] at h1
        simp only [holdA] at h1
        cases hd : o.dst with
        | none => rw [hd] at h1; exact h1.elim
        | some d =>
          rw [hd] at h1
          simp only [holdD] at h1
          cases hg : guardOf ops s o with
          | none => rw [hg] at h1; exact h1.elim
          | some b =>
            rw [hg] at h1
            refine ⟨o, d, ho, hd, b, hg, fun e => ?_, fun e => ?_⟩
            · subst e; exact h1
            · subst e; exact h1
    · exact holdsL_all h.2 p hp
section
variable {C : Ctx} {R : Oracle} {ops : Array Oper} {tab : List (Nat × Nat)} {K : St → Prop} {pend pend' rest : List Nat} {s s' : St} {i : Nat}
def evalAt (P : Program) (ops : Array Oper) (s : St) : Option Oper → Option St
  | some o => evalG P s o (guardOf ops s o)
  | none => none
theorem p_op (hp : ops[i]?.map pass = some false) (hh : holdsL C.P ops s pend) (h : evalAt C.P ops s ops[i]? = some s') (hf : (pend.filter fun p => !(ancBits tab i).testBit p) = pend') (hk : wpPlan C R ops tab pend' rest K s') : wpPlan C R ops tab pend (i :: rest) K s := by
  subst hf
  simp only [wpPlan]
  cases ho : ops[i]? with
  | none => rw [ho] at h; cases h
  | some o =>
    rw [ho] at h hp
    simp only [Option.map_some, Option.some.injEq] at hp
    refine ⟨o, rfl, ?_⟩
    simp only [hp]
    obtain ⟨b, hb, ht, hf⟩ := evalG_some h
    refine ⟨holdsL_all hh, b, hb, fun e => ?_, fun e => ?_⟩
    · obtain ⟨r, hr, e1⟩ := ht e
      subst e1
      exact step_of_aop hr hk
    · have e1 := hf e
      subst e1; exact hk
theorem p_call {dst : Option Tmp} {ty : TypeId} {pos : String} {after : Array Edge} {f : Operand} {args : Array Operand} {ts : Array TypeId} {gd : Option (Nat × Bool)}
    {g : FuncId} {fs cs : List DVal} {as : List SV} {es : List Eff} {s1 : St} {out : List SV} {hp : Heap} (ho : ops[i]? = some ⟨dst, .call ⟨.value f, args, ts⟩, ty, pos, after, gd⟩) (hh : holdsL C.P ops s pend) (h0 : guardOf ops s ⟨dst, .call ⟨.value f, args, ts⟩, ty, pos, after, gd⟩ = some true)
    (h1 : callee s f = some (g, fs, cs)) (h2 : argsOf C g s fs.length args.toList = some (as, es)) (h3 : s.effs es = s1) (hf : (pend.filter fun p => !(ancBits tab i).testBit p) = pend')
    (h4 : Runs C g (sval fs ++ as ++ sval cs) s1.box fun o h' => o = out ∧ h' = hp) (h5 : (packed out).isSome = true) (hk : wpPlan C (Runs C) ops tab pend' rest K (St.put ⟨mapSlots SV.uncell s1.slots, hp⟩ dst ((packed out).getD .undef))) :
    wpPlan C (Runs C) ops tab pend (i :: rest) K s := by
  subst h3; subst hf
  simp only [wpPlan]
  refine ⟨_, ho, ?_⟩
  simp only [pass]
  refine ⟨holdsL_all hh, true, h0, fun _ => .inr ⟨g, fs, cs, as, es, h1, h2, fun _ => h4.mono fun o h' ⟨e1, e2⟩ => ?_⟩, fun e => by cases e⟩
  subst e1; subst e2
  cases hpk : packed o with
  | none => rw [hpk] at h5; cases h5
  | some v => exact ⟨v, rfl, by rw [hpk] at hk; exact hk⟩
theorem p_end (hh : holdsL C.P ops s pend) (hk : K s) : wpPlan C R ops tab pend [] K s := ⟨holdsL_all hh, hk⟩
end

/-! ### words of the functions that are read off -/
def mn (a b : Int) : Int := if b < a then b else a
def mx (a b : Int) : Int := if b > a then b else a
def shL (k : IntKind) (a b : Int) : Int := k.wrap (a * 2 ^ (min b.toNat k.bits))
def shR (k : IntKind) (a b : Int) : Int := a.fdiv (2 ^ (min b.toNat k.bits))
def bAnd (k : IntKind) (a b : Int) : Int := k.wrap (BitVec.ofInt k.bits a &&& BitVec.ofInt k.bits b).toNat
def bOr (k : IntKind) (a b : Int) : Int := k.wrap (BitVec.ofInt k.bits a ||| BitVec.ofInt k.bits b).toNat
def bXor (k : IntKind) (a b : Int) : Int := k.wrap (BitVec.ofInt k.bits a ^^^ BitVec.ofInt k.bits b).toNat
def bNot (k : IntKind) (a b : Int) : Int := k.wrap (BitVec.ofInt k.bits a &&& ~~~ BitVec.ofInt k.bits b).toNat
def aget {K V : Type} [DecidableEq K] (k : K) : List (K × V) → Option V
  | [] => none
  | (k', v) :: es => if k = k' then some v else aget k es
def aput {K V : Type} [DecidableEq K] (k : K) (v : V) : List (K × V) → List (K × V)
  | [] => [(k, v)]
  | (k', v') :: es => if k = k' then (k', v) :: es else (k', v') :: aput k v es
class Key {K : Type} [DecidableEq K] (e : K → DVal) : Prop where
  eq : ∀ a b, keyEq (e a) (e b) = decide (a = b)
instance : Key eI := ⟨fun a b => by
  simp only [keyEq, eI, decide_true, Bool.true_and]
  by_cases h : a = b
  · subst h; simp
  · simp [h]⟩
instance : Key eB := ⟨fun a b => by simp only [keyEq, eB]; cases a <;> cases b <;> rfl⟩
theorem bs_beq {s t : Str} : (bs s == bs t) = decide (s = t) := by
  have := @beq_bytes (bs s) (bs t)
  rw [← beq_toListBytes] at this
  rw [this]
  simp only [bs_inj]
instance : Key eS := ⟨fun a b => by simp only [keyEq, eS]; exact bs_beq⟩
theorem mfind_map {K V : Type} [DecidableEq K] {e : K → DVal} {d : V → DVal} [Key e] {k : K} : ∀ {es : List (K × V)}, mfind (e k) (es.map fun p => (e p.1, d p.2)) = (aget k es).map d
  | [] => rfl
  | (k', v) :: es => by
    simp only [List.map_cons, mfind, aget, Key.eq]
    by_cases h : k = k'
    · simp [h]
    · simp only [h, decide_false, Bool.false_eq_true, if_false]; exact mfind_map
theorem mput_map {K V : Type} [DecidableEq K] {e : K → DVal} {d : V → DVal} [Key e] {k : K} {v : V} : ∀ {es : List (K × V)}, mput (e k) (d v) (es.map fun p => (e p.1, d p.2)) = (aput k v es).map fun p => (e p.1, d p.2)
  | [] => rfl
  | (k', v') :: es => by
    simp only [List.map_cons, mput, aput, Key.eq]
    by_cases h : k = k'
    · simp [h]
    · simp only [h, decide_false, Bool.false_eq_true, if_false, List.map_cons]; rw [mput_map]
theorem getD_map {α β : Type} {o : Option α} {f : α → β} {z : α} : (o.map f).getD (f z) = f (o.getD z) := by cases o <;> rfl
theorem strOf_map {l : List UInt8} : strOf (l.map eU) = some l := by
  induction l with
  | nil => rfl
  | cons c l ih => simp only [List.map_cons, eU, strOf]; rw [show strOf (l.map eU) = some l from ih]; simp
theorem bytesD_bs {s : Str} : bytesD (bs s) = s.map eU := by simp [bytesD, bs, eU]
theorem ite_and {c e : Bool} : (if c = true then some e else some false) = some (c && e) := by cases c <;> rfl
theorem take_map' {α β : Type} {f : α → β} {l : List α} {n : Nat} : (l.map f).take n = (l.take n).map f := List.map_take.symm
theorem drop_map' {α β : Type} {f : α → β} {l : List α} {n : Nat} : (l.map f).drop n = (l.drop n).map f := List.map_drop.symm
theorem zero_lt_lit {n : Nat} : (0 < n + 1) = True := by simp
theorem lit_eq_zero {n : Nat} : (n + 1 = 0) = False := by simp
end Go.Val

/- part V46 -/
/- Value semantics: the rules of walks, in the set. -/
namespace Go.Val
theorem on_atU {h : Heap} {os : List (Option BObj)} {l l' : Nat} {o : BObj} (hl : l < h.n) : ((h.upd l' o).on os).at_ l = (h.upd l' o).at_ l := on_atB hl
theorem on_atUU {h : Heap} {os : List (Option BObj)} {l l' l2 : Nat} {o o2 : BObj} (hl : l < h.n) : (((h.upd l' o).upd l2 o2).on os).at_ l = ((h.upd l' o).upd l2 o2).at_ l := on_atB hl
theorem on_updU {h : Heap} {os : List (Option BObj)} {l l' : Nat} {o o' : BObj} (hl : l < h.n) : ((h.upd l' o').on os).upd l o = ((h.upd l' o').upd l o).on os := on_updB hl
theorem on_updUU {h : Heap} {os : List (Option BObj)} {l l' l2 : Nat} {o o' o2 : BObj} (hl : l < h.n) : (((h.upd l' o').upd l2 o2).on os).upd l o = (((h.upd l' o').upd l2 o2).upd l o).on os := on_updB hl
theorem upd_swap {h : Heap} {la lb : Nat} {o o' : BObj} (hn : la ≠ lb) : (h.upd lb o).upd la o' = (h.upd la o').upd lb o := Heap.ext rfl fun i => by
  simp only [Heap.upd]
  by_cases h1 : i = la
  · subst h1; rw [if_pos rfl, if_neg hn, if_pos rfl]
  · rw [if_neg h1]; split <;> rfl
theorem fits_self {v : SV} : v.fits v = True := eq_true (fits_refl v)
theorem cfits_self {c : CV} : c.fits c = True := eq_true (by cases c with
  | val d => cases d <;> rfl
  | dead => trivial
  | _ => rfl)
theorem fits_nilrow {k : TypeId} : SV.fits (.cv .nil) (.cv (.row k [])) = True := eq_true rfl
theorem fits_nilval : SV.fits (.cv .nil) (.cv (.val (.sl []))) = True := eq_true rfl
theorem cfits_nilrow {k : TypeId} : CV.fits .nil (.row k []) = True := eq_true rfl
theorem cfits_nilval : CV.fits .nil (.val (.sl [])) = True := eq_true rfl
theorem ofits_cells {a b : List CV} : BObj.fits (.cells a) (.cells b) = CV.fitsL a b := rfl
theorem ofits_map {k : TypeId} {a : List (DVal × DVal)} : BObj.fits (.map k a) (.map k a) = True := eq_true rfl
theorem fitsL_nil : CV.fitsL [] [] = True := rfl
theorem fitsL_cons {c c' : CV} {cs cs' : List CV} : CV.fitsL (c :: cs) (c' :: cs') = (c.fits c' ∧ CV.fitsL cs cs') := rfl
theorem under_int {n : Nat} {k : IntKind} {i : Int} : (DVal.int k i).under n = True := rfl
theorem under_bool {n : Nat} {b : Bool} : (DVal.bool b).under n = True := rfl
theorem under_str {n : Nat} {b : ByteArray} : (DVal.str b).under n = True := rfl
theorem under_sl {n : Nat} {xs : List DVal} : (DVal.sl xs).under n = underL n xs := rfl
theorem under_agg {n : Nat} {xs : List DVal} : (DVal.agg xs).under n = underL n xs := rfl
theorem under_nilptr {n : Nat} : (DVal.ptr none).under n = True := rfl
theorem under_ptr {n l o : Nat} : (DVal.ptr (some (l, o))).under n = (l < n) := rfl
theorem under_nilmap {n : Nat} : (DVal.map none).under n = True := rfl
theorem under_mapp {n l : Nat} : (DVal.map (some l)).under n = (l < n) := rfl
theorem under_fn {n : Nat} {f : FuncId} {a b : List DVal} : (DVal.fn f a b).under n = (underL n a ∧ underL n b) := rfl
theorem underL_nil {n : Nat} : underL n [] = True := rfl
theorem underL_cons {n : Nat} {d : DVal} {ds : List DVal} : underL n (d :: ds) = (d.under n ∧ underL n ds) := rfl
theorem cunder_val {n : Nat} {d : DVal} : (CV.val d).under n = d.under n := rfl
theorem cunder_nil {n : Nat} : CV.nil.under n = True := rfl
theorem cunder_dead {n : Nat} : CV.dead.under n = True := rfl
theorem cunder_row {n : Nat} {k : TypeId} {xs : List DVal} : (CV.row k xs).under n = underL n xs := rfl
theorem underCs_nil {n : Nat} : underCs n [] = True := rfl
theorem underCs_cons {n : Nat} {c : CV} {cs : List CV} : underCs n (c :: cs) = (c.under n ∧ underCs n cs) := rfl
theorem ounder_cells {n : Nat} {cs : List CV} : (BObj.cells cs).under n = underCs n cs := rfl
theorem ounder_map {n : Nat} {k : TypeId} {es : List (DVal × DVal)} : (BObj.map k es).under n = underEs n es := rfl
theorem sunder_cv {n : Nat} {c : CV} : (SV.cv c).under n = c.under n := rfl
theorem sunder_undef {n : Nat} : SV.undef.under n = True := rfl
theorem sunder_slot {n i : Nat} : (SV.alias (.slot i)).under n = True := rfl
theorem sunder_cell {n l i : Nat} : (SV.alias (.cell l i)).under n = (l < n) := rfl
theorem sunder_imm {n : Nat} {ds : List DVal} : (SV.imm ds).under n = underL n ds := rfl
theorem sunder_eslot {n i j o : Nat} : (SV.elt (.slot i) j o).under n = True := rfl
theorem sunder_ecell {n l i j o : Nat} : (SV.elt (.cell l i) j o).under n = (l < n) := rfl
theorem sunder_bld {n : Nat} {cs : List CV} : (SV.bld cs).under n = underCs n cs := rfl
theorem sunder_tup {n : Nat} {ds : List DVal} : (SV.tup ds).under n = underL n ds := rfl
theorem rooted_cv {s : St} {c : CV} : (SV.cv c).rooted s = True := rfl
theorem rooted_undef {s : St} : SV.undef.rooted s = True := rfl
theorem rooted_imm {s : St} {ds : List DVal} : (SV.imm ds).rooted s = True := rfl
theorem rooted_bld {s : St} {ds : List CV} : (SV.bld ds).rooted s = True := rfl
theorem rooted_tup {s : St} {ds : List DVal} : (SV.tup ds).rooted s = True := rfl
theorem rooted_slot {s : St} {i : Nat} : (SV.alias (.slot i)).rooted s = (isRowSV (s.get i) = true) := rfl
theorem rooted_cell {s : St} {l i : Nat} : (SV.alias (.cell l i)).rooted s = True := rfl
theorem rooted_eslot {s : St} {i j o : Nat} : (SV.elt (.slot i) j o).rooted s = (isRowSV (s.get i) = true) := rfl
theorem rooted_ecell {s : St} {l i j o : Nat} : (SV.elt (.cell l i) j o).rooted s = True := rfl
theorem isRow_row {k : TypeId} {xs : List DVal} : isRowSV (.cv (.row k xs)) = true := rfl
theorem cutRoot_cv {H H' : Heap} {c : CV} : cutRoot H H' (.cv c) = True := rfl
theorem cutRoot_undef {H H' : Heap} : cutRoot H H' .undef = True := rfl
theorem cutRoot_imm {H H' : Heap} {c : List DVal} : cutRoot H H' (.imm c) = True := rfl
theorem cutRoot_bld {H H' : Heap} {c : List CV} : cutRoot H H' (.bld c) = True := rfl
theorem cutRoot_tup {H H' : Heap} {c : List DVal} : cutRoot H H' (.tup c) = True := rfl
theorem cutRoot_slot {H H' : Heap} {i : Nat} : cutRoot H H' (.alias (.slot i)) = True := rfl
theorem cutRoot_eslot {H H' : Heap} {i j o : Nat} : cutRoot H H' (.elt (.slot i) j o) = True := rfl
theorem lt_add_lit {n a b : Nat} (h : Apart (decide (a < b)) false) : (n + a < n + b) = True := eq_true (by
  have : a < b := by simpa using h.ne
  omega)
theorem cutO_cons {N : Nat} {o o' : BObj} {os os' : List (Option BObj)} : cutO N (some o :: os) (some o' :: os') = (o.fits o' ∧ o'.under N ∧ cutO N os os') := rfl
theorem cutO_none {N : Nat} {o : Option BObj} {os os' : List (Option BObj)} : cutO N (o :: os) (none :: os') = cutO N os os' := by cases o <;> rfl
theorem cutS_nil {s : St} {H : Heap} {N : Nat} {l : List (Nat × SV)} : cutS s H N l [] = True := rfl
theorem cutS_cons {s : St} {H : Heap} {N i : Nat} {v : SV} {l sl : List (Nat × SV)} : cutS s H N l ((i, v) :: sl) = (((s.get i).fits v ∧ v.rooted ⟨l, H⟩ ∧ v.under N ∧ cutRoot s.box H v) ∧ cutS s H N l sl) := rfl
theorem sizes_nil {k : Nat} : sizesOk k [] = true := rfl
theorem sizes_cons {k : Nat} {d : DVal} {ds : List DVal} : sizesOk k (d :: ds) = (d.cells.length == k && sizesOk k ds) := rfl
theorem beq_same {n : Nat} : (n == n) = true := by simp
theorem apOk_iff {P : Program} {e : TypeId} {xs ys : List DVal} : apOk P e xs ys = ((xs.length + ys.length) * P.bytesOf e ≤ roomOf ∧ sizesOk (P.cellsOf e) ys = true ∧ 0 < P.bytesOf e ∧ 0 < P.cellsOf e ∧ zeroFits P e = true) := rfl
attribute [go_sem] on_new on_at on_upd0 on_upd1 on_upd2 on_upd3 on_upd4 on_upd5 on_upd6 on_upd7 on_n0 on_n1 on_n2 on_n3 on_n4 on_n5 on_n6 on_n7 on_n8 on_on upd_n upd_at upd_upd join_some List.getElem?_cons_zero List.getElem?_cons_succ
  List.getElem?_toArray Option.join_some
  fits_self cfits_self fits_nilrow fits_nilval cfits_nilrow cfits_nilval ofits_cells ofits_map fitsL_nil fitsL_cons under_int under_bool under_str under_sl under_agg under_nilptr under_ptr under_nilmap under_mapp under_fn underL_nil underL_cons cunder_val cunder_nil cunder_dead cunder_row underCs_nil underCs_cons ounder_cells ounder_map sunder_cv sunder_undef sunder_slot sunder_cell sunder_imm sunder_eslot sunder_ecell sunder_bld sunder_tup rooted_cv rooted_undef rooted_imm rooted_bld rooted_tup rooted_slot rooted_cell rooted_eslot rooted_ecell isRow_row lt_add_lit
  under_map under_maps sizes_map sizes_nil sizes_cons beq_same apOk_iff
  eI eB eU eS eL mk_bs bs_size bs_data bs_app bs_inj bs_cut bs_toList u8_wrap shL shR bAnd bOr bXor bNot mfind_map mput_map getD_map strOf_map bytesD_bs ite_and take_map' drop_map' zero_lt_lit lit_eq_zero
  List.take_length List.map_append List.map_cons List.map_nil Bool.true_and Bool.false_and Bool.and_true Bool.and_false Bool.true_or Bool.false_or Bool.or_true Bool.or_false Bool.not_true Bool.not_false cond_true cond_false Option.getD_some Option.isNone_some Option.isNone_none
  cutO_nil cutO_cons cutO_none cutS_nil cutS_cons cutRoot_cv cutRoot_undef cutRoot_imm cutRoot_bld cutRoot_tup cutRoot_slot cutRoot_eslot holdsL holdA holdD holdO runPass contPass pureAt pureG.eq_1 pureG.eq_2 pureOut.eq_1 pass
end Go.Val
namespace Go.Val
section
variable {C : Ctx} {m : Nat} {Q : Ex → St → Prop} {K : St → Prop} {s s1 : St}
theorem w_nT (ht : St.To m s s1) (h : K s1) : Ex.then (fun s => ∃ s1, St.To m s s1 ∧ K s1) Q .normal s := ⟨s1, ht, h⟩
/-- Where ways meet: what the rest is, as it is read off. -/
theorem w_K {σ ρ : Type} {D : ρ → Prop} {a : Code} (inv : σ → St) (kk : σ → Option ρ) (h2 : ∀ (x : σ) (s' : St), Holds (kk x) D → St.To m s' (inv x) → Q .normal s')
    (h1 : wpCode C (Runs C) m a (Ex.then (fun s' => ∃ x, Holds (kk x) D ∧ St.To m s' (inv x)) Q) s) : wpCode C (Runs C) m a Q s :=
  wpCode_mono (Oracle.Le.refl_runs C) a (fun e s' h => by cases e with
    | normal => obtain ⟨x, hx, ht⟩ := h; exact h2 x s' hx ht
    | _ => exact h) s h1
end
end Go.Val
namespace Go.Val
theorem p_run {C : Ctx} {R : Oracle} {ops : Array Oper} {tab : List (Nat × Nat)} {K : St → Prop} {l rest pend pend' : List Nat} {s s' : St} (h : runPass C.P ops l s = some s') (hp : l.reverse ++ pend = pend') (hk : wpPlan C R ops tab pend' rest K s') : wpPlan C R ops tab pend (l ++ rest) K s :=
  plan_pass h (hp ▸ hk)
end Go.Val

/- part V47 -/
/- Value semantics: more rules of walks. -/
namespace Go.Val
theorem any_nil : anyRow [] = false := rfl
theorem any_cons {c : CV} {cs : List CV} : anyRow (c :: cs) = (c.isRow || anyRow cs) := rfl
theorem isR_val {d : DVal} : (CV.val d).isRow = false := rfl
theorem isR_nil : CV.nil.isRow = false := rfl
theorem isR_row {k : TypeId} {xs : List DVal} : (CV.row k xs).isRow = true := rfl
theorem ne_same {α : Type} {n : α} : (n ≠ n) = False := by simp
theorem b_true {b : Bool} : (b == true) = b := by cases b <;> rfl
theorem b_false {b : Bool} : (b == false) = !b := by cases b <;> rfl
theorem toDs_nil : toDs [] = some [] := rfl
theorem toDs_val {d : DVal} {cs : List CV} : toDs (.val d :: cs) = (toDs cs).map (List.cons d) := by
  simp only [toDs, CV.toD, Option.bind_some]; cases toDs cs <;> rfl
theorem toDs_cnil {cs : List CV} : toDs (.nil :: cs) = (toDs cs).map (List.cons (.sl [])) := by
  simp only [toDs, CV.toD, Option.bind_some]; cases toDs cs <;> rfl
theorem toDs_row {k : TypeId} {xs : List DVal} {cs : List CV} : toDs (.row k xs :: cs) = (toDs cs).map (List.cons (.sl xs)) := by
  simp only [toDs, CV.toD, Option.bind_some]; cases toDs cs <;> rfl
theorem ne_zero_lit {n : Nat} : (n + 1 ≠ 0) = True := by simp
theorem le_big {n : Nat} (h : Apart (decide (n ≤ 16777216)) false) : (n ≤ 2 ^ 24) = True := eq_true (by
  have : n ≤ 16777216 := by simpa using h.ne
  omega)
theorem under_add {n k : Nat} {xs : List DVal} (u : underL n xs) : underL (n + k) xs = True := eq_true (underL_le (Nat.le_add_right n k) u)
theorem eqF_nil {P : Program} {as bs : List DVal} : eqFieldsD P as bs [] = some true := rfl
def eqF1 (P : Program) (f : Field) (t : Option TypeDesc) (a b : Option DVal) : Option Bool :=
  match t, a, b with
  | some t, some a, some b => scalarEq t a b
  | _, _, _ => none
theorem eqF_cons {P : Program} {as bs : List DVal} {f : Field} {fs : List Field} {e r : Bool} (h1 : f.name = "_" ∨ isAg P f.type = true ↔ False) (h2 : eqF1 P f (P.underlying f.type) as[f.offset]? bs[f.offset]? = some e) (h3 : eqFieldsD P as bs fs = some r) : eqFieldsD P as bs (f :: fs) = some (e && r) := by
  simp only [eqFieldsD]
  rw [if_neg (fun h => h1.1 h)]
  cases ht : P.underlying f.type with
  | none => rw [ht] at h2; simp [eqF1] at h2
  | some t =>
    cases ha : as[f.offset]? with
    | none => rw [ht, ha] at h2; simp [eqF1] at h2
    | some a =>
      cases hb : bs[f.offset]? with
      | none => rw [ht, ha, hb] at h2; simp [eqF1] at h2
      | some b =>
        rw [ht, ha, hb] at h2
        simp only [eqF1] at h2
        simp only [Option.bind_some, h2, h3]
        cases e <;> rfl
theorem eqD_of {P : Program} {t : TypeId} {fs : Array Field} {as bs : List DVal} {r : Bool} (hu : P.underlying t = some (.struct fs)) (hs : P.stoodInHeld t = false) (hg : P.eqGuardType P.depth t = false) (h : eqFieldsD P as bs fs.toList = some r) : eqD P t (.agg as) (.agg bs) = some r := by
  unfold eqD
  rw [hu]
  simp only [Option.bind_some, hs, hg]
  simpa using h
theorem eqBin_eql {P : Program} {t : TypeId} {as bs : List DVal} {r : Bool} (h : eqD P t (.agg as) (.agg bs) = some r) : eqBin P .eql t (.agg as) (.agg bs) = some (.bool r) := by simp [eqBin, h]
theorem eqBin_neq {P : Program} {t : TypeId} {as bs : List DVal} {r : Bool} (h : eqD P t (.agg as) (.agg bs) = some r) : eqBin P .neq t (.agg as) (.agg bs) = some (.bool (!r)) := by simp [eqBin, h]
theorem bs_beq' {s t : Str} : (bs s == bs t) = (s == t) := by rw [bs_beq]; by_cases h : s = t <;> simp [h]
theorem le_same {n : Nat} : (n ≤ n) = True := eq_true (Nat.le_refl n)
theorem setCells_nil {l i : Nat} : setCells l i [] = [] := rfl
theorem setCells_cons {l i : Nat} {c : CV} {cs : List CV} : setCells l i (c :: cs) = .setCell l i c :: setCells l (i + 1) cs := rfl
theorem le_room {n : Nat} (h : Apart (decide (n ≤ 140737488355328)) false) : (n ≤ roomOf) = True := eq_true (by
  have : n ≤ 140737488355328 := by simpa using h.ne
  unfold roomOf; omega)
theorem packed1 {v : SV} : packed [v] = some v := rfl
theorem packed0 : packed [] = some .undef := rfl
theorem packed2 {a b : DVal} : packed [.cv (.val a), .cv (.val b)] = some (.tup [a, b]) := rfl
theorem packed3 {a b c : DVal} : packed [.cv (.val a), .cv (.val b), .cv (.val c)] = some (.tup [a, b, c]) := rfl
theorem packed4 {a b c d : DVal} : packed [.cv (.val a), .cv (.val b), .cv (.val c), .cv (.val d)] = some (.tup [a, b, c, d]) := rfl
theorem strOf_nil : strOf [] = some [] := rfl
theorem strOf_cons {n : Int} {ds : List DVal} : strOf (.int .u8 n :: ds) = (strOf ds).map (List.cons (u8 n)) := by
  simp only [strOf, u8]; cases strOf ds <;> rfl
theorem strOf_app {xs : List UInt8} {ds : List DVal} : strOf (xs.map eU ++ ds) = (strOf ds).map (xs ++ ·) := by
  induction xs with
  | nil => simp
  | cons x xs ih =>
    simp only [List.map_cons, List.cons_append, eU]
    rw [strOf_cons, show strOf (List.map eU xs ++ ds) = _ from ih]
    have : u8 (x.toNat : Int) = x := by simp [u8]
    cases strOf ds <;> simp [this]
theorem u8_nat {x : UInt8} : u8 (x.toNat : Int) = x := by simp [u8]
theorem underL_append {n : Nat} {xs ys : List DVal} : underL n (xs ++ ys) = (underL n xs ∧ underL n ys) := by
  induction xs with
  | nil => simp [underL]
  | cons x xs ih => simp only [List.cons_append, underL, ih, and_assoc]
theorem foldMin_nil {b : Bool} {k : IntKind} {a : Int} : foldMin b k a [] = some (.int k a) := rfl
theorem foldMin_min {k : IntKind} {a b : Int} {l : List (IntKind × Int)} : foldMin false k a ((k, b) :: l) = foldMin false k (mn a b) l := by simp [foldMin, mn]
theorem foldMin_max {k : IntKind} {a b : Int} {l : List (IntKind × Int)} : foldMin true k a ((k, b) :: l) = foldMin true k (mx a b) l := by simp [foldMin, mx]
theorem t_ne_f : (true = false) = False := by simp
theorem f_ne_t : (false = true) = False := by simp
theorem underL_rep {n k : Nat} {d : DVal} : underL n (List.replicate k d) = (d.under n ∨ k = 0) := by
  induction k with
  | zero => simp [underL]
  | succ k ih =>
    simp only [List.replicate_succ, underL, ih]
    apply propext
    constructor
    · intro h; exact .inl h.1
    · intro h
      rcases h with h | h
      · exact ⟨h, .inl h⟩
      · omega
theorem one_int {k : IntKind} {n : Int} : (DVal.int k n).one = true := rfl
theorem one_bool {b : Bool} : (DVal.bool b).one = true := rfl
theorem one_str {b : ByteArray} : (DVal.str b).one = true := rfl
theorem one_sl {b : List DVal} : (DVal.sl b).one = true := rfl
theorem one_ptr {b : Option (Nat × Nat)} : (DVal.ptr b).one = true := rfl
theorem one_map {b : Option Nat} : (DVal.map b).one = true := rfl
theorem one_fn {f : FuncId} {a b : List DVal} : (DVal.fn f a b).one = true := rfl
theorem remake_agg {a cs : List DVal} : remake (.agg a) cs = .agg cs := rfl
theorem remake_int {k : IntKind} {n : Int} {c : DVal} : remake (.int k n) [c] = c := rfl
theorem remake_bool {b : Bool} {c : DVal} : remake (.bool b) [c] = c := rfl
theorem remake_str {b : ByteArray} {c : DVal} : remake (.str b) [c] = c := rfl
theorem remake_sl {b : List DVal} {c : DVal} : remake (.sl b) [c] = c := rfl
theorem setFrom_nil {α : Type} {cs : List α} {i : Nat} : setFrom cs i [] = cs := rfl
theorem setFrom_cons {α : Type} {cs ns : List α} {i : Nat} {n : α} : setFrom cs i (n :: ns) = setFrom (cs.set i n) (i + 1) ns := rfl
theorem u8_lit {n : Int} (h : Apart (decide (0 ≤ n ∧ n < 256)) false) : ((u8 n).toNat : Int) = n := by
  have : 0 ≤ n ∧ n < 256 := by simpa using h.ne
  simp only [u8, UInt8.toNat_ofNat']
  omega
theorem underL_get {n : Nat} : ∀ {xs : List DVal}, underL n xs ↔ ∀ (i : Nat) (d : DVal), xs[i]? = some d → d.under n := by
  intro xs
  constructor
  · intro h i d hd; exact underL_mem h d (List.mem_of_getElem? hd)
  · intro h; exact underL_of fun x hx => by
      obtain ⟨i, hi⟩ := List.getElem?_of_mem hx
      exact h i x hi
theorem underL_set {α : Type} {e : α → DVal} {k n i : Nat} [Enc e k] {xs : List α} {d : DVal} : underL n ((List.map e xs).set i d) = (d.under n ∨ xs.length ≤ i) := by
  apply propext
  rw [underL_get]
  constructor
  · intro h
    by_cases hi : i < xs.length
    · exact .inl (h i d (by rw [List.getElem?_set]; simp [hi]))
    · exact .inr (by omega)
  · intro h j c hc
    rw [List.getElem?_set] at hc
    split at hc
    · split at hc
      · simp only [Option.some.injEq] at hc; subst hc
        rcases h with h | h
        · exact h
        · rename_i h1 h2; simp at h2; omega
      · cases hc
    · rw [List.getElem?_map] at hc
      cases hx : xs[j]? with
      | none => rw [hx] at hc; simp at hc
      | some x => rw [hx] at hc; simp at hc; subst hc; exact Enc.under n x
theorem unal_sc {i l j : Nat} : SV.unal (.slot i) (.alias (.cell l j)) = .alias (.cell l j) := by simp [SV.unal, SV.drop]
theorem unal_cs {i l j : Nat} : SV.unal (.cell l j) (.alias (.slot i)) = .alias (.slot i) := by simp [SV.unal, SV.drop]
theorem unal_cc {l i j : Nat} (h : Apart j i) : SV.unal (.cell l i) (.alias (.cell l j)) = .alias (.cell l j) := by simp [SV.unal, SV.drop, h.ne]
theorem unal_esc {i l j x y : Nat} : SV.unal (.slot i) (.elt (.cell l j) x y) = .elt (.cell l j) x y := by simp [SV.unal, SV.drop]
theorem unal_ecs {i l j x y : Nat} : SV.unal (.cell l j) (.elt (.slot i) x y) = .elt (.slot i) x y := by simp [SV.unal, SV.drop]
theorem unal_ecc {l i j x y : Nat} (h : Apart j i) : SV.unal (.cell l i) (.elt (.cell l j) x y) = .elt (.cell l j) x y := by simp [SV.unal, SV.drop, h.ne]
theorem refix_sc {i l j : Nat} {d : DVal} : SV.refix (.slot i) d (.alias (.cell l j)) = .alias (.cell l j) := by simp [SV.refix]
theorem refix_cs {i l j : Nat} {d : DVal} : SV.refix (.cell l j) d (.alias (.slot i)) = .alias (.slot i) := by simp [SV.refix]
theorem refix_cc {l i j : Nat} {d : DVal} (h : Apart j i) : SV.refix (.cell l i) d (.alias (.cell l j)) = .alias (.cell l j) := by simp [SV.refix, h.ne]
theorem lt_add {l n k : Nat} (h : l < n) : (l < n + k) = True := eq_true (by omega)
theorem lt_at {l n : Nat} (h : l < n) : (l < n) = True := eq_true h
theorem underV_nil {n : Nat} : underV n [] = True := rfl
theorem underV_cons {n : Nat} {v : SV} {vs : List SV} : underV n (v :: vs) = (v.under n ∧ underV n vs) := rfl
def encM {K V : Type} (e : K → DVal) (d : V → DVal) (es : List (K × V)) : List (DVal × DVal) := es.map fun p => (e p.1, d p.2)
theorem encM_nil {K V : Type} {e : K → DVal} {d : V → DVal} : encM e d [] = [] := rfl
theorem encM_len {K V : Type} {e : K → DVal} {d : V → DVal} {es : List (K × V)} : (encM e d es).length = es.length := by simp [encM]
theorem encM_under {K V : Type} {e : K → DVal} {d : V → DVal} {k k' n : Nat} [Enc e k] [Enc d k'] {es : List (K × V)} : underEs n (encM e d es) = True := under_maps
theorem underEs_nil {n : Nat} : underEs n [] = True := rfl
theorem mfind_S {V : Type} {d : V → DVal} {k : Str} {es : List (Str × V)} : mfind (.str (bs k)) (encM eS d es) = (aget k es).map d := mfind_map (e := eS)
theorem mfind_I {V : Type} {d : V → DVal} {k : Int} {es : List (Int × V)} : mfind (.int .i64 k) (encM eI d es) = (aget k es).map d := mfind_map (e := eI)
theorem mput_SI {k : Str} {v : Int} {es : List (Str × Int)} : mput (.str (bs k)) (.int .i64 v) (encM eS eI es) = encM eS eI (aput k v es) := mput_map (e := eS) (d := eI)
theorem mput_II {k : Int} {v : Int} {es : List (Int × Int)} : mput (.int .i64 k) (.int .i64 v) (encM eI eI es) = encM eI eI (aput k v es) := mput_map (e := eI) (d := eI)
theorem mput_IB {k : Int} {v : Bool} {es : List (Int × Bool)} : mput (.int .i64 k) (.bool v) (encM eI eB es) = encM eI eB (aput k v es) := mput_map (e := eI) (d := eB)
theorem mput_SB {k : Str} {v : Bool} {es : List (Str × Bool)} : mput (.str (bs k)) (.bool v) (encM eS eB es) = encM eS eB (aput k v es) := mput_map (e := eS) (d := eB)
theorem mfind_nil {k : DVal} : mfind k [] = none := rfl
theorem getD_I {o : Option Int} {z : Int} : (o.map eI).getD (.int .i64 z) = .int .i64 (o.getD z) := by cases o <;> rfl
theorem getD_B {o : Option Bool} {z : Bool} : (o.map eB).getD (.bool z) = .bool (o.getD z) := by cases o <;> rfl
theorem getD_L {α : Type} {e : α → DVal} {o : Option (List α)} : (o.map (eL e)).getD (.sl []) = .sl (List.map e (o.getD [])) := by cases o <;> rfl
theorem isKey_str {P : Program} {kt : TypeId} {b : ByteArray} : isKey P kt .string (.str b) = true := rfl
theorem isKey_bool {P : Program} {kt : TypeId} {b : Bool} : isKey P kt .bool (.bool b) = true := rfl
theorem isKey_int {P : Program} {kt : TypeId} {k : IntKind} {n : Int} : isKey P kt (.int k) (.int k n) = true := by simp [isKey]
attribute [go_sem] encM_nil encM_len encM_under underEs_nil mfind_S mfind_I mput_SI mput_II mput_IB mput_SB mfind_nil getD_I getD_B getD_L isKey_str isKey_bool isKey_int Option.isSome_map Option.isSome_none Option.isSome_some Option.getD_none
theorem on_at_1 {h : Heap} {l0 : Nat} {o0 : BObj} {os : List (Option BObj)} {k : Nat} : (Heap.on (Heap.upd h l0 o0) os).at_ (h.n + k) = (os[k]?).join := on_at (h := (Heap.upd h l0 o0))
theorem on_upd0_1 {h : Heap} {l0 : Nat} {o0 : BObj} {a0 : Option BObj} {os : List (Option BObj)} {o : BObj} : (Heap.on (Heap.upd h l0 o0) (a0 :: os)).upd (h.n + 0) o = Heap.on (Heap.upd h l0 o0) (some o :: os) := on_upd0 (h := (Heap.upd h l0 o0))
theorem on_upd1_1 {h : Heap} {l0 : Nat} {o0 : BObj} {a0 a1 : Option BObj} {os : List (Option BObj)} {o : BObj} : (Heap.on (Heap.upd h l0 o0) (a0 :: a1 :: os)).upd (h.n + 1) o = Heap.on (Heap.upd h l0 o0) (a0 :: some o :: os) := on_upd1 (h := (Heap.upd h l0 o0))
theorem on_upd2_1 {h : Heap} {l0 : Nat} {o0 : BObj} {a0 a1 a2 : Option BObj} {os : List (Option BObj)} {o : BObj} : (Heap.on (Heap.upd h l0 o0) (a0 :: a1 :: a2 :: os)).upd (h.n + 2) o = Heap.on (Heap.upd h l0 o0) (a0 :: a1 :: some o :: os) := on_upd2 (h := (Heap.upd h l0 o0))
theorem on_upd3_1 {h : Heap} {l0 : Nat} {o0 : BObj} {a0 a1 a2 a3 : Option BObj} {os : List (Option BObj)} {o : BObj} : (Heap.on (Heap.upd h l0 o0) (a0 :: a1 :: a2 :: a3 :: os)).upd (h.n + 3) o = Heap.on (Heap.upd h l0 o0) (a0 :: a1 :: a2 :: some o :: os) := on_upd3 (h := (Heap.upd h l0 o0))
theorem on_upd4_1 {h : Heap} {l0 : Nat} {o0 : BObj} {a0 a1 a2 a3 a4 : Option BObj} {os : List (Option BObj)} {o : BObj} : (Heap.on (Heap.upd h l0 o0) (a0 :: a1 :: a2 :: a3 :: a4 :: os)).upd (h.n + 4) o = Heap.on (Heap.upd h l0 o0) (a0 :: a1 :: a2 :: a3 :: some o :: os) := on_upd4 (h := (Heap.upd h l0 o0))
theorem on_upd5_1 {h : Heap} {l0 : Nat} {o0 : BObj} {a0 a1 a2 a3 a4 a5 : Option BObj} {os : List (Option BObj)} {o : BObj} : (Heap.on (Heap.upd h l0 o0) (a0 :: a1 :: a2 :: a3 :: a4 :: a5 :: os)).upd (h.n + 5) o = Heap.on (Heap.upd h l0 o0) (a0 :: a1 :: a2 :: a3 :: a4 :: some o :: os) := on_upd5 (h := (Heap.upd h l0 o0))
theorem on_upd6_1 {h : Heap} {l0 : Nat} {o0 : BObj} {a0 a1 a2 a3 a4 a5 a6 : Option BObj} {os : List (Option BObj)} {o : BObj} : (Heap.on (Heap.upd h l0 o0) (a0 :: a1 :: a2 :: a3 :: a4 :: a5 :: a6 :: os)).upd (h.n + 6) o = Heap.on (Heap.upd h l0 o0) (a0 :: a1 :: a2 :: a3 :: a4 :: a5 :: some o :: os) := on_upd6 (h := (Heap.upd h l0 o0))
theorem on_upd7_1 {h : Heap} {l0 : Nat} {o0 : BObj} {a0 a1 a2 a3 a4 a5 a6 a7 : Option BObj} {os : List (Option BObj)} {o : BObj} : (Heap.on (Heap.upd h l0 o0) (a0 :: a1 :: a2 :: a3 :: a4 :: a5 :: a6 :: a7 :: os)).upd (h.n + 7) o = Heap.on (Heap.upd h l0 o0) (a0 :: a1 :: a2 :: a3 :: a4 :: a5 :: a6 :: some o :: os) := on_upd7 (h := (Heap.upd h l0 o0))
theorem on_at_2 {h : Heap} {l0 l1 : Nat} {o0 o1 : BObj} {os : List (Option BObj)} {k : Nat} : (Heap.on (Heap.upd (Heap.upd h l0 o0) l1 o1) os).at_ (h.n + k) = (os[k]?).join := on_at (h := (Heap.upd (Heap.upd h l0 o0) l1 o1))
theorem on_upd0_2 {h : Heap} {l0 l1 : Nat} {o0 o1 : BObj} {a0 : Option BObj} {os : List (Option BObj)} {o : BObj} : (Heap.on (Heap.upd (Heap.upd h l0 o0) l1 o1) (a0 :: os)).upd (h.n + 0) o = Heap.on (Heap.upd (Heap.upd h l0 o0) l1 o1) (some o :: os) := on_upd0 (h := (Heap.upd (Heap.upd h l0 o0) l1 o1))
theorem on_upd1_2 {h : Heap} {l0 l1 : Nat} {o0 o1 : BObj} {a0 a1 : Option BObj} {os : List (Option BObj)} {o : BObj} : (Heap.on (Heap.upd (Heap.upd h l0 o0) l1 o1) (a0 :: a1 :: os)).upd (h.n + 1) o = Heap.on (Heap.upd (Heap.upd h l0 o0) l1 o1) (a0 :: some o :: os) := on_upd1 (h := (Heap.upd (Heap.upd h l0 o0) l1 o1))
theorem on_upd2_2 {h : Heap} {l0 l1 : Nat} {o0 o1 : BObj} {a0 a1 a2 : Option BObj} {os : List (Option BObj)} {o : BObj} : (Heap.on (Heap.upd (Heap.upd h l0 o0) l1 o1) (a0 :: a1 :: a2 :: os)).upd (h.n + 2) o = Heap.on (Heap.upd (Heap.upd h l0 o0) l1 o1) (a0 :: a1 :: some o :: os) := on_upd2 (h := (Heap.upd (Heap.upd h l0 o0) l1 o1))
theorem on_upd3_2 {h : Heap} {l0 l1 : Nat} {o0 o1 : BObj} {a0 a1 a2 a3 : Option BObj} {os : List (Option BObj)} {o : BObj} : (Heap.on (Heap.upd (Heap.upd h l0 o0) l1 o1) (a0 :: a1 :: a2 :: a3 :: os)).upd (h.n + 3) o = Heap.on (Heap.upd (Heap.upd h l0 o0) l1 o1) (a0 :: a1 :: a2 :: some o :: os) := on_upd3 (h := (Heap.upd (Heap.upd h l0 o0) l1 o1))
theorem on_upd4_2 {h : Heap} {l0 l1 : Nat} {o0 o1 : BObj} {a0 a1 a2 a3 a4 : Option BObj} {os : List (Option BObj)} {o : BObj} : (Heap.on (Heap.upd (Heap.upd h l0 o0) l1 o1) (a0 :: a1 :: a2 :: a3 :: a4 :: os)).upd (h.n + 4) o = Heap.on (Heap.upd (Heap.upd h l0 o0) l1 o1) (a0 :: a1 :: a2 :: a3 :: some o :: os) := on_upd4 (h := (Heap.upd (Heap.upd h l0 o0) l1 o1))
theorem on_upd5_2 {h : Heap} {l0 l1 : Nat} {o0 o1 : BObj} {a0 a1 a2 a3 a4 a5 : Option BObj} {os : List (Option BObj)} {o : BObj} : (Heap.on (Heap.upd (Heap.upd h l0 o0) l1 o1) (a0 :: a1 :: a2 :: a3 :: a4 :: a5 :: os)).upd (h.n + 5) o = Heap.on (Heap.upd (Heap.upd h l0 o0) l1 o1) (a0 :: a1 :: a2 :: a3 :: a4 :: some o :: os) := on_upd5 (h := (Heap.upd (Heap.upd h l0 o0) l1 o1))
theorem on_upd6_2 {h : Heap} {l0 l1 : Nat} {o0 o1 : BObj} {a0 a1 a2 a3 a4 a5 a6 : Option BObj} {os : List (Option BObj)} {o : BObj} : (Heap.on (Heap.upd (Heap.upd h l0 o0) l1 o1) (a0 :: a1 :: a2 :: a3 :: a4 :: a5 :: a6 :: os)).upd (h.n + 6) o = Heap.on (Heap.upd (Heap.upd h l0 o0) l1 o1) (a0 :: a1 :: a2 :: a3 :: a4 :: a5 :: some o :: os) := on_upd6 (h := (Heap.upd (Heap.upd h l0 o0) l1 o1))
theorem on_upd7_2 {h : Heap} {l0 l1 : Nat} {o0 o1 : BObj} {a0 a1 a2 a3 a4 a5 a6 a7 : Option BObj} {os : List (Option BObj)} {o : BObj} : (Heap.on (Heap.upd (Heap.upd h l0 o0) l1 o1) (a0 :: a1 :: a2 :: a3 :: a4 :: a5 :: a6 :: a7 :: os)).upd (h.n + 7) o = Heap.on (Heap.upd (Heap.upd h l0 o0) l1 o1) (a0 :: a1 :: a2 :: a3 :: a4 :: a5 :: a6 :: some o :: os) := on_upd7 (h := (Heap.upd (Heap.upd h l0 o0) l1 o1))
theorem on_at_3 {h : Heap} {l0 l1 l2 : Nat} {o0 o1 o2 : BObj} {os : List (Option BObj)} {k : Nat} : (Heap.on (Heap.upd (Heap.upd (Heap.upd h l0 o0) l1 o1) l2 o2) os).at_ (h.n + k) = (os[k]?).join := on_at (h := (Heap.upd (Heap.upd (Heap.upd h l0 o0) l1 o1) l2 o2))
theorem on_upd0_3 {h : Heap} {l0 l1 l2 : Nat} {o0 o1 o2 : BObj} {a0 : Option BObj} {os : List (Option BObj)} {o : BObj} : (Heap.on (Heap.upd (Heap.upd (Heap.upd h l0 o0) l1 o1) l2 o2) (a0 :: os)).upd (h.n + 0) o = Heap.on (Heap.upd (Heap.upd (Heap.upd h l0 o0) l1 o1) l2 o2) (some o :: os) := on_upd0 (h := (Heap.upd (Heap.upd (Heap.upd h l0 o0) l1 o1) l2 o2))
theorem on_upd1_3 {h : Heap} {l0 l1 l2 : Nat} {o0 o1 o2 : BObj} {a0 a1 : Option BObj} {os : List (Option BObj)} {o : BObj} : (Heap.on (Heap.upd (Heap.upd (Heap.upd h l0 o0) l1 o1) l2 o2) (a0 :: a1 :: os)).upd (h.n + 1) o = Heap.on (Heap.upd (Heap.upd (Heap.upd h l0 o0) l1 o1) l2 o2) (a0 :: some o :: os) := on_upd1 (h := (Heap.upd (Heap.upd (Heap.upd h l0 o0) l1 o1) l2 o2))
theorem on_upd2_3 {h : Heap} {l0 l1 l2 : Nat} {o0 o1 o2 : BObj} {a0 a1 a2 : Option BObj} {os : List (Option BObj)} {o : BObj} : (Heap.on (Heap.upd (Heap.upd (Heap.upd h l0 o0) l1 o1) l2 o2) (a0 :: a1 :: a2 :: os)).upd (h.n + 2) o = Heap.on (Heap.upd (Heap.upd (Heap.upd h l0 o0) l1 o1) l2 o2) (a0 :: a1 :: some o :: os) := on_upd2 (h := (Heap.upd (Heap.upd (Heap.upd h l0 o0) l1 o1) l2 o2))
theorem on_upd3_3 {h : Heap} {l0 l1 l2 : Nat} {o0 o1 o2 : BObj} {a0 a1 a2 a3 : Option BObj} {os : List (Option BObj)} {o : BObj} : (Heap.on (Heap.upd (Heap.upd (Heap.upd h l0 o0) l1 o1) l2 o2) (a0 :: a1 :: a2 :: a3 :: os)).upd (h.n + 3) o = Heap.on (Heap.upd (Heap.upd (Heap.upd h l0 o0) l1 o1) l2 o2) (a0 :: a1 :: a2 :: some o :: os) := on_upd3 (h := (Heap.upd (Heap.upd (Heap.upd h l0 o0) l1 o1) l2 o2))
theorem on_upd4_3 {h : Heap} {l0 l1 l2 : Nat} {o0 o1 o2 : BObj} {a0 a1 a2 a3 a4 : Option BObj} {os : List (Option BObj)} {o : BObj} : (Heap.on (Heap.upd (Heap.upd (Heap.upd h l0 o0) l1 o1) l2 o2) (a0 :: a1 :: a2 :: a3 :: a4 :: os)).upd (h.n + 4) o = Heap.on (Heap.upd (Heap.upd (Heap.upd h l0 o0) l1 o1) l2 o2) (a0 :: a1 :: a2 :: a3 :: some o :: os) := on_upd4 (h := (Heap.upd (Heap.upd (Heap.upd h l0 o0) l1 o1) l2 o2))
theorem on_upd5_3 {h : Heap} {l0 l1 l2 : Nat} {o0 o1 o2 : BObj} {a0 a1 a2 a3 a4 a5 : Option BObj} {os : List (Option BObj)} {o : BObj} : (Heap.on (Heap.upd (Heap.upd (Heap.upd h l0 o0) l1 o1) l2 o2) (a0 :: a1 :: a2 :: a3 :: a4 :: a5 :: os)).upd (h.n + 5) o = Heap.on (Heap.upd (Heap.upd (Heap.upd h l0 o0) l1 o1) l2 o2) (a0 :: a1 :: a2 :: a3 :: a4 :: some o :: os) := on_upd5 (h := (Heap.upd (Heap.upd (Heap.upd h l0 o0) l1 o1) l2 o2))
theorem on_upd6_3 {h : Heap} {l0 l1 l2 : Nat} {o0 o1 o2 : BObj} {a0 a1 a2 a3 a4 a5 a6 : Option BObj} {os : List (Option BObj)} {o : BObj} : (Heap.on (Heap.upd (Heap.upd (Heap.upd h l0 o0) l1 o1) l2 o2) (a0 :: a1 :: a2 :: a3 :: a4 :: a5 :: a6 :: os)).upd (h.n + 6) o = Heap.on (Heap.upd (Heap.upd (Heap.upd h l0 o0) l1 o1) l2 o2) (a0 :: a1 :: a2 :: a3 :: a4 :: a5 :: some o :: os) := on_upd6 (h := (Heap.upd (Heap.upd (Heap.upd h l0 o0) l1 o1) l2 o2))
theorem on_upd7_3 {h : Heap} {l0 l1 l2 : Nat} {o0 o1 o2 : BObj} {a0 a1 a2 a3 a4 a5 a6 a7 : Option BObj} {os : List (Option BObj)} {o : BObj} : (Heap.on (Heap.upd (Heap.upd (Heap.upd h l0 o0) l1 o1) l2 o2) (a0 :: a1 :: a2 :: a3 :: a4 :: a5 :: a6 :: a7 :: os)).upd (h.n + 7) o = Heap.on (Heap.upd (Heap.upd (Heap.upd h l0 o0) l1 o1) l2 o2) (a0 :: a1 :: a2 :: a3 :: a4 :: a5 :: a6 :: some o :: os) := on_upd7 (h := (Heap.upd (Heap.upd (Heap.upd h l0 o0) l1 o1) l2 o2))
attribute [go_sem] on_at_1 on_upd0_1 on_upd1_1 on_upd2_1 on_upd3_1 on_upd4_1 on_upd5_1 on_upd6_1 on_upd7_1 on_at_2 on_upd0_2 on_upd1_2 on_upd2_2 on_upd3_2 on_upd4_2 on_upd5_2 on_upd6_2 on_upd7_2 on_at_3 on_upd0_3 on_upd1_3 on_upd2_3 on_upd3_3 on_upd4_3 on_upd5_3 on_upd6_3 on_upd7_3
theorem vals_nil : vals [] = [] := rfl
theorem vals_cons {d : DVal} {ds : List DVal} : vals (d :: ds) = .val d :: vals ds := rfl
attribute [go_sem] vals_nil vals_cons
attribute [go_sem] unal_sc unal_cs unal_cc unal_esc unal_ecs unal_ecc refix_sc refix_cs refix_cc underV_nil underV_cons
attribute [go_sem] underL_set remake_agg remake_int remake_bool remake_str remake_sl setFrom_nil setFrom_cons u8_lit List.map_set
attribute [go_sem] underL_rep one_int one_bool one_str one_sl one_ptr one_map one_fn List.all_cons List.all_nil Bool.and_self
attribute [go_sem] underL_append foldMin_nil foldMin_min foldMin_max t_ne_f f_ne_t List.getD_cons_zero List.getD_cons_succ List.map_replicate
attribute [go_sem] le_same setCells_nil setCells_cons List.set_cons_zero List.set_cons_succ le_room packed0 packed1 packed2 packed3 packed4 strOf_nil strOf_cons strOf_app u8_nat List.length_append List.length_map
attribute [go_sem] evalAt toDs_nil toDs_val toDs_cnil toDs_row ne_zero_lit le_big b_true b_false ne_same any_nil any_cons isR_val isR_nil isR_row List.drop_succ_cons
theorem w_toR {C : Ctx} {R : Oracle} {m : Nat} {Q : Ex → St → Prop} {s s1 : St} {id : Nat} {ops : Array Oper} {d : Bool} (ht : St.To m s s1) (h : wpCode C R m (.region id ops d) Q s1) : wpCode C R m (.region id ops d) Q s := w_to ht h fun k => To.trans ht k
theorem Holds.idxK {α β : Type} {xs : List α} {i : Nat} {k : α → Option β} {D : β → Prop} (h : Holds (xs[i]?.bind k) D) : ∃ x, xs[i]? = some x ∧ (i < xs.length) = True ∧ Holds (k x) D := by
  obtain ⟨x, h1, h2⟩ := h.bind
  exact ⟨x, h1, eq_true (List.getElem?_eq_some_iff.1 h1).1, h2⟩
theorem mput_SI0 {k : Str} {v : Int} : mput (.str (bs k)) (.int .i64 v) [] = encM eS eI (aput k v []) := rfl
theorem mput_II0 {k : Int} {v : Int} : mput (.int .i64 k) (.int .i64 v) [] = encM eI eI (aput k v []) := rfl
theorem mput_IB0 {k : Int} {v : Bool} : mput (.int .i64 k) (.bool v) [] = encM eI eB (aput k v []) := rfl
theorem mput_SB0 {k : Str} {v : Bool} : mput (.str (bs k)) (.bool v) [] = encM eS eB (aput k v []) := rfl
attribute [go_sem] mput_SI0 mput_II0 mput_IB0 mput_SB0
def lendR : Option (Nat × List DVal) → Option DVal
  | some p => some (.sl p.2)
  | none => none
theorem lendR_some {k : Nat} {xs : List DVal} : lendR (some (k, xs)) = some (.sl xs) := rfl
def lendV (s : St) : SV → Option DVal
  | .cv (.val d) => some d
  | .cv .nil => some (.sl [])
  | .cv (.row _ xs) => some (.sl xs)
  | .alias r => lendR (s.rowAt r)
  | _ => none
theorem lendV_val {s : St} {d : DVal} : lendV s (.cv (.val d)) = some d := rfl
theorem lendV_nil {s : St} : lendV s (.cv .nil) = some (.sl []) := rfl
theorem lendV_row {s : St} {k : Nat} {xs : List DVal} : lendV s (.cv (.row k xs)) = some (.sl xs) := rfl
theorem lendV_alias {s : St} {r : Root} : lendV s (.alias r) = lendR (s.rowAt r) := rfl
theorem lendOf_sv {s : St} {x : Operand} : lendOf s x = lendV s (s.opv x) := by
  unfold lendOf
  cases s.opv x with
  | cv c => cases c <;> rfl
  | alias r => simp only [lendV]; cases s.rowAt r <;> rfl
  | undef => rfl
  | imm _ => rfl
  | elt _ _ _ => rfl
  | bld _ => rfl
  | tup _ => rfl
def lendC : Option DVal → Option (List DVal) → Option (List DVal)
  | some d, some ds => some (d :: ds)
  | _, _ => none
theorem lendC_some {d : DVal} {ds : List DVal} : lendC (some d) (some ds) = some (d :: ds) := rfl
theorem lends_nil {s : St} : lends s [] = some [] := rfl
theorem lends_cons {s : St} {x : Operand} {xs : List Operand} : lends s (x :: xs) = lendC (lendOf s x) (lends s xs) := by
  rw [lends]
  cases lendOf s x with
  | none => rfl
  | some d => cases lends s xs <;> rfl
theorem sameT {t : TypeId} : decide (t = t) = true := by simp
attribute [go_sem] lendR_some lendV_val lendV_nil lendV_row lendV_alias lendOf_sv lendC_some lends_nil lends_cons sameT cvTD.eq_5 cvRow.eq_1 Bool.true_and
def rootV (x : Operand) : SV → Option Root
  | .cv (.row _ _) => some (.slot (tmpOf x))
  | .alias r => some r
  | _ => none
theorem rootV_row {x : Operand} {k : Nat} {xs : List DVal} : rootV x (.cv (.row k xs)) = some (.slot (tmpOf x)) := rfl
theorem rootV_alias {x : Operand} {r : Root} : rootV x (.alias r) = some r := rfl
theorem rootOf_sv {s : St} {x : Operand} : rootOf s x = rootV x (s.opv x) := by
  unfold rootOf
  cases s.opv x with
  | cv c => cases c <;> rfl
  | _ => rfl
attribute [go_sem] rootV_row rootV_alias rootOf_sv
theorem beqTF : (true == false) = false := rfl
theorem beqFT : (false == true) = false := rfl
theorem beqTT : (true == true) = true := rfl
theorem beqFF : (false == false) = true := rfl
attribute [go_sem] beqTF beqFT beqTT beqFF Bool.not_true Bool.not_false
theorem Runs.as {C : Ctx} {f : FuncId} {as bs : List SV} {h : Heap} {Q : List SV → Heap → Prop} (hr : Runs C f as h Q) (e : as = bs) : Runs C f bs h Q := e ▸ hr
end Go.Val

/- part V48 -/
/- Value semantics: a law's arguments, as they are read, and its call. -/
namespace Go.Val
open Go.RowKit (Below)
variable {P : Program} {w : World} {G : Gh}

theorem mapM_at {α β : Type} {f : α → Option β} : ∀ {l : List α} {r : List β}, l.mapM f = some r → r.length = l.length ∧ ∀ (i : Nat) (x : α), l[i]? = some x → ∃ y, f x = some y ∧ r[i]? = some y
  | [], r, h => by
    simp at h; subst h
    exact ⟨rfl, fun i x hx => by simp at hx⟩
  | a :: l, r, h => by
    rw [List.mapM_cons] at h
    cases ha : f a with
    | none => rw [ha] at h; simp at h
    | some b =>
      cases hl : l.mapM f with
      | none => rw [ha, hl] at h; simp at h
      | some bs =>
        rw [ha, hl] at h
        simp at h
        subst h
        obtain ⟨h1, h2⟩ := mapM_at hl
        refine ⟨by simp [h1], fun i x hx => ?_⟩
        cases i with
        | zero => simp at hx; subst hx; exact ⟨b, ha, rfl⟩
        | succ i => simp at hx; simpa using h2 i x hx

def tiles (P : Program) : Nat → List Field → Nat → Bool
  | o, [], n => o == n
  | o, f :: fs, n => f.offset == o && tiles P (o + P.cellsOf f.type) fs n
def isF (p : TypeId → List DVal → Prop) : List Field → List DVal → Prop
  | [], ds => ds = []
  | f :: fs, ds => ∃ a b, ds = a ++ b ∧ p f.type a ∧ isF p fs b
/-- What data of a type are. -/
def isT (P : Program) : Nat → TypeId → List DVal → Prop
  | 0, _, _ => False
  | m + 1, t, ds => match P.underlying t with
    | some .bool => ∃ b, ds = [.bool b]
    | some (.int k) => ∃ n, ds = [.int k n] ∧ (Lit.int k n).wf = true
    | some .string => ∃ s, ds = [.str s] ∧ s.size ≤ maxLen
    | some (.slice e) => ∃ xs, ds = [.sl xs] ∧ xs.length ≤ maxLen ∧ ∀ x ∈ xs, isT P m e x.cells ∧ (isAg P e = true → ∃ cs, x = .agg cs) ∧ (isAg P e = false → x.one = true)
    | some (.struct fs) => isF (isT P m) fs.toList ds
    | _ => False

def imm? (G : Gh) (w : World) : Prop := ∀ b, b < w.heap.size → G.g b = .imm

/-- Parts that tile lie side by side. -/
theorem tiles_rel {p : TypeId → List DVal → Prop} {cs : List Value} : ∀ {fs : List Field} {o n : Nat}, tiles P o fs n = true → n = cs.length → (∀ f ∈ fs, ∃ ds, RelCs w G ds ((cs.drop f.offset).take (P.cellsOf f.type)) ∧ p f.type ds ∧ ds.length = P.cellsOf f.type) →
    ∃ ds, RelCs w G ds (cs.drop o) ∧ isF p fs ds
  | [], o, n, ht, hn, _ => by
    simp only [tiles, beq_iff_eq] at ht
    refine ⟨[], ?_, rfl⟩
    rw [List.drop_eq_nil_of_le (by omega)]
    exact .nil
  | f :: fs, o, n, ht, hn, hp => by
    simp only [tiles, Bool.and_eq_true, beq_iff_eq] at ht
    obtain ⟨a, h1, h2, h3⟩ := hp f (by simp)
    obtain ⟨b, g1, g2⟩ := tiles_rel ht.2 hn fun f' hf' => hp f' (by simp [hf'])
    rw [ht.1] at h1
    refine ⟨a ++ b, ?_, a, b, rfl, h2, g2⟩
    have : cs.drop o = (cs.drop o).take (P.cellsOf f.type) ++ cs.drop (o + P.cellsOf f.type) := by
      rw [← List.drop_drop, List.take_append_drop]
    rw [this]
    exact h1.append g1

theorem cells_spot {a : Addr} {n : Nat} {vs : List Value} (h : w.cells? 0 a n = some vs) : vs.length = n ∧ ∀ (i : Nat) (v : Value), vs[i]? = some v → w.cell? (a.add i) = some v := by
  unfold World.cells? at h
  rw [if_pos (Nat.zero_le _)] at h
  obtain ⟨h1, h2⟩ := mapM_at h
  refine ⟨by simpa using h1, fun i v hv => ?_⟩
  have hi : i < n := by have := (List.getElem?_eq_some_iff.1 hv).1; simp at h1; omega
  obtain ⟨y, hy, hr⟩ := h2 i i (by simp [hi])
  rw [hv] at hr
  cases hr
  exact hy

/-- The elements of a slice, as data. -/
theorem elems_rel {p : DVal → Prop} {a : Addr} {k : Nat} (hk : 0 < k) : ∀ (len : Nat), (∀ i, i < len → ∃ vs x, w.cells? 0 (a.add (i * k)) k = some vs ∧ RelCs w G x.cells vs ∧ p x) →
    ∃ xs vs, xs.length = len ∧ (∀ x ∈ xs, p x ∧ x.cells.length = k) ∧ RelCs w G (allCells xs) vs ∧ vs.length = len * k ∧ (∀ (i : Nat) (v : Value), vs[i]? = some v → w.cell? ((a.add (i / k * k)).add (i % k)) = some v)
  | 0, _ => ⟨[], [], rfl, by simp, .nil, by simp, by simp⟩
  | len + 1, h => by
    obtain ⟨xs, vs, h1, h2, h3, h4, h5⟩ := elems_rel hk len fun i hi => h i (by omega)
    obtain ⟨us, x, g1, g2, g3⟩ := h len (by omega)
    obtain ⟨g4, g5⟩ := cells_spot g1
    refine ⟨xs ++ [x], vs ++ us, by simp [h1], fun y hy => ?_, ?_, by simp [h4, g4, Nat.add_mul], fun i v hv => ?_⟩
    · rcases List.mem_append.1 hy with hy | hy
      · exact h2 y hy
      · simp at hy; subst hy; exact ⟨g3, by have := g2.length; omega⟩
    · simp only [allCells, List.flatMap_append, List.flatMap_cons, List.flatMap_nil, List.append_nil]
      exact h3.append g2
    · by_cases hi : i < vs.length
      · rw [List.getElem?_append_left hi] at hv; exact h5 i v hv
      · rw [List.getElem?_append_right (by omega)] at hv
        have hlt : i - vs.length < us.length := (List.getElem?_eq_some_iff.1 hv).1
        have e1 : i / k = len := by
          apply Nat.div_eq_of_lt_le
          · omega
          · rw [Nat.add_mul]; omega
        have e2 : i % k = i - vs.length := by
          have := Nat.div_add_mod i k
          rw [e1, Nat.mul_comm] at this; omega
        rw [e1, e2]
        exact g5 _ _ hv

/-! ### a law's call -/
def gh0 (P : Program) (w : World) : Gh := ⟨P, fun b => if b < w.heap.size then .imm else .other, fun _ => 0, 0⟩
def heap0 : Heap := ⟨0, fun _ => none⟩
theorem gh0_imm (P : Program) (w : World) : imm? (gh0 P w) w := fun b hb => by simp [gh0, hb]
theorem law_calls {C : Ctx} (hX : ExtSound C) (hm : C.P.follows .mixedOrders = true) {f : FuncId} {args : List SV} {vs : List Value} {w : World} {b : Bool} (hr : Runs C f args heap0 fun o h' => o = [.cv (.val (.bool b))] ∧ h' = heap0)
    (ha : RelArgs w (gh0 C.P w) .slot 0 args vs) : Calls C.P f vs.toArray w fun e w' => e = .returned (.bool b) ∧ Below w.heap.size w w' := by
  refine Calls.mono ((runs_sound hX hm hr).2 w (gh0 C.P w) vs rfl ha ⟨rfl, fun l o h => by cases h⟩ (fun b hb => by simp [gh0]; omega)) fun e w' ⟨us, out, h', G', h1, h2, h3, h4, h5, h6⟩ => ?_
  obtain ⟨rfl, rfl⟩ := h2
  cases h3 with
  | cons c v os vs g1 g2 =>
    cases g2
    have g1' : RelV w' G' (.bool b) v := g1
    cases g1'
    exact ⟨h1, h6.os, h6.tape, h6.output, h6.size, fun k hk => (h6.imm k (gh0_imm _ _ k hk) hk).2⟩

/-! ### typed data out of what is read -/
theorem list_of {α : Type} {e : α → DVal} : ∀ {xs : List DVal}, (∀ x ∈ xs, ∃ y, x = e y) → ∃ l : List α, xs = l.map e
  | [], _ => ⟨[], rfl⟩
  | x :: xs, h => by
    obtain ⟨y, hy⟩ := h x (by simp)
    obtain ⟨l, hl⟩ := list_of (xs := xs) fun x hx => h x (List.mem_cons_of_mem _ hx)
    exact ⟨y :: l, by simp [hy, hl]⟩
theorem isT_bool {m : Nat} {t : TypeId} {ds : List DVal} (hu : P.underlying t = some .bool) (h : isT P (m + 1) t ds) : ∃ b : Bool, ds = [eB b] := by
  unfold isT at h; rw [hu] at h; exact h
theorem isT_i64 {m : Nat} {t : TypeId} {ds : List DVal} (hu : P.underlying t = some (.int .i64)) (h : isT P (m + 1) t ds) : ∃ n : Int, ds = [eI n] ∧ -9223372036854775808 ≤ n ∧ n ≤ 9223372036854775807 := by
  unfold isT at h; rw [hu] at h
  obtain ⟨n, h1, h2⟩ := h
  refine ⟨n, h1, ?_⟩
  simp [Lit.wf, IntKind.min, IntKind.max, IntKind.signed, IntKind.bits] at h2
  omega
theorem isT_slice {m : Nat} {t e : TypeId} {ds : List DVal} {α : Type} {en : α → DVal} (hu : P.underlying t = some (.slice e)) (h : isT P (m + 1) t ds) (he : ∀ x, isT P m e x.cells → (isAg P e = true → ∃ cs, x = .agg cs) → (isAg P e = false → x.one = true) → ∃ y, x = en y) :
    ∃ l : List α, ds = [eL en l] ∧ l.length ≤ maxLen := by
  unfold isT at h; rw [hu] at h
  obtain ⟨xs, h1, h2, h3⟩ := h
  obtain ⟨l, hl⟩ := list_of fun x hx => he x (h3 x hx).1 (h3 x hx).2.1 (h3 x hx).2.2
  exact ⟨l, by rw [h1, hl]; rfl, by rw [hl] at h2; simpa using h2⟩
theorem one_of {x d : DVal} (h : x.cells = [d]) (ho : x.one = true) : x = d := by
  cases x <;> first | (simpa [DVal.cells] using h) | (simp [DVal.one] at ho)
end Go.Val

/- part V52 -/
/- Value semantics: arguments of types that hold themselves. -/
namespace Go.Val
open Go.RowKit (Below)
variable {P : Program} {w : World} {G : Gh}
/-- Types whose parts are among them: no pointers, no maps. -/
def closedT (P : Program) (S : List TypeId) : Bool := S.all fun t => match P.underlying t with
    | some .bool => true
    | some (.int _) => true
    | some .string => true
    | some (.slice e) => decide (0 < P.cellsOf e) && S.contains e
    | some (.struct fs) => tiles P 0 fs.toList (P.cellsOf t) && fs.toList.all fun f => S.contains f.type && (isAg P f.type || P.cellsOf f.type == 1)
    | _ => false
theorem trod_relS {H : Type} {enc : TypeId × Value → H} {spare : Nat → Bool} {held : Bool} (hi : imm? G w) {S : List TypeId} (hS : closedT P S = true) : ∀ (m : Nat) {t : TypeId} {cs : List Value} {d : DataW H} {ps : List MemPlace},
    S.contains t = true → DataW.trod enc P w 0 spare held m t cs = some (d, ps) → ∃ ds, RelCs w G ds cs ∧ isT P m t ds ∧ ds.length = cs.length ∧ (isAg P t = false → cs.length = 1) ∧ (isAg P t = true → cs.length = P.cellsOf t)
  | 0, _, _, _, _, _, h => by cases h
  | m + 1, t, cs, d, ps, hf0, h => by
    have ih := @trod_relS H enc spare held hi S hS m
    have hf := List.all_eq_true.1 hS t (by simpa using hf0)
    unfold isT
    cases hu : P.underlying t with
    | none => rw [hu] at hf; cases hf
    | some td =>
      rw [hu] at hf
      cases td
      case bool =>
        simp only [DataW.trod, hu] at h
        split at h
        all_goals first | (rename_i heq; cases heq; done) | skip
        · cases h; exact ⟨[.bool _], .cons _ _ _ _ rfl (.bool _) .nil, ⟨_, rfl⟩, rfl, fun _ => rfl, fun e => by simp [isAg, hu] at e⟩
        · cases h
      case int k =>
        simp only [DataW.trod, hu] at h
        split at h
        all_goals first | (rename_i heq; cases heq; done) | skip
        · rename_i heq
          cases heq
          split at h
          · rename_i hc
            cases h
            obtain ⟨rfl, hwf⟩ := hc
            exact ⟨[.int _ _], .cons _ _ _ _ rfl (.int _ _) .nil, ⟨_, rfl, hwf⟩, rfl, fun _ => rfl, fun e => by simp [isAg, hu] at e⟩
          · cases h
        · cases h
      case string =>
        simp only [DataW.trod, hu] at h
        split at h
        all_goals first | (rename_i heq; cases heq; done) | skip
        · split at h
          · rename_i hc
            cases h
            exact ⟨[.str _], .cons _ _ _ _ rfl (.str _) .nil, ⟨_, rfl, hc⟩, rfl, fun _ => rfl, fun e => by simp [isAg, hu] at e⟩
          · cases h
        · cases h
      case slice e =>
        simp only [Bool.and_eq_true, decide_eq_true_eq] at hf
        simp only [DataW.trod, hu] at h
        split at h
        all_goals first | (rename_i heq; cases heq; done) | skip
        · cases h
          exact ⟨[.sl []], .cons _ _ _ _ rfl (.nilsl none 0) .nil, ⟨[], rfl, by simp, by simp⟩, rfl, fun _ => rfl, fun e => by simp [isAg, hu] at e⟩
        · rename_i a len cap heq
          cases heq
          split at h
          · rename_i hc
            simp only [Option.bind_eq_some_iff, Option.map_eq_some_iff] at h
            obtain ⟨elems, hel, rest, hrest, _⟩ := h
            obtain ⟨hl, hat⟩ := mapM_at hel
            simp only [List.length_range] at hl
            obtain ⟨xs, vs, g1, g2, g3, g4, g5⟩ := elems_rel (w := w) (G := G) (p := fun x => isT P m e x.cells ∧ (isAg P e = true → ∃ cs, x = .agg cs) ∧ (isAg P e = false → x.one = true)) (a := a) hf.1 len fun i hi => by
              obtain ⟨y, hy, _⟩ := hat i i (by simp [hi])
              obtain ⟨vs, hvs, hr⟩ := Option.bind_eq_some_iff.1 hy
              obtain ⟨ds, k1, k2, k3, k4, k5⟩ := ih (d := y.1) (ps := y.2) hf.2 hr
              cases hag : isAg P e with
              | true =>
                refine ⟨vs, .agg ds, hvs, k1, k2, fun _ => ⟨ds, rfl⟩, fun e => by cases e⟩
              | false =>
                have h1 := k4 hag
                cases k1 with
                | nil => simp at h1
                | cons d v ds' vs' q1 q2 q3 =>
                  have hv' : vs' = [] := by simpa using h1
                  subst hv'
                  cases q3
                  have hcell : d.cells = [d] := by cases d <;> first | rfl | (simp [DVal.one] at q1)
                  exact ⟨[v], d, hvs, by rw [hcell]; exact .cons _ _ _ _ q1 q2 .nil, by rw [hcell]; exact k2, fun e => by (cases e), fun _ => q1⟩
            refine ⟨[.sl xs], ?_, ⟨xs, rfl, by omega, fun x hx => (g2 x hx).1⟩, rfl, fun _ => rfl, fun e => by simp [isAg, hu] at e⟩
            refine .cons _ _ _ _ rfl ?_ .nil
            subst g1
            cases hx : xs with
            | nil => exact .nilsl (some a) cap
            | cons x0 xs0 =>
              rw [← hx]
              have hne : xs ≠ [] := by rw [hx]; simp
              have hlen : 0 < xs.length := by rw [hx]; simp
              have hvl : 0 < vs.length := by rw [g4]; exact Nat.mul_pos hlen hf.1
              have h0 := g5 0 _ (List.getElem?_eq_getElem hvl)
              simp only [Nat.zero_div, Nat.zero_mod, Nat.zero_mul] at h0
              have hspot : a.spot = none := by simpa [Addr.add] using World.cell?_spot h0
              have hb : a.block < w.heap.size := by have := cell_lt h0; simpa [add_block] using this
              refine .sl xs a cap (P.cellsOf e) vs hne (by omega) (hi _ hb) hb hspot (fun x hx => (g2 x hx).2) g3 fun i v hv => ?_
              have := g5 i v hv
              rw [add_add a _ _ hspot] at this
              rwa [Nat.div_add_mod'] at this
          · cases h
        · cases h
      case struct fs =>
        simp only [Bool.and_eq_true, List.all_eq_true] at hf
        simp only [DataW.trod, hu] at h
        split at h
        · rename_i hlen
          simp only [Option.map_eq_some_iff] at h
          obtain ⟨xs, hxs, _⟩ := h
          obtain ⟨hl, hat⟩ := mapM_at hxs
          obtain ⟨ds, k1, k2⟩ := tiles_rel (w := w) (G := G) (p := isT P m) hf.1 hlen.symm fun f hff => by
            obtain ⟨i, hi⟩ := List.getElem?_of_mem hff
            obtain ⟨y, hy, _⟩ := hat i f hi
            obtain ⟨ds, q1, q2, q3, q4, q5⟩ := ih (d := y.1) (ps := y.2) (hf.2 f hff).1 hy
            refine ⟨ds, q1, q2, ?_⟩
            cases hag : isAg P f.type with
            | true => rw [q3]; exact q5 hag
            | false => rw [q3, q4 hag]; (have := (hf.2 f hff).2; simp [hag] at this; exact this.symm)
          have k1' : RelCs w G ds cs := k1
          refine ⟨ds, k1', k2, k1'.length.symm, fun e => by simp [isAg, hu] at e, fun _ => hlen⟩
        · cases h
      all_goals cases hf

end Go.Val

/- part V49 -/
/- Value semantics: rules that find what they need by themselves. -/
namespace Go.Val
section
variable {C : Ctx} {R : Oracle} {m : Nat} {Q : Ex → St → Prop} {s : St}
theorem A_region {id : Nat} {ops : Array Oper} {l : List Oper} {s' : St} (hk : Q .normal s') (hl : ops.toList = l := by rfl) (h : runOps C.P ops l s = some s' := by simp (disch := (apply Apart.mk; decide)) only [go_sem, Nat.reduceAdd, Nat.reduceLT, Nat.reduceMul, Nat.reduceLeDiff, Int.reduceToNat, Int.reduceLT, Int.reduceLE, *]; rfl) : wpCode C R m (.region id ops false) Q s := w_region hl h hk
theorem A_upto (k : Nat) {ops : Array Oper} {K : St → Prop} {l : List Oper} {s' : St} {o : Oper} {os : List Oper} (hk : wpOps C R ops (o :: os) K s') (hl : l.drop k = o :: os := by rfl) (h : runOps C.P ops (l.take k) s = some s' := by simp (disch := (apply Apart.mk; decide)) only [go_sem, Nat.reduceAdd, Nat.reduceLT, Nat.reduceMul, Nat.reduceLeDiff, Int.reduceToNat, Int.reduceLT, Int.reduceLE, *]; rfl) : wpOps C R ops l K s := w_upto k hl h hk
theorem A_ops {id : Nat} {ops : Array Oper} {l : List Oper} (h : wpOps C R ops l (Q .normal) s) (hl : ops.toList = l := by rfl) : wpCode C R m (.region id ops false) Q s := w_ops hl h
theorem A_ops_end {ops : Array Oper} {K : St → Prop} {l : List Oper} {s' : St} (hk : K s') (h : runOps C.P ops l s = some s' := by simp (disch := (apply Apart.mk; decide)) only [go_sem, Nat.reduceAdd, Nat.reduceLT, Nat.reduceMul, Nat.reduceLeDiff, Int.reduceToNat, Int.reduceLT, Int.reduceLE, *]; rfl) : wpOps C R ops l K s := w_ops_end h hk
theorem A_off {ops : Array Oper} {os : List Oper} {K : St → Prop} {o : Oper} (hk : wpOps C R ops os K (s.put o.dst .undef)) (h0 : guardOf ops s o = some false := by simp (disch := (apply Apart.mk; decide)) only [go_sem, Nat.reduceAdd, Nat.reduceLT, Nat.reduceMul, Nat.reduceLeDiff, Int.reduceToNat, Int.reduceLT, Int.reduceLE, *]) : wpOps C R ops (o :: os) K s := w_off h0 hk
theorem A_cond (t : Bool) {c : Operand} {a b : Code} (h1 : t = true → wpCode C R m a Q s) (h2 : t = false → wpCode C R m b Q s) (hc : s.opv c = .cv (.val (.bool t)) := by simp (disch := (apply Apart.mk; decide)) only [go_sem, Nat.reduceAdd, Nat.reduceLT, Nat.reduceMul, Nat.reduceLeDiff, Int.reduceToNat, Int.reduceLT, Int.reduceLE, *]) : wpCode C R m (.cond c a b) Q s := w_cond hc h1 h2
theorem A_condH {c : Operand} {x y : Code} {t : Bool} {α : Type} {A B : Option α} {D : α → Prop} (hr : Holds (if t = true then A else B) D) (h1 : t = true → Holds A D → wpCode C R m x Q s) (h2 : t = false → Holds B D → wpCode C R m y Q s) (hc : s.opv c = .cv (.val (.bool t)) := by simp (disch := (apply Apart.mk; decide)) only [go_sem, Nat.reduceAdd, Nat.reduceLT, Nat.reduceMul, Nat.reduceLeDiff, Int.reduceToNat, Int.reduceLT, Int.reduceLE, *]) : wpCode C R m (.cond c x y) Q s := w_condH hc hr h1 h2
theorem A_cut {h : Heap} {os os' : List (Option BObj)} {sl : List (Nat × SV)} (hwf : h.WF) (hm : m ≤ h.n := by exact Nat.le_refl _) (hb : s.box = h.on os := by first | rfl | (simp (disch := (apply Apart.mk; decide)) only [go_sem, Nat.reduceAdd, Nat.reduceLT, Nat.reduceMul, Nat.reduceLeDiff, Int.reduceToNat, Int.reduceLT, Int.reduceLE, *]; rfl))
    (hc : cutO (h.on os').n os os' ∧ cutS s (h.on os') (h.on os').n sl sl := by simp (disch := (apply Apart.mk; decide)) only [go_sem, Nat.reduceAdd, Nat.reduceLT, Nat.reduceMul, Nat.reduceLeDiff, Int.reduceToNat, Int.reduceLT, Int.reduceLE, *]) : St.To m s ⟨sl, h.on os'⟩ := To.cut hwf hm hb hc
theorem A_endR {s1 : St} {f : FuncId} {fn : Func} {P : List SV → Heap → Prop} {out : List SV} {h' : Heap} (ht : St.To m s s1) (hq : P out h') (hres : results C f s1 fn.results.toList = some (out, h') := by simp (disch := (apply Apart.mk; decide)) only [go_sem, Nat.reduceAdd, Nat.reduceLT, Nat.reduceMul, Nat.reduceLeDiff, Int.reduceToNat, Int.reduceLT, Int.reduceLE, resCell, resVal.eq_2, loadOp_sv, *]) : atEnd C m f fn P .ret s := w_endR ht hres hq
theorem A_endN {s1 : St} {f : FuncId} {fn : Func} {P : List SV → Heap → Prop} {out : List SV} {h' : Heap} (ht : St.To m s s1) (hq : P out h') (hres : results C f s1 fn.results.toList = some (out, h') := by simp (disch := (apply Apart.mk; decide)) only [go_sem, Nat.reduceAdd, Nat.reduceLT, Nat.reduceMul, Nat.reduceLeDiff, Int.reduceToNat, Int.reduceLT, Int.reduceLE, resCell, resVal.eq_2, loadOp_sv, *]) : atEnd C m f fn P .normal s := w_endN ht hres hq
end
section
variable {C : Ctx} {s : St}
theorem A_call {ops : Array Oper} {os : List Oper} {K : St → Prop} {dst : Option Tmp} {ty : TypeId} {pos : String} {after : Array Edge} {f : Operand} {args : Array Operand} {ts : Array TypeId} {gd : Option (Nat × Bool)}
    {g : FuncId} {fs cs : List DVal} {as : List SV} {es : List Eff} {s1 : St} {out : List SV} {hp : Heap}
    (h4 : Runs C g (sval fs ++ as ++ sval cs) s1.box fun o h' => o = out ∧ h' = hp) (h5 : (packed out).isSome = true) (hk : wpOps C (Runs C) ops os K (St.put ⟨mapSlots SV.uncell s1.slots, hp⟩ dst ((packed out).getD .undef)))
    (h0 : guardOf ops s ⟨dst, .call ⟨.value f, args, ts⟩, ty, pos, after, gd⟩ = some true := by first | rfl | (simp (disch := (apply Apart.mk; decide)) only [go_sem, Nat.reduceAdd, Nat.reduceLT, Nat.reduceMul, Nat.reduceLeDiff, Int.reduceToNat, Int.reduceLT, Int.reduceLE, *])) (h1 : callee s f = some (g, fs, cs) := by simp (disch := (apply Apart.mk; decide)) only [go_sem, Nat.reduceAdd, Nat.reduceLT, Nat.reduceMul, Nat.reduceLeDiff, Int.reduceToNat, Int.reduceLT, Int.reduceLE, Option.getD_some, *]; rfl) (h2 : argsOf C g s fs.length args.toList = some (as, es) := by simp (disch := (apply Apart.mk; decide)) only [go_sem, Nat.reduceAdd, Nat.reduceLT, Nat.reduceMul, Nat.reduceLeDiff, Int.reduceToNat, Int.reduceLT, Int.reduceLE, Option.getD_some, *]; rfl) (h3 : s.effs es = s1 := by simp (disch := (apply Apart.mk; decide)) only [go_sem, Nat.reduceAdd, Nat.reduceLT, Nat.reduceMul, Nat.reduceLeDiff, Int.reduceToNat, Int.reduceLT, Int.reduceLE, Option.getD_some, *]; rfl) :
    wpOps C (Runs C) ops (⟨dst, .call ⟨.value f, args, ts⟩, ty, pos, after, gd⟩ :: os) K s := w_call' h0 h1 h2 h3 h4 h5 hk
end
theorem locF {h : Heap} {l : Nat} (hl : l < h.n) : (∀ os, (h.on os).at_ l = h.at_ l) ∧ (∀ k, (l < h.n + k) = True) ∧ (l < h.n) = True := ⟨fun os => on_atB hl, fun k => lt_add hl, eq_true hl⟩
/-- Is a slice nil? Of an empty one it isn't told. -/
theorem w_nilCmp {C : Ctx} {s : St} {R : Oracle} {ops : Array Oper} {os : List Oper} {K : St → Prop} {dst : Option Tmp} {ty ty' t e : TypeId} {pos : String} {after : Array Edge} {x : Operand} {gd : Option (Nat × Bool)} {xs : List DVal}
    (h0 : guardOf ops s ⟨dst, .binOp .eql t x (.const (.slice none 0 0)) ty', ty, pos, after, gd⟩ = some true) (hu : C.P.underlying t = some (.slice e)) (hx : optVal s x = some (.sl xs))
    (hk : ∀ b, (xs ≠ [] → b = false) → wpOps C R ops os K (s.put dst (.cv (.val (.bool b))))) :
    wpOps C R ops (⟨dst, .binOp .eql t x (.const (.slice none 0 0)) ty', ty, pos, after, gd⟩ :: os) K s :=
  ⟨true, h0, fun _ => .inl ⟨t, x, ty', xs, e, rfl, hu, hx, hk⟩, fun e => by cases e⟩
end Go.Val

/- part V50 -/
/- Value semantics: integers of any kind, arrays. -/
namespace Go.Val
def eK (k : IntKind) (n : Int) : DVal := .int k n
instance {k : IntKind} : Enc (eK k) 1 := ⟨fun _ => rfl, fun n x => by simp only [eK, DVal.under]⟩
instance {k : IntKind} : Key (eK k) := ⟨fun a b => by
  simp only [keyEq, eK, decide_true, Bool.true_and]
  by_cases h : a = b
  · subst h; simp
  · simp [h]⟩
/-- An array, as data. -/
def eA {α : Type} {n : Nat} (e : α → DVal) (v : Vector α n) : DVal := .agg (v.toList.map e)
/-- An array's cells. -/
def avals {α : Type} {n : Nat} (e : α → DVal) (v : Vector α n) : List CV := (v.toList.map e).map CV.val
variable {α : Type} {n : Nat} {e : α → DVal} {v : Vector α n} {cs : List CV}
instance {k : Nat} [Enc e k] : Enc (eA (n := n) e) n := ⟨fun x => by simp [eA, DVal.cells], fun m x => by simp only [eA, DVal.under]; rw [under_map]; trivial⟩
theorem avals_len : (avals e v).length = n := by simp [avals]
theorem avals_len1 : (avals e v ++ cs).length = n + cs.length := by simp [avals]
theorem avals_fold : (v.toList.map e).map CV.val = avals e v := rfl
theorem vals_fold : vals (v.toList.map e) = avals e v := rfl
theorem toDs_vals : ∀ (l : List DVal), toDs (l.map CV.val) = some l
  | [] => rfl
  | d :: l => by simp [toDs, CV.toD, toDs_vals l]
theorem toDs_avals : toDs (avals e v) = some (v.toList.map e) := toDs_vals _
theorem anyRow_vals1 : ∀ (l : List DVal) (cs : List CV), anyRow (l.map CV.val ++ cs) = anyRow cs
  | [], _ => rfl
  | d :: l, cs => by
    have := anyRow_vals1 l cs
    simp only [List.map_cons, List.cons_append, anyRow, this]
    rfl
theorem anyRow_avals1 : anyRow (avals e v ++ cs) = anyRow cs := anyRow_vals1 _ _
theorem anyRow_avals : anyRow (avals e v) = false := by
  have := anyRow_avals1 (e := e) (v := v) (cs := [])
  rw [List.append_nil] at this
  exact this
theorem anyRow_drop {k : Nat} : anyRow ((avals e v).drop k) = false := by
  unfold avals
  rw [← List.map_drop]
  have := anyRow_vals1 ((v.toList.map e).drop k) []
  rw [List.append_nil] at this
  rw [this]; rfl
theorem take_avals : (avals e v).take n = avals e v := List.take_of_length_le (by rw [avals_len]; exact Nat.le_refl _)
theorem take_avals1 : (avals e v ++ cs).take n = avals e v := by rw [List.take_append_of_le_length (by rw [avals_len]; exact Nat.le_refl _), take_avals]
theorem drop_avals1 : (avals e v ++ cs).drop n = cs := by
  have h := List.drop_left (l₁ := avals e v) (l₂ := cs)
  rw [avals_len] at h; exact h
theorem get_avals1 : (avals e v ++ cs)[n]? = cs[0]? := by
  rw [List.getElem?_append_right (by rw [avals_len]; exact Nat.le_refl _), avals_len, Nat.sub_self]
theorem getD_avals1 {d : CV} : (avals e v ++ cs).getD n d = cs.getD 0 d := by simp only [List.getD_eq_getElem?_getD, get_avals1]
theorem set_avals1 {c : CV} : (avals e v ++ cs).set n c = avals e v ++ cs.set 0 c := by
  rw [List.set_append_right _ _ (by rw [avals_len]; exact Nat.le_refl _), avals_len, Nat.sub_self]
/-- One that is set. -/
def vset (v : Vector α n) (i : Int) (x : α) : Vector α n := v.setIfInBounds i.toNat x
theorem vset_list {i : Int} {x : α} : (vset v i x).toList = v.toList.set i.toNat x := by simp [vset]
theorem set_avals {i : Int} {x : α} : (avals e v).set i.toNat (.val (e x)) = avals e (vset v i x) := by
  unfold avals
  rw [vset_list, List.map_set, List.map_set]
theorem underCs_vals {m : Nat} : ∀ (l : List DVal) (cs : List CV), underL m l → (underCs m (l.map CV.val ++ cs) = underCs m cs)
  | [], _, _ => rfl
  | d :: l, cs, h => by
    have h1 : d.under m ∧ underL m l := h
    have := underCs_vals l cs h1.2
    show (((CV.val d).under m) ∧ underCs m (l.map CV.val ++ cs)) = _
    rw [this]
    exact propext ⟨fun x => x.2, fun x => ⟨h1.1, x⟩⟩
theorem underCs_avals1 {m k : Nat} [Enc e k] : underCs m (avals e v ++ cs) = underCs m cs := underCs_vals _ _ (by rw [under_map]; trivial)
theorem underCs_avals {m k : Nat} [Enc e k] : underCs m (avals e v) = True := by
  have := underCs_avals1 (e := e) (v := v) (cs := []) (m := m)
  rw [List.append_nil] at this
  rw [this]; rfl
theorem len_lt1 {m : Nat} : (m + 1 < 1) = False := eq_false (by omega)
theorem toDs_vals1 : ∀ (l : List DVal) (cs : List CV), toDs (l.map CV.val ++ cs) = (toDs cs).map fun ds => l ++ ds
  | [], cs => by simp
  | d :: l, cs => by
    have := toDs_vals1 l cs
    simp only [List.map_cons, List.cons_append, toDs, CV.toD, this]
    cases toDs cs <;> rfl
theorem toDs_avals1 : toDs (avals e v ++ cs) = (toDs cs).map fun ds => v.toList.map e ++ ds := toDs_vals1 _ _
theorem fitsL_vals1 : ∀ (l : List DVal) (cs cs' : List CV), CV.fitsL (l.map CV.val ++ cs) (l.map CV.val ++ cs') = CV.fitsL cs cs'
  | [], _, _ => rfl
  | d :: l, cs, cs' => by
    have := fitsL_vals1 l cs cs'
    simp only [List.map_cons, List.cons_append, fitsL_cons, this, cfits_self, true_and]
theorem fitsL_avals1 {cs' : List CV} : CV.fitsL (avals e v ++ cs) (avals e v ++ cs') = CV.fitsL cs cs' := fitsL_vals1 _ _ _
theorem fitsL_avals : CV.fitsL (avals e v) (avals e v) = True := by
  have := fitsL_avals1 (e := e) (v := v) (cs := []) (cs' := [])
  rw [List.append_nil] at this
  rw [this]; simp only [fitsL_nil]
theorem anyRow_drop1 {m : Nat} {v : Vector α (m + 1)} : anyRow ((avals e v ++ cs).drop 1) = anyRow cs := by
  have hl : (avals e v).length = m + 1 := avals_len
  rw [List.drop_append_of_le_length (by omega)]
  unfold avals
  rw [← List.map_drop]
  exact anyRow_vals1 _ _
/-! ### keys -/
theorem eqInts_map {K : Type} [DecidableEq K] {e : K → DVal} [Key e] (hi : ∀ a, ∃ k m, e a = .int k m) : ∀ {l m : List K}, eqInts (l.map e) (m.map e) = decide (l = m)
  | [], [] => rfl
  | [], b :: m => by simp [eqInts]
  | a :: l, [] => by
    obtain ⟨k, x, hx⟩ := hi a
    simp [eqInts, hx]
  | a :: l, b :: m => by
    obtain ⟨k, x, hx⟩ := hi a
    obtain ⟨k', y, hy⟩ := hi b
    have h := Key.eq (e := e) a b
    rw [hx, hy] at h
    simp only [keyEq] at h
    simp only [List.map_cons, hx, hy, eqInts, eqInts_map hi (l := l) (m := m)]
    have h' : (decide (k = k') && x == y) = decide (a = b) := h
    rw [h']
    simp only [List.cons.injEq, Bool.decide_and]
theorem eU_int (a : UInt8) : ∃ k m, eU a = .int k m := ⟨_, _, rfl⟩
theorem eI_int (a : Int) : ∃ k m, eI a = .int k m := ⟨_, _, rfl⟩
instance : Key eU := ⟨fun a b => by
  simp only [keyEq, eU, decide_true, Bool.true_and]
  by_cases h : a = b
  · subst h; simp
  · have : ¬ a.toNat = b.toNat := fun e => h (UInt8.toNat_inj.1 e)
    simp [h]; omega⟩
instance : Key (eA (n := n) eU) := ⟨fun a b => by
  simp only [keyEq, eA]
  rw [eqInts_map eU_int]
  exact decide_eq_decide.2 Vector.toList_inj⟩
instance : Key (eA (n := n) eI) := ⟨fun a b => by
  simp only [keyEq, eA]
  rw [eqInts_map eI_int]
  exact decide_eq_decide.2 Vector.toList_inj⟩
theorem mfind_K {V : Type} {d : V → DVal} {q : IntKind} {k : Int} {es : List (Int × V)} : mfind (.int q k) (encM (eK q) d es) = (aget k es).map d := mfind_map (e := eK q)
theorem mput_KI {q : IntKind} {k : Int} {v : Int} {es : List (Int × Int)} : mput (.int q k) (.int .i64 v) (encM (eK q) eI es) = encM (eK q) eI (aput k v es) := mput_map (e := eK q) (d := eI)
theorem mfind_AU {V : Type} {d : V → DVal} {k : Vector UInt8 n} {es : List (Vector UInt8 n × V)} : mfind (.agg (k.toList.map eU)) (encM (eA eU) d es) = (aget k es).map d := mfind_map (e := eA eU)
theorem mput_AUI {k : Vector UInt8 n} {v : Int} {es : List (Vector UInt8 n × Int)} : mput (.agg (k.toList.map eU)) (.int .i64 v) (encM (eA eU) eI es) = encM (eA eU) eI (aput k v es) := mput_map (e := eA eU) (d := eI)
theorem mfind_AI {V : Type} {d : V → DVal} {k : Vector Int n} {es : List (Vector Int n × V)} : mfind (.agg (k.toList.map eI)) (encM (eA eI) d es) = (aget k es).map d := mfind_map (e := eA eI)
theorem mput_AII {k : Vector Int n} {v : Int} {es : List (Vector Int n × Int)} : mput (.agg (k.toList.map eI)) (.int .i64 v) (encM (eA eI) eI es) = encM (eA eI) eI (aput k v es) := mput_map (e := eA eI) (d := eI)
attribute [go_sem] anyRow_drop1 toDs_avals1 fitsL_avals1 fitsL_avals len_lt1 underCs_avals1 underCs_avals Vector.length_toList anyRow_drop eK eA avals_len avals_len1 avals_fold vals_fold toDs_avals anyRow_avals anyRow_avals1 take_avals take_avals1 drop_avals1 get_avals1 getD_avals1 set_avals1 set_avals mfind_K mput_KI mfind_AU mput_AUI mfind_AI mput_AII
end Go.Val

/- part V51 -/
/- Value semantics, reckoned: what a function does with what is given, by going through it. -/
namespace Go.Val
/-! ### sameness, as a Bool -/
mutual
def DVal.beq : DVal → DVal → Bool
  | .int k n, .int k' n' => decide (k = k') && decide (n = n')
  | .bool b, .bool b' => decide (b = b')
  | .str s, .str s' => decide (s.data.toList = s'.data.toList)
  | .sl xs, .sl ys => DVal.beqL xs ys
  | .agg xs, .agg ys => DVal.beqL xs ys
  | .ptr a, .ptr b => decide (a = b)
  | .map a, .map b => decide (a = b)
  | .fn f as bs, .fn g cs ds => decide (f = g) && DVal.beqL as cs && DVal.beqL bs ds
  | .nilfn, .nilfn => true
  | _, _ => false
def DVal.beqL : List DVal → List DVal → Bool
  | [], [] => true
  | x :: xs, y :: ys => DVal.beq x y && DVal.beqL xs ys
  | _, _ => false
end
mutual
theorem DVal.beq_eq : ∀ (a b : DVal), DVal.beq a b = true → a = b
  | .int k n, b, h => by
    cases b <;> simp only [DVal.beq, Bool.and_eq_true, decide_eq_true_eq, Bool.false_eq_true] at h
    rw [h.1, h.2]
  | .bool x, b, h => by
    cases b <;> simp only [DVal.beq, decide_eq_true_eq, Bool.false_eq_true] at h
    rw [h]
  | .str s, b, h => by
    cases b <;> simp only [DVal.beq, decide_eq_true_eq, Bool.false_eq_true] at h
    rename_i s'
    congr 1
    cases s; cases s'
    simp only at h
    congr 1
    exact Array.ext' h
  | .sl xs, b, h => by
    cases b <;> simp only [DVal.beq, Bool.false_eq_true] at h
    rw [DVal.beqL_eq _ _ h]
  | .agg xs, b, h => by
    cases b <;> simp only [DVal.beq, Bool.false_eq_true] at h
    rw [DVal.beqL_eq _ _ h]
  | .ptr a, b, h => by
    cases b <;> simp only [DVal.beq, decide_eq_true_eq, Bool.false_eq_true] at h
    rw [h]
  | .map a, b, h => by
    cases b <;> simp only [DVal.beq, decide_eq_true_eq, Bool.false_eq_true] at h
    rw [h]
  | .fn f as bs, b, h => by
    cases b <;> simp only [DVal.beq, Bool.and_eq_true, decide_eq_true_eq, Bool.false_eq_true] at h
    rw [h.1.1, DVal.beqL_eq _ _ h.1.2, DVal.beqL_eq _ _ h.2]
  | .nilfn, b, h => by
    cases b <;> simp only [DVal.beq, Bool.false_eq_true] at h
    rfl
theorem DVal.beqL_eq : ∀ (a b : List DVal), DVal.beqL a b = true → a = b
  | [], b, h => by
    cases b <;> simp only [DVal.beqL, Bool.false_eq_true] at h
    rfl
  | x :: xs, b, h => by
    cases b <;> simp only [DVal.beqL, Bool.and_eq_true, Bool.false_eq_true] at h
    rw [DVal.beq_eq _ _ h.1, DVal.beqL_eq _ _ h.2]
end
def CV.beq : CV → CV → Bool
  | .val a, .val b => DVal.beq a b
  | .nil, .nil => true
  | .row k xs, .row k' ys => decide (k = k') && DVal.beqL xs ys
  | .dead, .dead => true
  | _, _ => false
theorem CV.beq_eq (a b : CV) (h : CV.beq a b = true) : a = b := by
  cases a <;> cases b <;> simp only [CV.beq, Bool.and_eq_true, decide_eq_true_eq, Bool.false_eq_true] at h
  · rw [DVal.beq_eq _ _ h]
  · rfl
  · rw [h.1, DVal.beqL_eq _ _ h.2]
  · rfl
def CV.beqL : List CV → List CV → Bool
  | [], [] => true
  | x :: xs, y :: ys => CV.beq x y && CV.beqL xs ys
  | _, _ => false
theorem CV.beqL_eq : ∀ (a b : List CV), CV.beqL a b = true → a = b
  | [], b, h => by
    cases b <;> simp only [CV.beqL, Bool.false_eq_true] at h
    rfl
  | x :: xs, b, h => by
    cases b <;> simp only [CV.beqL, Bool.and_eq_true, Bool.false_eq_true] at h
    rw [CV.beq_eq _ _ h.1, CV.beqL_eq _ _ h.2]
def SV.beq : SV → SV → Bool
  | .cv a, .cv b => CV.beq a b
  | .undef, .undef => true
  | .alias r, .alias r' => decide (r = r')
  | .imm xs, .imm ys => DVal.beqL xs ys
  | .elt r i o, .elt r' i' o' => decide (r = r') && decide (i = i') && decide (o = o')
  | .bld xs, .bld ys => CV.beqL xs ys
  | .tup xs, .tup ys => DVal.beqL xs ys
  | _, _ => false
theorem SV.beq_eq (a b : SV) (h : SV.beq a b = true) : a = b := by
  cases a <;> cases b <;> simp only [SV.beq, Bool.and_eq_true, decide_eq_true_eq, Bool.false_eq_true] at h
  · rw [CV.beq_eq _ _ h]
  · rfl
  · rw [h]
  · rw [DVal.beqL_eq _ _ h]
  · rw [h.1.1, h.1.2, h.2]
  · rw [CV.beqL_eq _ _ h]
  · rw [DVal.beqL_eq _ _ h]
/-! ### what is reckoned -/
/-- A program, what is told of some functions, and in which order drawn regions are gone through. -/
structure Ev where
  C : Ctx
  hand : FuncId → List SV → Option (List SV)
  plan : FuncId → Nat → Option (List Nat)
  fix : FuncId → Nat → St → List Root
  ext : FuncId → List DVal → TypeId → List DVal → Option (List DVal)
  isExt : FuncId → Bool
structure EvOk (E : Ev) : Prop where
  hand : ∀ f a o h, E.hand f a = some o → E.C.hand f a h o h
  ext : ∀ g ds k zs ys, E.ext g ds k zs = some ys → E.C.ext g ds k zs = some ys
abbrev Caller := FuncId → List SV → Heap → Option (List SV × Heap)
def evExt (E : Ev) (s : St) (dst : Option Nat) (g : FuncId) : List Operand → Option St
  | [] => none
  | x :: xs => (rootOf s x).bind fun r => (s.rowAt r).bind fun p => (optVals s xs).bind fun ds =>
      if ds.all DVal.one then (E.ext g ds p.1 p.2).bind fun ys => some ((s.eff (.setRow r p.1 ys)).put dst .undef) else none
def evCall (E : Ev) (call : Caller) (s : St) (dst : Option Nat) (f : Operand) (args : List Operand) : Option St :=
  (callee s f).bind fun c =>
    if E.isExt c.1 && c.2.1.isEmpty && c.2.2.isEmpty then evExt E s dst c.1 args else
    (argsOf E.C c.1 s c.2.1.length args).bind fun r =>
      (match E.hand c.1 (sval c.2.1 ++ r.1 ++ sval c.2.2) with
        | some out => some (out, (s.effs r.2).box)
        | none => call c.1 (sval c.2.1 ++ r.1 ++ sval c.2.2) (s.effs r.2).box).bind fun q =>
          (packed q.1).bind fun v => some (St.put ⟨mapSlots SV.uncell (s.effs r.2).slots, q.2⟩ dst v)
def evNil (P : Program) (s : St) (o : Oper) : Option St :=
  match o.op with
  | .binOp .eql t x (.const (.slice none 0 0)) _ => match P.underlying t, optVal s x with
    | some (.slice _), some (.sl (_ :: _)) => some (s.put o.dst (.cv (.val (.bool false))))
    | _, _ => none
  | _ => none
def evStep (E : Ev) (call : Caller) (s : St) (o : Oper) : Option St :=
  match o.op with
  | .call { callee := .value f, args, .. } => evCall E call s o.dst f args.toList
  | _ => match aop E.C.P s o with
    | some r => some ((s.effs r.2).put o.dst r.1)
    | none => evNil E.C.P s o
def evOps (E : Ev) (call : Caller) (ops : Array Oper) : List Oper → St → Option St
  | [], s => some s
  | o :: os, s => match guardOf ops s o with
    | none => none
    | some true => (evStep E call s o).bind (evOps E call ops os)
    | some false => evOps E call ops os (s.put o.dst .undef)
def holdsB (P : Program) (ops : Array Oper) (s : St) (i : Nat) : Bool :=
  match ops[i]? with
  | none => false
  | some o => match o.dst with
    | none => false
    | some d => match guardOf ops s o with
      | none => false
      | some true => match aop P s o with
        | some (v, []) => SV.beq v (s.get d)
        | _ => false
      | some false => SV.beq (s.get d) .undef
def evPlan (E : Ev) (call : Caller) (ops : Array Oper) (tab : List (Nat × Nat)) : List Nat → List Nat → St → Option St
  | [], pend, s => if pend.all (holdsB E.C.P ops s) then some s else none
  | i :: rest, pend, s => match ops[i]? with
    | none => none
    | some o => match guardOf ops s o with
      | none => none
      | some b =>
        match pass o with
        | true => match b with
          | true => match aop E.C.P s o with
            | some (v, []) => evPlan E call ops tab rest (i :: pend) (s.put o.dst v)
            | _ => none
          | false => evPlan E call ops tab rest (i :: pend) (s.put o.dst .undef)
        | false => if pend.all (holdsB E.C.P ops s) then match b with
            | true => (evStep E call s o).bind (evPlan E call ops tab rest (pend.filter fun p => !(ancBits tab i).testBit p))
            | false => evPlan E call ops tab rest (pend.filter fun p => !(ancBits tab i).testBit p) (s.put o.dst .undef)
          else none
/-- Each slot once; what leads to no row is not known. -/
def rootedB (s : St) : SV → Bool
  | .alias (.slot i) => isRowSV (s.get i)
  | .elt (.slot i) _ _ => isRowSV (s.get i)
  | _ => true
def trimL (s : St) : List (Nat × SV) → Nat → List (Nat × SV)
  | [], _ => []
  | (i, v) :: l, seen => if seen.testBit i then trimL s l seen else if rootedB s v then (i, v) :: trimL s l (seen ||| (1 <<< i)) else (i, .cv .dead) :: trimL s l (seen ||| (1 <<< i))
def trim (s : St) : St := ⟨trimL s s.slots 0, s.box⟩
def evLoop (body : St → Option (Ex × St)) : Nat → St → Option (Ex × St)
  | 0, _ => none
  | n + 1, s => match body (trim s) with
    | some (.normal, s') => evLoop body n s'
    | r => r
/-- What is somebody's own is nobody's any more. -/
def fixOne (s : St) (r : Root) : St := match s.rowAt r with
  | some (k, xs) => s.eff (.fix r (.sl xs))
  | none => s
def fixL (s : St) : List Root → St
  | [] => s
  | r :: rs => fixL (fixOne s r) rs
def planOf (E : Ev) (f id : Nat) (ops : Array Oper) : List Nat := match E.plan f id with
  | some p => p
  | none => List.range ops.size
def evCode (E : Ev) (call : Caller) (f : FuncId) (n : Nat) : Code → St → Option (Ex × St)
  | .skip, s => some (.normal, s)
  | .region id ops false, s => (evOps E call ops ops.toList (fixL s (E.fix f id s))).bind fun s' => some (.normal, s')
  | .region id ops true, s => if planRight ops (planOf E f id ops) then (evPlan E call ops (ancTab ops (planOf E f id ops) []) (planOf E f id ops) [] (fixL s (E.fix f id s))).bind fun s' => some (.normal, s') else none
  | .seq a b, s => match evCode E call f n a s with
    | some (.normal, s') => evCode E call f n b s'
    | r => r
  | .cond c a b, s => match s.opv c with
    | .cv (.val (.bool true)) => evCode E call f n a s
    | .cv (.val (.bool false)) => evCode E call f n b s
    | _ => none
  | .block id c, s => match evCode E call f n c s with
    | some (.exit i, s') => if i = id then some (.normal, s') else some (.exit i, s')
    | r => r
  | .loop c, s => evLoop (evCode E call f n c) n s
  | .exit id, s => some (.exit id, s)
  | .ret, s => some (.ret, s)
  | _, _ => none
def codeOf (P : Program) (f : FuncId) : Option (Func × Code) :=
  match P.funcs[f]? with
  | none => none
  | some fn => match fn.body with
    | none => none
    | some code => if within fn.ntmps code && !(fn.name == "runtime.NumGoroutine") then some (fn, code) else none
def evFun (E : Ev) (n : Nat) : Nat → Caller
  | 0, _, _, _ => none
  | k + 1, f, args, h => match codeOf E.C.P f with
    | none => none
    | some (fn, code) => if args.length ≤ fn.ntmps then match evCode E (evFun E n k) f n code ⟨entry 0 args, h⟩ with
        | some (.exit _, _) => none
        | some (_, s) => results E.C f s fn.results.toList
        | none => none
      else none
/-! ### what is reckoned, is so -/
section
variable {E : Ev} {call : Caller}
def CallOk (E : Ev) (call : Caller) : Prop := ∀ f a h o h', call f a h = some (o, h') → Runs E.C f a h fun o1 h1 => o1 = o ∧ h1 = h'
theorem evStep_ok (hE : EvOk E) (hc : CallOk E call) {s s' : St} {o : Oper} (h : evStep E call s o = some s') {K : St → Prop} (hK : K s') : stepOp E.C (Runs E.C) s o K := by
  unfold evStep at h
  unfold stepOp
  split at h
  · rename_i f args _ heq
    simp only [heq]
    unfold evCall at h
    simp only [Option.bind_eq_some_iff] at h
    obtain ⟨⟨g, fs, cs⟩, hcal, h⟩ := h
    simp only at h
    split at h
    · rename_i hx
      simp only [Bool.and_eq_true, List.isEmpty_iff] at hx
      obtain ⟨⟨_, rfl⟩, rfl⟩ := hx
      left; right
      cases hargs : args.toList with
      | nil => rw [hargs] at h; simp [evExt] at h
      | cons x xs =>
        rw [hargs] at h
        simp only [evExt, Option.bind_eq_some_iff] at h
        obtain ⟨r, h1, p, h2, ds, h3, h⟩ := h
        split at h
        · rename_i hall
          simp only [Option.bind_eq_some_iff, Option.some.injEq] at h
          obtain ⟨ys, h4, rfl⟩ := h
          exact ⟨g, x, xs, r, p.1, p.2, ds, ys, hcal, rfl, h1, h2, h3, hall, hE.ext _ _ _ _ _ h4, hK⟩
        · cases h
    · right
      simp only [Option.bind_eq_some_iff, Option.some.injEq] at h
      obtain ⟨r, h1, ⟨out, h'⟩, h2, v, h3, rfl⟩ := h
      refine ⟨g, fs, cs, r.1, r.2, hcal, h1, fun _ => ?_⟩
      cases hh : E.hand g (sval fs ++ r.1 ++ sval cs) with
      | some out' =>
        rw [hh] at h2
        simp only [Option.some.injEq, Prod.mk.injEq] at h2
        obtain ⟨rfl, rfl⟩ := h2
        exact Runs.hand (hE.hand _ _ _ _ hh) ⟨v, h3, hK⟩
      | none =>
        rw [hh] at h2
        refine (hc _ _ _ _ _ h2).mono fun o1 h1 ⟨e1, e2⟩ => ?_
        subst e1 e2
        exact ⟨v, h3, hK⟩
  · rename_i hne
    split
    · rename_i f args _ heq
      exact absurd heq (hne _ _ _)
    · split at h
      · rename_i r hr
        obtain rfl := Option.some.inj h
        exact .inr ⟨r.1, r.2, hr, hK⟩
      · left
        unfold evNil at h
        split at h
        · rename_i t x ty hop
          split at h
          · rename_i e y ys hu hx
            obtain rfl := Option.some.inj h
            exact ⟨t, x, ty, y :: ys, e, hop, hu, hx, fun b hb => by rw [hb (by simp)]; exact hK⟩
          · cases h
        · cases h
theorem evOps_ok (hE : EvOk E) (hc : CallOk E call) {ops : Array Oper} : ∀ (l : List Oper) {s s' : St}, evOps E call ops l s = some s' → ∀ {K : St → Prop}, K s' → wpOps E.C (Runs E.C) ops l K s
  | [], s, s', h, K, hK => by obtain rfl := Option.some.inj h; exact hK
  | o :: os, s, s', h, K, hK => by
    simp only [evOps] at h
    split at h
    · cases h
    · rename_i hg
      simp only [Option.bind_eq_some_iff] at h
      obtain ⟨s1, h1, h2⟩ := h
      exact ⟨true, hg, fun _ => evStep_ok hE hc h1 (evOps_ok hE hc os h2 hK), fun e => by cases e⟩
    · rename_i hg
      exact ⟨false, hg, (fun e => by cases e), fun _ => evOps_ok hE hc os h hK⟩
theorem holdsB_ok {P : Program} {ops : Array Oper} {s : St} {i : Nat} (h : holdsB P ops s i = true) : holdsAt P ops s i := by
  unfold holdsB at h
  split at h
  · cases h
  · rename_i o ho
    split at h
    · cases h
    · rename_i d hd
      split at h
      · cases h
      · rename_i hg
        split at h
        · rename_i v hv
          exact ⟨o, d, ho, hd, true, hg, fun _ => by rw [hv, SV.beq_eq _ _ h], fun e => by cases e⟩
        · cases h
      · rename_i hg
        exact ⟨o, d, ho, hd, false, hg, (fun e => by cases e), fun _ => SV.beq_eq _ _ h⟩
theorem all_holds {P : Program} {ops : Array Oper} {s : St} {pend : List Nat} (h : pend.all (holdsB P ops s) = true) : ∀ p ∈ pend, holdsAt P ops s p := fun p hp => holdsB_ok (List.all_eq_true.1 h p hp)
theorem evPlan_ok (hE : EvOk E) (hc : CallOk E call) {ops : Array Oper} {tab : List (Nat × Nat)} : ∀ (l : List Nat) {pend : List Nat} {s s' : St}, evPlan E call ops tab l pend s = some s' → ∀ {K : St → Prop}, K s' → wpPlan E.C (Runs E.C) ops tab pend l K s
  | [], pend, s, s', h, K, hK => by
    simp only [evPlan] at h
    split at h
    · rename_i ha
      obtain rfl := Option.some.inj h
      exact ⟨all_holds ha, hK⟩
    · cases h
  | i :: rest, pend, s, s', h, K, hK => by
    simp only [evPlan] at h
    simp only [wpPlan]
    split at h
    · cases h
    · rename_i o ho
      refine ⟨o, ho, ?_⟩
      split at h
      · cases h
      · rename_i b hg
        cases hp : pass o with
        | true =>
          rw [hp] at h
          cases b with
          | true =>
            simp only at h
            split at h
            · rename_i v hv
              exact ⟨true, hg, fun _ => ⟨v, hv, evPlan_ok hE hc rest h hK⟩, fun e => by cases e⟩
            · cases h
          | false => exact ⟨false, hg, (fun e => by cases e), fun _ => evPlan_ok hE hc rest h hK⟩
        | false =>
          rw [hp] at h
          simp only at h
          split at h
          · rename_i ha
            refine ⟨all_holds ha, ?_⟩
            cases b with
            | true =>
              simp only [Option.bind_eq_some_iff] at h
              obtain ⟨s1, h1, h2⟩ := h
              exact ⟨true, hg, fun _ => evStep_ok hE hc h1 (evPlan_ok hE hc rest h2 hK), fun e => by cases e⟩
            | false => exact ⟨false, hg, (fun e => by cases e), fun _ => evPlan_ok hE hc rest h hK⟩
          · cases h
theorem bit_or {seen i j : Nat} : (seen ||| (1 <<< i)).testBit j = (seen.testBit j || decide (i = j)) := by
  rw [Nat.testBit_or, Nat.one_shiftLeft]
  by_cases h : i = j
  · subst h; simp [Nat.testBit_two_pow_self]
  · rw [Nat.testBit_two_pow_of_ne h]; simp [h]
theorem trim_mem {s : St} : ∀ (l : List (Nat × SV)) (seen : Nat), ∀ p ∈ trimL s l seen, seen.testBit p.1 = false ∧ (p.2 = .cv .dead ∨ p.2 = look l p.1 ∧ rootedB s p.2 = true)
  | [], _, p, hp => by simp [trimL] at hp
  | (i, v) :: l, seen, p, hp => by
    simp only [trimL] at hp
    have tail : ∀ seen' : Nat, p ∈ trimL s l seen' → (seen'.testBit p.1 = false → i ≠ p.1 ∧ seen.testBit p.1 = false) → seen.testBit p.1 = false ∧ (p.2 = .cv .dead ∨ p.2 = look ((i, v) :: l) p.1 ∧ rootedB s p.2 = true) := fun seen' hm hi => by
      obtain ⟨h1, h2⟩ := trim_mem l seen' p hm
      obtain ⟨h3, h4⟩ := hi h1
      refine ⟨h4, h2.imp id fun h => ⟨?_, h.2⟩⟩
      simp only [look]
      rw [if_neg h3]; exact h.1
    have cons : ∀ h : (seen ||| (1 <<< i)).testBit p.1 = false, i ≠ p.1 ∧ seen.testBit p.1 = false := fun h => by
      rw [bit_or, Bool.or_eq_false_iff] at h
      exact ⟨by simpa using h.2, h.1⟩
    split at hp
    · rename_i hs
      refine tail seen hp fun h => ⟨fun e => ?_, h⟩
      rw [← e, hs] at h; cases h
    · rename_i hs
      split at hp
      · rename_i hr
        rcases List.mem_cons.1 hp with rfl | hp
        · exact ⟨by simpa using hs, .inr ⟨by simp [look], hr⟩⟩
        · exact tail _ hp cons
      · rcases List.mem_cons.1 hp with rfl | hp
        · exact ⟨by simpa using hs, .inl rfl⟩
        · exact tail _ hp cons
theorem row_rooted {s : St} {v : SV} (h : isRowSV v = true) : rootedB s v = true := by
  cases v with
  | cv c => rfl
  | alias r => cases h
  | elt r i o => cases h
  | _ => rfl
theorem trim_row {s : St} {j : Nat} : ∀ (l : List (Nat × SV)) (seen : Nat), isRowSV (look l j) = true → seen.testBit j = false → look (trimL s l seen) j = look l j
  | [], _, h, _ => by simp [look, isRowSV] at h
  | (i, v) :: l, seen, h, hs => by
    simp only [look] at h ⊢
    simp only [trimL]
    by_cases e : i = j
    · subst e
      rw [if_pos rfl] at h ⊢
      rw [hs, if_neg (by simp), if_pos (row_rooted h)]
      simp [look]
    · rw [if_neg e] at h ⊢
      split
      · exact trim_row l seen h hs
      · have hs2 : (seen ||| (1 <<< i)).testBit j = false := by rw [bit_or, hs]; simp [e]
        split
        · simp only [look]; rw [if_neg e]; exact trim_row l _ h hs2
        · simp only [look]; rw [if_neg e]; exact trim_row l _ h hs2
theorem trim_to {m : Nat} (s : St) : St.To m s (trim s) := by
  refine St.To.weak s (trim s) (trimL s s.slots 0) (fun p hp => ?_) (.refl _)
  obtain ⟨_, h⟩ := trim_mem s.slots 0 p hp
  rcases h with h | ⟨h, hr⟩
  · rw [h]
    exact ⟨by cases s.get p.1 <;> simp [SV.fits], by trivial⟩
  · refine ⟨?_, ?_⟩
    · have e : s.get p.1 = p.2 := h.symm
      rw [e]; exact fits_refl _
    · have hrow : ∀ i, isRowSV (s.get i) = true → isRowSV (St.get ⟨trimL s s.slots 0, s.box⟩ i) = true := fun i hi => by
        show isRowSV (look (trimL s s.slots 0) i) = true
        rw [trim_row s.slots 0 hi (by simp)]; exact hi
      generalize p.2 = v at hr
      cases v with
      | alias r => cases r with
        | slot i => exact hrow i hr
        | cell l i => trivial
      | elt r i o => cases r with
        | slot i => exact hrow i hr
        | cell l i => trivial
      | _ => trivial
theorem fixL_to {m : Nat} : ∀ (rs : List Root) (s : St), St.To m s (fixL s rs)
  | [], s => .refl s
  | r :: rs, s => by
    simp only [fixL, fixOne]
    split
    · rename_i k xs h
      exact .fix s _ r k xs h (fixL_to rs _)
    · exact fixL_to rs s
theorem evLoop_ok {m : Nat} {c : Code} {b : St → Option (Ex × St)} (hb : ∀ s ex s', b s = some (ex, s') → ∀ Q : Ex → St → Prop, Q ex s' → wpCode E.C (Runs E.C) m c Q s) : ∀ (n : Nat) (s : St) (ex : Ex) (s' : St), evLoop b n s = some (ex, s') → ∀ Q : Ex → St → Prop, Q ex s' → Rounds m (wpCode E.C (Runs E.C) m c) Q s
  | 0, s, ex, s', h, Q, hQ => by cases h
  | n + 1, s, ex, s', h, Q, hQ => by
    simp only [evLoop] at h
    split at h
    · rename_i s1 h1
      exact Rounds.step (trim s) (trim_to s) (hb _ _ _ h1 _ (evLoop_ok hb n s1 ex s' h Q hQ))
    · rename_i hne
      refine Rounds.step (trim s) (trim_to s) (hb _ _ _ h _ ?_)
      cases ex with
      | normal => exact absurd h (hne s')
      | exit i => exact hQ
      | ret => exact hQ
theorem evCode_ok (hE : EvOk E) (hc : CallOk E call) {f n m : Nat} : ∀ (c : Code) (s : St) (ex : Ex) (s' : St), evCode E call f n c s = some (ex, s') → ∀ Q : Ex → St → Prop, Q ex s' → wpCode E.C (Runs E.C) m c Q s
  | .skip, s, ex, s', h, Q, hQ => by
    simp only [evCode, Option.some.injEq, Prod.mk.injEq] at h
    obtain ⟨rfl, rfl⟩ := h; exact hQ
  | .region id ops false, s, ex, s', h, Q, hQ => by
    simp only [evCode, Option.bind_eq_some_iff, Option.some.injEq, Prod.mk.injEq] at h
    obtain ⟨s1, h1, rfl, rfl⟩ := h
    exact ⟨_, fixL_to _ s, evOps_ok hE hc _ h1 hQ⟩
  | .region id ops true, s, ex, s', h, Q, hQ => by
    simp only [evCode] at h
    split at h
    · rename_i hp
      simp only [Option.bind_eq_some_iff, Option.some.injEq, Prod.mk.injEq] at h
      obtain ⟨s1, h1, rfl, rfl⟩ := h
      exact ⟨_, _, fixL_to _ s, hp, evPlan_ok hE hc _ h1 hQ⟩
    · cases h
  | .seq a b, s, ex, s', h, Q, hQ => by
    simp only [evCode] at h
    split at h
    · rename_i s1 h1
      exact evCode_ok hE hc a s _ _ h1 _ ⟨s1, .refl s1, evCode_ok hE hc b s1 ex s' h Q hQ⟩
    · rename_i hne
      refine evCode_ok hE hc a s ex s' h _ ?_
      cases ex with
      | normal => exact absurd h (hne s')
      | exit i => exact hQ
      | ret => exact hQ
  | .cond c a b, s, ex, s', h, Q, hQ => by
    simp only [evCode] at h
    split at h
    · rename_i ho
      exact ⟨true, ho, fun _ => evCode_ok hE hc a s ex s' h Q hQ, fun e => by cases e⟩
    · rename_i ho
      exact ⟨false, ho, (fun e => by cases e), fun _ => evCode_ok hE hc b s ex s' h Q hQ⟩
    · cases h
  | .block id c, s, ex, s', h, Q, hQ => by
    simp only [evCode] at h
    split at h
    · rename_i i s1 h1
      refine evCode_ok hE hc c s _ _ h1 _ ?_
      simp only [Ex.inBlock]
      split at h
      · rename_i hi
        simp only [Option.some.injEq, Prod.mk.injEq] at h
        obtain ⟨rfl, rfl⟩ := h
        rw [if_pos hi]; exact hQ
      · rename_i hi
        simp only [Option.some.injEq, Prod.mk.injEq] at h
        obtain ⟨rfl, rfl⟩ := h
        rw [if_neg hi]; exact hQ
    · rename_i hne
      refine evCode_ok hE hc c s ex s' h _ ?_
      cases ex with
      | exit i => exact absurd h (hne i s')
      | normal => exact hQ
      | ret => exact hQ
  | .loop c, s, ex, s', h, Q, hQ => by
    simp only [evCode] at h
    exact evLoop_ok (fun s ex s' h Q hQ => evCode_ok hE hc c s ex s' h Q hQ) n s ex s' h Q hQ
  | .exit id, s, ex, s', h, Q, hQ => by
    simp only [evCode, Option.some.injEq, Prod.mk.injEq] at h
    obtain ⟨rfl, rfl⟩ := h; exact hQ
  | .ret, s, ex, s', h, Q, hQ => by
    simp only [evCode, Option.some.injEq, Prod.mk.injEq] at h
    obtain ⟨rfl, rfl⟩ := h; exact hQ
  | .scope .., s, ex, s', h, Q, hQ => by simp [evCode] at h
  | .label .., s, ex, s', h, Q, hQ => by simp [evCode] at h
  | .goto .., s, ex, s', h, Q, hQ => by simp [evCode] at h
  | .refuse .., s, ex, s', h, Q, hQ => by simp [evCode] at h
  | .rangeFunc .., s, ex, s', h, Q, hQ => by simp [evCode] at h
theorem codeOf_ok {P : Program} {f : FuncId} {fn : Func} {code : Code} (h : codeOf P f = some (fn, code)) : P.funcs[f]? = some fn ∧ fn.body = some code ∧ within fn.ntmps code = true ∧ (fn.name == "runtime.NumGoroutine") = false := by
  unfold codeOf at h
  split at h
  · cases h
  · rename_i fn' h1
    split at h
    · cases h
    · rename_i code' h2
      split at h
      · rename_i h3
        simp only [Option.some.injEq, Prod.mk.injEq] at h
        obtain ⟨rfl, rfl⟩ := h
        rw [Bool.and_eq_true, Bool.not_eq_true'] at h3
        exact ⟨h1, h2, h3.1, h3.2⟩
      · cases h
theorem evFun_ok (hE : EvOk E) {n : Nat} : ∀ k, CallOk E (evFun E n k)
  | 0 => fun f a h o h' he => by cases he
  | k + 1 => fun f a h o h' he => by
    simp only [evFun] at he
    split at he
    · cases he
    · rename_i fn code hco
      obtain ⟨h1, h2, h3, h4⟩ := codeOf_ok hco
      split at he
      · rename_i hlen
        refine Runs.intro fn code h1 h2 hlen h3 h4 fun _ _ => ?_
        split at he
        · cases he
        · rename_i ex s hne hev
          refine evCode_ok hE (evFun_ok hE k) code _ ex s hev _ ?_
          cases ex with
          | exit i => exact absurd rfl (hne i)
          | normal => exact ⟨s, .refl s, o, h', he, h', .inl rfl, rfl, rfl⟩
          | ret => exact ⟨s, .refl s, o, h', he, h', .inl rfl, rfl, rfl⟩
        · cases he
      · cases he
end
/-! ### from no memory at all to any -/
/-- Nothing is written but what is new. -/
def Gh.none (G : Gh) : Gh := ⟨G.P, fun b => match G.g b with | .imm => .imm | _ => .other, G.ι, 0⟩
theorem none_two (G : Gh) (b : Nat) : (G.none.g b = .imm ∧ G.g b = .imm) ∨ G.none.g b = .other := by
  simp only [Gh.none]
  cases h : G.g b <;> simp
theorem underL_cat {n : Nat} : ∀ {xs ys : List DVal}, underL n xs → underL n ys → underL n (xs ++ ys)
  | [], _, _, h => h
  | x :: xs, _, h1, h2 => ⟨h1.1, underL_cat h1.2 h2⟩
theorem under_cells0 {n : Nat} {d : DVal} (h : d.under n) : underL n d.cells := by
  cases d <;> first | exact h | exact ⟨h, trivial⟩
theorem under_all {n : Nat} : ∀ {xs : List DVal}, underL n xs → underL n (allCells xs)
  | [], _ => trivial
  | x :: xs, h => by
    show underL n (x.cells ++ allCells xs)
    exact underL_cat (under_cells0 h.1) (under_all h.2)
/-- Data without pointers hangs on nothing but what nobody writes. -/
structure Flat (w : World) (G : Gh) (w' : World) (G' : Gh) : Prop where
  g : ∀ b, G.g b = .imm → b < w.heap.size → G'.g b = .imm ∧ w'.heap[b]? = w.heap[b]?
  size : w.heap.size ≤ w'.heap.size
mutual
theorem RelV.flat {w w' : World} {G G' : Gh} (M : Flat w G w' G') : ∀ {d : DVal} {v : Value}, RelV w G d v → d.under 0 → RelV w' G' d v
  | _, _, .int k n, _ => .int k n
  | _, _, .bool b, _ => .bool b
  | _, _, .str s, _ => .str s
  | _, _, .agg cs vs h, hu => .agg cs vs (RelCs.flat M h hu)
  | _, _, .nilptr, _ => .nilptr
  | _, _, .ptr l off h, hu => absurd hu (Nat.not_lt_zero _)
  | _, _, .nilmap, _ => .nilmap
  | _, _, .map l h, hu => absurd hu (Nat.not_lt_zero _)
  | _, _, .nilfn, _ => .nilfn
  | _, _, .fn f as bs us vs h1 h2, hu => .fn f as bs us vs (RelCs.flat M h1 hu.1) (RelCs.flat M h2 hu.2)
  | _, _, .nilsl a cap, _ => .nilsl a cap
  | _, _, .sl xs ad cap k vs hne hcap hg hb hs hk hr hc, hu => .sl xs ad cap k vs hne hcap (M.g _ hg hb).1 (Nat.lt_of_lt_of_le hb M.size) hs hk (RelCs.flat M hr (under_all hu)) (hc.mono fun h => (M.g _ hg h).2)
theorem RelCs.flat {w w' : World} {G G' : Gh} (M : Flat w G w' G') : ∀ {ds : List DVal} {vs : List Value}, RelCs w G ds vs → underL 0 ds → RelCs w' G' ds vs
  | _, _, .nil, _ => .nil
  | _, _, .cons d v ds vs h1 h2 h3, hu => .cons d v ds vs h1 (RelV.flat M h2 hu.1) (RelCs.flat M h3 hu.2)
end
def flatOut : SV → Prop
  | .cv (.val d) => d.under 0
  | _ => False
theorem RelOuts.flat {w w' : World} {G G' : Gh} (M : Flat w G w' G') : ∀ {os : List SV} {vs : List Value}, RelOuts w G os vs → (∀ o ∈ os, flatOut o) → RelOuts w' G' os vs
  | _, _, .nil, _ => .nil
  | _, _, .cons c v os vs h1 h2, hu => by
    have hc := hu (.cv c) (by simp)
    refine .cons c v os vs ?_ (RelOuts.flat M h2 (fun o ho => hu o (List.mem_cons_of_mem _ ho)))
    cases c with
    | val d => exact RelV.flat M h1 hc
    | nil => exact hc.elim
    | row k xs => exact hc.elim
    | dead => exact hc.elim
theorem RelArgs.flat {w w' : World} {G G' : Gh} (M : Flat w G w' G') {t : Nat → Tag} : ∀ {i : Nat} {as : List SV} {vs : List Value}, RelArgs w G t i as vs → (∀ o ∈ as, flatOut o) → RelArgs w' G' t i as vs
  | _, _, _, .nil i, _ => .nil i
  | _, _, _, .cons i c v as vs h1 h2, hu => by
    have hc := hu (.cv c) (by simp)
    refine .cons i c v as vs ?_ (RelArgs.flat M h2 (fun o ho => hu o (List.mem_cons_of_mem _ ho)))
    cases c with
    | val d => exact RelV.flat M h1 hc
    | nil => exact hc.elim
    | row k xs => exact hc.elim
    | dead => exact hc.elim
/-- What is so of no memory, with data that leads nowhere, is so of any. -/
theorem sound_any {P : Program} {f : FuncId} {args out : List SV} {Q : List SV → Heap → Prop} (h0 : Sound P f args ⟨0, fun _ => .none⟩ Q) (hQ : ∀ o h, Q o h → o = out) (ha : ∀ o ∈ args, flatOut o) (ho : ∀ o ∈ out, flatOut o) (h : Heap) : Sound P f args h fun o h' => o = out ∧ h' = h := by
  obtain ⟨hent, hrun⟩ := h0
  refine ⟨hent, fun w G vs hP hargs hh hf => ?_⟩
  have F0 : Flat w G w G.none := ⟨fun b hb _ => ⟨by simp only [Gh.none, hb], rfl⟩, Nat.le_refl _⟩
  refine (hrun w G.none vs hP (RelArgs.flat F0 hargs ha) ⟨rfl, fun l o e => by cases e⟩ (fun b hb => by simp only [Gh.none, hf b hb])).mono fun e w' ⟨us, o, h1, G1, he, hq, hro, hrh, hfr, hk⟩ => ?_
  obtain rfl := hQ _ _ hq
  have hheap : ∀ b, b < w.heap.size → w'.heap[b]? = w.heap[b]? := fun b hb => by
    rcases none_two G b with ⟨e, _⟩ | e
    · exact (hk.imm b e hb).2
    · exact (hk.other b e hb).2
  have hgr : Grows w G w' ⟨G.P, fun b => if b < w.heap.size then G.g b else match G1.g b with | .imm => .imm | _ => .other, G.ι, G.n⟩ := {
    os := hk.os
    tape := hk.tape
    output := hk.output
    size := hk.size
    heap := hheap
    g := fun b hb => by simp only; rw [if_pos hb]
    fresh := fun b hb => by
      simp only
      rw [if_neg (by have := hk.size; omega), hfr b hb]
    n := Nat.le_refl _
    ι := fun _ _ => rfl
    P := rfl }
  have F1 : Flat w' G1 w' ⟨G.P, fun b => if b < w.heap.size then G.g b else match G1.g b with | .imm => .imm | _ => .other, G.ι, G.n⟩ := ⟨fun b hb hl => ⟨by
    simp only
    by_cases hlt : b < w.heap.size
    · rw [if_pos hlt]
      rcases none_two G b with ⟨_, e⟩ | e
      · exact e
      · have := (hk.other b e hlt).1
        rw [hb] at this; cases this
    · rw [if_neg hlt, hb], rfl⟩, Nat.le_refl _⟩
  exact ⟨us, _, h, _, he, ⟨rfl, rfl⟩, RelOuts.flat F1 hro ho, hgr.heapH rfl hh, hgr.fresh, hgr.kept⟩
end Go.Val

/- part V53 -/
/- Value semantics: the rules of what is looked at. -/
namespace Go.Val
variable {C : Ctx} {s : St}
/-- What lies there already. -/
theorem upd_keep {h : Heap} {la lb : Nat} {o o' : BObj} (hn : la ≠ lb) (ha : h.at_ lb = some o) : (h.upd la o').upd lb o = h.upd la o' := by rw [← upd_swap hn, upd_same ha]
/-- What is lent is looked at, and memory. -/
theorem w_look {R : Oracle} {ops : Array Oper} {os : List Oper} {K : St → Prop} {dst : Option Tmp} {ty : TypeId} {pos : String} {after : Array Edge} {f : Operand} {args : Array Operand} {ts : Array TypeId} {gd : Option (Nat × Bool)}
    {g : FuncId} {ds : List DVal} {out : List SV} (h0 : guardOf ops s ⟨dst, .call ⟨.value f, args, ts⟩, ty, pos, after, gd⟩ = some true) (h1 : callee s f = some (g, [], [])) (h2 : lends s args.toList = some ds)
    (h3 : C.look g ds s.box out) (h5 : (packed out).isSome = true) (h6 : out.all scalar = true) (hk : wpOps C R ops os K (s.put dst ((packed out).getD .undef))) :
    wpOps C R ops (⟨dst, .call ⟨.value f, args, ts⟩, ty, pos, after, gd⟩ :: os) K s := by
  refine ⟨true, h0, fun _ => .inl (.inl (.inr ?_)), fun e => by cases e⟩
  cases hpk : packed out with
  | none => rw [hpk] at h5; cases h5
  | some v => exact ⟨g, ds, out, v, h1, h2, h3, h6, hpk, by rw [hpk] at hk; exact hk⟩
/-- What somebody's own object is, as it is written. -/
theorem updF {h : Heap} {l : Nat} {o : BObj} (hl : l < h.n) (ha : h.at_ l = some o) : (∀ os o', (h.on os).upd l o' = (h.upd l o').on os) ∧ (∀ os l' o', ((h.upd l' o').on os).at_ l = (h.upd l' o').at_ l) ∧ (∀ os l' o o', ((h.upd l' o').on os).upd l o = ((h.upd l' o').upd l o).on os) ∧ h.upd l o = h ∧
    (∀ os l' l2 o o2, (((h.upd l' o).upd l2 o2).on os).at_ l = ((h.upd l' o).upd l2 o2).at_ l) ∧ ∀ os l' l2 o o' o2, (((h.upd l' o').upd l2 o2).on os).upd l o = (((h.upd l' o').upd l2 o2).upd l o).on os :=
  ⟨fun _ _ => on_updB hl, fun _ _ _ => on_atU hl, fun _ _ _ _ => on_updU hl, upd_same ha, fun _ _ _ _ _ => on_atUU hl, fun _ _ _ _ _ _ => on_updUU hl⟩
theorem updP {la lb : Nat} (hn : la ≠ lb) : (∀ (h : Heap) (o : BObj), (h.upd lb o).at_ la = h.at_ la) ∧ (∀ (h : Heap) (o : BObj), (h.upd la o).at_ lb = h.at_ lb) ∧ ∀ (h : Heap) (o o' : BObj), (h.upd lb o).upd la o' = (h.upd la o').upd lb o :=
  ⟨fun _ _ => upd_ne hn, fun _ _ => upd_ne (Ne.symm hn), fun _ _ _ => upd_swap hn⟩
theorem keepF {h : Heap} {la lb : Nat} {o : BObj} (hn : la ≠ lb) (ha : h.at_ lb = some o) : ∀ o', (h.upd la o').upd lb o = h.upd la o' := fun _ => upd_keep hn ha
theorem A_hat {p : Prop} (h : p := by simp (disch := (apply Apart.mk; decide)) only [go_sem, Nat.reduceAdd, Nat.reduceLT, Nat.reduceMul, Nat.reduceLeDiff, Int.reduceToNat, Int.reduceLT, Int.reduceLE, *]) : p := h
theorem A_ne {a b : Nat} (h : a ≠ b := by first | omega | assumption | exact Ne.symm (by assumption)) : a ≠ b := h
theorem A_wf {h : Heap} {l : Nat} {o : BObj} (hwf : h.WF) (hl : l < h.n) (ho : o.under h.n := by simp (disch := (apply Apart.mk; decide)) only [go_sem, Nat.reduceAdd, Nat.reduceLT, Nat.reduceMul, Nat.reduceLeDiff, Int.reduceToNat, Int.reduceLT, Int.reduceLE, *]) : (h.upd l o).WF := WF.upd hwf hl ho
section
variable {R : Oracle} {ops : Array Oper} {tab : List (Nat × Nat)} {K : St → Prop} {pend rest : List Nat} {s' : St} {i : Nat}
theorem A_pop (pend' : List Nat) (hk : wpPlan C R ops tab pend' rest K s') (hp : ops[i]?.map pass = some false := by rfl) (hh : holdsL C.P ops s pend := by simp (disch := (apply Apart.mk; decide)) only [go_sem, Nat.reduceAdd, Nat.reduceLT, Nat.reduceMul, Nat.reduceLeDiff, Int.reduceToNat, Int.reduceLT, Int.reduceLE, *]) (h : evalAt C.P ops s ops[i]? = some s' := by simp (disch := (apply Apart.mk; decide)) only [go_sem, Nat.reduceAdd, Nat.reduceLT, Nat.reduceMul, Nat.reduceLeDiff, Int.reduceToNat, Int.reduceLT, Int.reduceLE, *]; rfl) (hf : (pend.filter fun p => !(ancBits tab i).testBit p) = pend' := by rfl) : wpPlan C R ops tab pend (i :: rest) K s := p_op hp hh h hf hk
theorem A_prun (l pend' : List Nat) (hk : wpPlan C R ops tab pend' rest K s') (h : runPass C.P ops l s = some s' := by simp (disch := (apply Apart.mk; decide)) only [go_sem, Nat.reduceAdd, Nat.reduceLT, Nat.reduceMul, Nat.reduceLeDiff, Int.reduceToNat, Int.reduceLT, Int.reduceLE, *]; rfl) (hp : l.reverse ++ pend = pend' := by rfl) : wpPlan C R ops tab pend (l ++ rest) K s := p_run h hp hk
theorem A_pend (hk : K s) (hh : holdsL C.P ops s pend := by simp (disch := (apply Apart.mk; decide)) only [go_sem, Nat.reduceAdd, Nat.reduceLT, Nat.reduceMul, Nat.reduceLeDiff, Int.reduceToNat, Int.reduceLT, Int.reduceLE, *]) : wpPlan C R ops tab pend [] K s := p_end hh hk
theorem A_pcall (pend' : List Nat) {dst : Option Tmp} {ty : TypeId} {pos : String} {after : Array Edge} {f : Operand} {args : Array Operand} {ts : Array TypeId} {gd : Option (Nat × Bool)}
    {g : FuncId} {fs cs : List DVal} {as : List SV} {es : List Eff} {s1 : St} {out : List SV} {hp : Heap}
    (h4 : Runs C g (sval fs ++ as ++ sval cs) s1.box fun o h' => o = out ∧ h' = hp) (h5 : (packed out).isSome = true) (hk : wpPlan C (Runs C) ops tab pend' rest K (St.put ⟨mapSlots SV.uncell s1.slots, hp⟩ dst ((packed out).getD .undef)))
    (ho : ops[i]? = some ⟨dst, .call ⟨.value f, args, ts⟩, ty, pos, after, gd⟩ := by rfl) (hh : holdsL C.P ops s pend := by simp (disch := (apply Apart.mk; decide)) only [go_sem, Nat.reduceAdd, Nat.reduceLT, Nat.reduceMul, Nat.reduceLeDiff, Int.reduceToNat, Int.reduceLT, Int.reduceLE, Option.getD_some, *]) (h0 : guardOf ops s ⟨dst, .call ⟨.value f, args, ts⟩, ty, pos, after, gd⟩ = some true := by first | rfl | (simp (disch := (apply Apart.mk; decide)) only [go_sem, Nat.reduceAdd, Nat.reduceLT, Nat.reduceMul, Nat.reduceLeDiff, Int.reduceToNat, Int.reduceLT, Int.reduceLE, Option.getD_some, *]))
    (h1 : callee s f = some (g, fs, cs) := by simp (disch := (apply Apart.mk; decide)) only [go_sem, Nat.reduceAdd, Nat.reduceLT, Nat.reduceMul, Nat.reduceLeDiff, Int.reduceToNat, Int.reduceLT, Int.reduceLE, Option.getD_some, *]; rfl) (h2 : argsOf C g s fs.length args.toList = some (as, es) := by simp (disch := (apply Apart.mk; decide)) only [go_sem, Nat.reduceAdd, Nat.reduceLT, Nat.reduceMul, Nat.reduceLeDiff, Int.reduceToNat, Int.reduceLT, Int.reduceLE, Option.getD_some, *]; rfl) (h3 : s.effs es = s1 := by simp (disch := (apply Apart.mk; decide)) only [go_sem, Nat.reduceAdd, Nat.reduceLT, Nat.reduceMul, Nat.reduceLeDiff, Int.reduceToNat, Int.reduceLT, Int.reduceLE, Option.getD_some, *]; rfl) (hf : (pend.filter fun p => !(ancBits tab i).testBit p) = pend' := by rfl) :
    wpPlan C (Runs C) ops tab pend (i :: rest) K s := p_call ho hh h0 h1 h2 h3 hf h4 h5 hk
end
end Go.Val
