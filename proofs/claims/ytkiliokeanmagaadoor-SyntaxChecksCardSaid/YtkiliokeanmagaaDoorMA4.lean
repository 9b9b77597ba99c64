/- Laws for symbolic evaluation. -/
import Derived.Test.YtkiliokeanmagaaDoorMA3
namespace Go.Proofs.YtkiliokeanmagaaDoor.Ab
open Go
set_option linter.unusedVariables false
set_option linter.unusedSimpArgs false

theorem upd_at (e : Nat → V) (d : Nat) (v : V) (t : Nat) : upd e d v t = if t = d then v else e t := rfl
theorem arg0_at (args : List V) (i : Nat) : arg0 args i = args.getD i undefV := rfl
theorem cells_agg (cs : List V) : V.cells (.agg cs) = cs := rfl
theorem cells_c (x : Value) : V.cells (.c x) = [.c x] := rfl
theorem cells_sl (us : List V) (i : SI) : V.cells (.sl us i) = [.sl us i] := rfl
theorem cells_ref (i o : Nat) : V.cells (.ref i o) = [.ref i o] := rfl
theorem cells_clo (f : Nat) (cs : List V) : V.cells (.clo f cs) = [.clo f cs] := rfl
theorem cells_ptr (cs : List V) (o : Nat) : V.cells (.ptr cs o) = [.ptr cs o] := rfl
theorem cells_row (i o n : Nat) (z : Option Nat) : V.cells (.row i o n z) = [.row i o n z] := rfl
theorem rd_none (a : V) (cs : List V) (o : Nat) : rdV (a :: cs) o none = (a :: cs)[o]? := rfl
theorem rd_some (a : V) (cs : List V) (o n : Nat) : rdV (a :: cs) o (some n) = if o + n ≤ (a :: cs).length then some (.agg (((a :: cs).drop o).take n)) else none := rfl
theorem okc_agg (cs : List V) : okc (.agg cs) = true := rfl
theorem okc_sl (us : List V) (i : SI) : okc (.sl us i) = true := rfl
theorem okc_ref (i o : Nat) : okc (.ref i o) = true := rfl
theorem okc_ptr (cs : List V) (o : Nat) : okc (.ptr cs o) = true := rfl
theorem okc_clo (f : Nat) (cs : List V) : okc (.clo f cs) = true := rfl
theorem okc_row (i o n : Nat) (z : Option Nat) : okc (.row i o n z) = true := rfl
theorem okc_int (k : IntKind) (n : Int) : okc (.c (.int k n)) = true := rfl
theorem okc_bool (b : Bool) : okc (.c (.bool b)) = true := rfl
theorem okc_str (s : ByteArray) : okc (.c (.string s)) = true := rfl
theorem vw1_c (x : Value) : (V.c x).vw1 = .c x := rfl
theorem vw1_sl (us : List V) (i : SI) : (V.sl us i).vw1 = .sl us .any := rfl
theorem vw1_agg (cs : List V) : (V.agg cs).vw1 = .agg cs := rfl
theorem vw1_row (i o n : Nat) (z : Option Nat) : (V.row i o n z).vw1 = .row i o n z := rfl
theorem vw2_c (x : Value) : (V.c x).vw2 = .c x := rfl
theorem vw2_sl (us : List V) (i : SI) : (V.sl us i).vw2 = .sl us .any := rfl
theorem vw2_agg (cs : List V) : (V.agg cs).vw2 = .agg (cs.map V.vw1) := rfl
theorem vw2_ref (i o : Nat) : (V.ref i o).vw2 = .ref i o := rfl
theorem vw2_clo (f : Nat) (cs : List V) : (V.clo f cs).vw2 = .clo f cs := rfl
theorem vw2_row (i o n : Nat) (z : Option Nat) : (V.row i o n z).vw2 = .row i o n z := rfl
theorem vw_c (x : Value) : (V.c x).vw = .c x := rfl
theorem vw_sl (us : List V) (i : SI) : (V.sl us i).vw = .sl us .any := rfl
theorem vw_agg (cs : List V) : (V.agg cs).vw = .agg (cs.map V.vw1) := rfl
theorem vw_tup (vs : List V) : (V.tup vs).vw = .tup (vs.map V.vw2) := rfl
theorem res_one (v : V) : resOf [v] = v := rfl
theorem res_two (a b : V) (l : List V) : resOf (a :: b :: l) = .tup (a :: b :: l) := rfl
theorem low_c (m : Nat) (x : Value) : V.low m (.c x) = true := by simp [V.low]
theorem callee_f (q : Nat) : callee (.c (.func (.func q) #[] #[])) = some (q, []) := by simp [callee]
theorem callee_clo (q : Nat) (cs : List V) : callee (.clo q cs) = some (q, cs) := rfl

theorem binV_int (op : BinOp) (k : IntKind) (a b : Int) : binV op 0 (.c (.int k a)) (.c (.int k b)) = binI op k a b := by simp [binV]
theorem binV_str (op : BinOp) (a b : ByteArray) : binV op 0 (.c (.string a)) (.c (.string b)) = binS op a b := rfl
theorem binV_beq (a b : Bool) : binV .eql 1 (.c (.bool a)) (.c (.bool b)) = some (.c (.bool (a == b))) := rfl
theorem binV_bne (a b : Bool) : binV .neq 1 (.c (.bool a)) (.c (.bool b)) = some (.c (.bool !(a == b))) := rfl
theorem int_beq0 (n : Nat) : ((n : Int) == 0) = (n == 0) := by
  cases n <;> rfl
def empB (t : ByteArray) : Bool := t.toList == ByteArray.toList ⟨#[]⟩
theorem binS_emp (t : ByteArray) : binS .eql t ⟨#[]⟩ = some (.c (.bool (empB t))) := rfl
theorem ev_val (e : Nat → V) (tm : List V) (x : A) : ev tm (x.sub e) = x.val e := by cases x <;> rfl
theorem ev_vals (e : Nat → V) (tm : List V) (xs : List A) : (xs.map (A.sub e)).map (ev tm) = xs.map (A.val e) := by
  rw [List.map_map]
  exact List.map_congr_left fun x _ => ev_val e tm x
def fillE (e : Nat → V) : List V → List (Nat × Nat × A) → Option (List V)
  | z, [] => some z
  | z, (o, n, x) :: r => if okc (x.val e).vwf = true ∧ (x.val e).vwf.cells.length = n ∧ o + n ≤ z.length then fillE e (splice z o (x.val e).vwf.cells) r else none
theorem fill_val (e : Nat → V) (tm : List V) : ∀ (ps : List (Nat × Nat × A)) (z : List V), fillV z tm (ps.map fun p => (p.1, p.2.1, p.2.2.sub e)) = fillE e z ps
  | [], z => rfl
  | (o, n, x) :: r, z => by
    simp only [List.map_cons, fillV, ev_val, fillE]
    split
    · exact fill_val e tm r _
    · rfl
def optE (e : Nat → V) (d : Int) : Option A → Option Int
  | none => some d
  | some x => idx (x.val e)
theorem optE_val (e : Nat → V) (tm : List V) (d : Int) (x : Option A) : optIdx tm d (x.map (A.sub e)) = optE e d x := by
  cases x with
  | none => rfl
  | some x => simp only [Option.map_some, optIdx, optE, ev_val]
/-- Operations by what their operands are; each has a law for each constructor. -/
abbrev R2 := Option (V × List O)
def pickF : V → V → V → List O → R2
  | .c (.bool t), a, b, h => some (if t = true then a else b, h)
  | _, _, _, _ => none
theorem pickF_b (t : Bool) (a b : V) (h : List O) : pickF (.c (.bool t)) a b h = some (if t = true then a else b, h) := rfl
def boxF : Option O → Bool → V × List O → R2
  | some .dead, true, r => some r
  | _, _, _ => none
theorem boxF_dead (r : V × List O) : boxF (some .dead) true r = some r := rfl
def loadO : Option O → Nat → Option Nat → List O → R2
  | some (.cells cs), o, n, h => (rdV cs o n).map fun v => (v, h)
  | _, _, _, _ => none
theorem loadO_cells (cs : List V) (o : Nat) (n : Option Nat) (h : List O) : loadO (some (.cells cs)) o n h = (rdV cs o n).map fun v => (v, h) := rfl
def loadF : V → Option Nat → List O → R2
  | .ref id o, n, h => loadO h[id]? o n h
  | .ptr cs o, n, h => (rdV cs o n).map fun v => (v, h)
  | _, _, _ => none
theorem loadF_ref (id o : Nat) (n : Option Nat) (h : List O) : loadF (.ref id o) n h = loadO h[id]? o n h := rfl
theorem loadF_ptr (cs : List V) (o : Nat) (n : Option Nat) (h : List O) : loadF (.ptr cs o) n h = (rdV cs o n).map fun v => (v, h) := rfl
def storeO : Option O → Nat → Nat → Nat → V → List O → R2
  | some (.cells cs), id, o, n, v, h => if okc v = true ∧ v.cells.length = n ∧ o + n ≤ cs.length then some (undefV, h.set id (.cells (splice cs o v.cells))) else none
  | _, _, _, _, _, _ => none
theorem storeO_cells (cs : List V) (id o n : Nat) (v : V) (h : List O) : storeO (some (.cells cs)) id o n v h = if okc v = true ∧ v.cells.length = n ∧ o + n ≤ cs.length then some (undefV, h.set id (.cells (splice cs o v.cells))) else none := rfl
def storeT : Option O → Nat → Nat → Nat → Nat → V → List O → R2
  | some (.tokc m' z cs), k, m, o, n, v, h => if m' = m ∧ okc v = true ∧ v.cells.length = n ∧ o + n ≤ cs.length then some (undefV, h.set k (.tokc m z (splice cs o v.cells))) else none
  | _, _, _, _, _, _, _ => none
theorem storeT_tokc (m' z : Nat) (cs : List V) (k m o n : Nat) (v : V) (h : List O) : storeT (some (.tokc m' z cs)) k m o n v h = if m' = m ∧ okc v = true ∧ v.cells.length = n ∧ o + n ≤ cs.length then some (undefV, h.set k (.tokc m z (splice cs o v.cells))) else none := rfl
def storeF : V → Nat → V → List O → R2
  | .ref id o, n, v, h => storeO h[id]? id o n v h
  | .tref k m o, n, v, h => storeT h[k]? k m o n v h
  | _, _, _, _ => none
theorem storeF_tref (k m o n : Nat) (v : V) (h : List O) : storeF (.tref k m o) n v h = storeT h[k]? k m o n v h := rfl
theorem storeF_ref (id o n : Nat) (v : V) (h : List O) : storeF (.ref id o) n v h = storeO h[id]? id o n v h := rfl
def notF : V → List O → R2
  | .c (.bool b), h => some (.c (.bool !b), h)
  | _, _ => none
theorem notF_b (b : Bool) (h : List O) : notF (.c (.bool b)) h = some (.c (.bool !b), h) := rfl
def negF : V → List O → R2
  | .c (.int k n), h => some (.c (.int k (k.wrap (0 - n))), h)
  | _, _ => none
theorem negF_i (k : IntKind) (n : Int) (h : List O) : negF (.c (.int k n)) h = some (.c (.int k (k.wrap (0 - n))), h) := rfl
def faF : Nat → V → List O → R2
  | o, .ref id p, h => some (.ref id (p + o), h)
  | o, .ptr cs p, h => some (.ptr cs (p + o), h)
  | _, _, _ => none
theorem faF_ref (o id p : Nat) (h : List O) : faF o (.ref id p) h = some (.ref id (p + o), h) := rfl
theorem faF_ptr (o : Nat) (cs : List V) (p : Nat) (h : List O) : faF o (.ptr cs p) h = some (.ptr cs (p + o), h) := rfl
def fieldF : Nat → Option Nat → V → List O → R2
  | o, n, .agg cs, h => (rdV cs o n).map fun v => (v, h)
  | _, _, _, _ => none
theorem fieldF_agg (o : Nat) (n : Option Nat) (cs : List V) (h : List O) : fieldF o n (.agg cs) h = (rdV cs o n).map fun v => (v, h) := rfl
def elF : Nat → Option V → List O → R2
  | z, some u, h => if u.cells.length = z then some (.ptr u.cells 0, h) else none
  | _, none, _ => none
theorem elF_some (z : Nat) (u : V) (h : List O) : elF z (some u) h = if u.cells.length = z then some (.ptr u.cells 0, h) else none := rfl
def iaF : Nat → V → Option Int → List O → R2
  | z, .sl us _, some n, h => if 0 ≤ n ∧ n < us.length then elF z us[n.toNat]? h else none
  | z, .row id off n zz, some k, h => if 0 ≤ k ∧ k < n ∧ zc zz = z then some (.ref id (off + k.toNat * z), h) else none
  | z, .tsl t n zz, some k, h => if 0 ≤ k ∧ k < n ∧ zc zz = z then some (.tref t n (k.toNat * z), h) else none
  | _, _, _, _ => none
theorem iaF_sl (z : Nat) (us : List V) (i : SI) (n : Int) (h : List O) : iaF z (.sl us i) (some n) h = if 0 ≤ n ∧ n < us.length then elF z us[n.toNat]? h else none := rfl
theorem iaF_tsl (z t n : Nat) (zz : Option Nat) (k : Int) (h : List O) : iaF z (.tsl t n zz) (some k) h = if 0 ≤ k ∧ k < n ∧ zc zz = z then some (.tref t n (k.toNat * z), h) else none := rfl
theorem iaF_row (z id off n : Nat) (zz : Option Nat) (k : Int) (h : List O) : iaF z (.row id off n zz) (some k) h = if 0 ≤ k ∧ k < n ∧ zc zz = z then some (.ref id (off + k.toNat * z), h) else none := rfl
def ixF : V → Option Int → List O → R2
  | .c (.string t), some n, h => if 0 ≤ n then (t[n.toNat]?).map fun b => (.c (.int .u8 b.toNat), h) else none
  | _, _, _ => none
theorem ixF_s (t : ByteArray) (n : Int) (h : List O) : ixF (.c (.string t)) (some n) h = if 0 ≤ n then (t[n.toNat]?).map fun b => (.c (.int .u8 b.toNat), h) else none := rfl
def ssF : V → (ByteArray → Option V) → List O → R2
  | .c (.string t), f, h => (f t).map fun v => (v, h)
  | _, _, _ => none
theorem ssF_s (t : ByteArray) (f : ByteArray → Option V) (h : List O) : ssF (.c (.string t)) f h = (f t).map fun v => (v, h) := rfl
def cutS : ByteArray → Option Int → Option Int → Option V
  | s, some l, some h => if 0 ≤ l ∧ l ≤ h ∧ h ≤ s.size then some (.c (.string (s.extract l.toNat h.toNat))) else none
  | _, _, _ => none
theorem cutS_s (s : ByteArray) (l h : Int) : cutS s (some l) (some h) = if 0 ≤ l ∧ l ≤ h ∧ h ≤ s.size then some (.c (.string (s.extract l.toNat h.toNat))) else none := rfl
def cutL : List V → Nat → Option Int → Option Int → Option V
  | us, z, some l, some h => if 0 ≤ l ∧ l ≤ h ∧ h ≤ us.length ∧ hz z us = true then some (.sl ((us.take h.toNat).drop l.toNat) .any) else none
  | _, _, _, _ => none
theorem cutL_s (us : List V) (z : Nat) (l h : Int) : cutL us z (some l) (some h) = if 0 ≤ l ∧ l ≤ h ∧ h ≤ us.length ∧ hz z us = true then some (.sl ((us.take h.toNat).drop l.toNat) .any) else none := rfl
def cutR : Nat → Nat → Nat → Option Nat → Nat → Option Int → Option Int → Option V
  | id, off, n, zz, z, some l, some h => if zc zz = z then if 0 ≤ l ∧ l ≤ h ∧ h ≤ n then some (.row id (off + l.toNat * z) (h.toNat - l.toNat) zz) else none else none
  | _, _, _, _, _, _, _ => none
theorem cutR_s (id off n : Nat) (zz : Option Nat) (z : Nat) (l h : Int) : cutR id off n zz z (some l) (some h) = if zc zz = z then if 0 ≤ l ∧ l ≤ h ∧ h ≤ n then some (.row id (off + l.toNat * z) (h.toNat - l.toNat) zz) else none else none := rfl
def slF : V → Nat → (Int → Option Int) → Option Int → List O → R2
  | .sl us _, z, hi, lo, h => (cutL us z lo (hi us.length)).map fun v => (v, h)
  | .row id off n zz, z, hi, lo, h => (cutR id off n zz z lo (hi n)).map fun v => (v, h)
  | _, _, _, _, _ => none
theorem slF_sl (us : List V) (i : SI) (z : Nat) (hi : Int → Option Int) (lo : Option Int) (h : List O) : slF (.sl us i) z hi lo h = (cutL us z lo (hi us.length)).map fun v => (v, h) := rfl
theorem slF_row (id off n : Nat) (zz : Option Nat) (z : Nat) (hi : Int → Option Int) (lo : Option Int) (h : List O) : slF (.row id off n zz) z hi lo h = (cutR id off n zz z lo (hi n)).map fun v => (v, h) := rfl
def extF : V → Nat → List O → R2
  | .tup vs, i, h => (vs[i]?).map fun v => (v, h)
  | _, _, _ => none
theorem extF_t (vs : List V) (i : Nat) (h : List O) : extF (.tup vs) i h = (vs[i]?).map fun v => (v, h) := rfl
def lenF : V → List O → R2
  | .sl us _, h => some (.c (.int .i64 us.length), h)
  | .row _ _ n _, h => some (.c (.int .i64 n), h)
  | .tsl _ n _, h => some (.c (.int .i64 n), h)
  | _, _ => none
theorem lenF_tsl (k n : Nat) (z : Option Nat) (h : List O) : lenF (.tsl k n z) h = some (.c (.int .i64 n), h) := rfl
theorem lenF_sl (us : List V) (i : SI) (h : List O) : lenF (.sl us i) h = some (.c (.int .i64 us.length), h) := rfl
theorem lenF_row (id off n : Nat) (zz : Option Nat) (h : List O) : lenF (.row id off n zz) h = some (.c (.int .i64 n), h) := rfl
def lenS : V → List O → R2
  | .c (.string t), h => some (.c (.int .i64 t.size), h)
  | _, _ => none
theorem lenS_s (t : ByteArray) (h : List O) : lenS (.c (.string t)) h = some (.c (.int .i64 t.size), h) := rfl
def grow (sb al b : Nat) (z : Option Nat) (rw : Bool) (h : List O) (us : List V) : SI → List V → R2
  | i, [] => some (.sl us i, h)
  | .nil, ws => match h[al]? with
    | some .dead => if rw then (match us with
        | [] => some (.row al 0 (us.length + ws.length) z, h.set al (.cells (flats (us ++ ws))))
        | _ :: _ => some (.tsl al (us.length + ws.length) z, h.set al (.tokc (us.length + ws.length) (zc z) (flats (us ++ ws))))) else some (.sl (us ++ ws) (.tok al), h.set al (.tok (us.length + ws.length) (zc z)))
    | some .want => if rw then none else some (.sl (us ++ ws) (.tok (freeSlot h sb al)), h.set (freeSlot h sb al) (.tok (us.length + ws.length) (zc z)))
    | _ => none
  | .full, ws => match h[al]? with
    | some .dead => if rw then (match us with
        | [] => some (.row al 0 (us.length + ws.length) z, h.set al (.cells (flats (us ++ ws))))
        | _ :: _ => some (.tsl al (us.length + ws.length) z, h.set al (.tokc (us.length + ws.length) (zc z) (flats (us ++ ws))))) else some (.sl (us ++ ws) (.tok al), h.set al (.tok (us.length + ws.length) (zc z)))
    | some .want => if rw then none else some (.sl (us ++ ws) (.tok (freeSlot h sb al)), h.set (freeSlot h sb al) (.tok (us.length + ws.length) (zc z)))
    | _ => none
  | .tok k, ws => match h[k]? with
    | some (.tok n z') => if n = us.length ∧ z' = zc z then some (.sl (us ++ ws) (.tok k), h.set k (.tok (us.length + ws.length) (zc z))) else none
    | _ => none
  | _, _ => none
def growT (k n : Nat) (z : Option Nat) (h : List O) : List V → R2
  | [] => some (.tsl k n z, h)
  | ws => match h[k]? with
    | some (.tokc m zz cs) => if m = n ∧ zz = zc z then some (.tsl k (n + ws.length) z, h.set k (.tokc (n + ws.length) (zc z) (cs ++ flats ws))) else none
    | _ => none
def appF (sb al b : Nat) (z : Option Nat) (rw : Bool) (h : List O) : V → Option (List V) → R2
  | .tsl k n zz, some ws => if rw = true ∧ zz = z ∧ (n + ws.length) * b ≤ 140737488355328 ∧ n + ws.length ≤ 140737488355328 ∧ hz (zc z) ws = true then growT k n z h ws else none
  | .sl us i, some ws => if (us.length + ws.length) * b ≤ 140737488355328 ∧ us.length + ws.length ≤ 140737488355328 ∧ hz (zc z) us = true ∧ hz (zc z) ws = true then grow sb al b z rw h us i ws else none
  | _, _ => none
theorem appF_sl (sb al b : Nat) (z : Option Nat) (rw : Bool) (h : List O) (us ws : List V) (i : SI) : appF sb al b z rw h (.sl us i) (some ws) = if (us.length + ws.length) * b ≤ 140737488355328 ∧ us.length + ws.length ≤ 140737488355328 ∧ hz (zc z) us = true ∧ hz (zc z) ws = true then grow sb al b z rw h us i ws else none := rfl
theorem appF_tsl (sb al b : Nat) (z : Option Nat) (rw : Bool) (h : List O) (k n : Nat) (zz : Option Nat) (ws : List V) : appF sb al b z rw h (.tsl k n zz) (some ws) = if rw = true ∧ zz = z ∧ (n + ws.length) * b ≤ 140737488355328 ∧ n + ws.length ≤ 140737488355328 ∧ hz (zc z) ws = true then growT k n z h ws else none := rfl
theorem growT_cons (k n : Nat) (z : Option Nat) (h : List O) (w : V) (ws : List V) (cs : List V) (hk : h[k]? = some (.tokc n (zc z) cs)) : growT k n z h (w :: ws) = some (.tsl k (n + (w :: ws).length) z, h.set k (.tokc (n + (w :: ws).length) (zc z) (cs ++ flats (w :: ws)))) := by simp [growT, hk]
theorem grow_tnew (sb al b : Nat) (z : Option Nat) (h : List O) (u : V) (us ws : List V) (w : V) (hd : h[al]? = some .dead) : grow sb al b z true h (u :: us) .full (w :: ws) = some (.tsl al ((u :: us).length + (w :: ws).length) z, h.set al (.tokc ((u :: us).length + (w :: ws).length) (zc z) (flats (u :: us ++ w :: ws)))) := by simp [grow, hd]
theorem grow_none (sb al b : Nat) (z : Option Nat) (rw : Bool) (h : List O) (us : List V) (i : SI) : grow sb al b z rw h us i [] = some (.sl us i, h) := by cases i <;> rfl
theorem grow_nil (sb al b : Nat) (z : Option Nat) (h : List O) (us ws : List V) (w : V) (hd : h[al]? = some .dead) : grow sb al b z false h us .nil (w :: ws) = some (.sl (us ++ w :: ws) (.tok al), h.set al (.tok (us.length + (w :: ws).length) (zc z))) := by simp [grow, hd]
theorem grow_full (sb al b : Nat) (z : Option Nat) (h : List O) (us ws : List V) (w : V) (hd : h[al]? = some .dead) : grow sb al b z false h us .full (w :: ws) = some (.sl (us ++ w :: ws) (.tok al), h.set al (.tok (us.length + (w :: ws).length) (zc z))) := by simp [grow, hd]
theorem grow_rnil (sb al b : Nat) (z : Option Nat) (h : List O) (ws : List V) (w : V) (hd : h[al]? = some .dead) : grow sb al b z true h [] .nil (w :: ws) = some (.row al 0 (w :: ws).length z, h.set al (.cells (flats (w :: ws)))) := by simp [grow, hd]
theorem grow_nilW (sb al b : Nat) (z : Option Nat) (h : List O) (us ws : List V) (w : V) (hd : h[al]? = some .want) : grow sb al b z false h us .nil (w :: ws) = some (.sl (us ++ w :: ws) (.tok (freeSlot h sb al)), h.set (freeSlot h sb al) (.tok (us.length + (w :: ws).length) (zc z))) := by simp [grow, hd]
theorem grow_fullW (sb al b : Nat) (z : Option Nat) (h : List O) (us ws : List V) (w : V) (hd : h[al]? = some .want) : grow sb al b z false h us .full (w :: ws) = some (.sl (us ++ w :: ws) (.tok (freeSlot h sb al)), h.set (freeSlot h sb al) (.tok (us.length + (w :: ws).length) (zc z))) := by simp [grow, hd]
theorem grow_tok (sb al b k : Nat) (z : Option Nat) (rw : Bool) (h : List O) (us ws : List V) (w : V) (hk : h[k]? = some (.tok us.length (zc z))) : grow sb al b z rw h us (.tok k) (w :: ws) = some (.sl (us ++ w :: ws) (.tok k), h.set k (.tok (us.length + (w :: ws).length) (zc z))) := by simp [grow, hk]
def convF : IntKind → V → List O → R2
  | k, .c (.int _ n), h => some (.c (.int k (k.wrap n)), h)
  | _, _, _ => none
theorem convF_i (k k' : IntKind) (n : Int) (h : List O) : convF k (.c (.int k' n)) h = some (.c (.int k (k.wrap n)), h) := rfl
def calR : R2 → Nat → R2
  | some (r, h'), m => if m ≤ h'.length then some (r, h') else none
  | none, _ => none
theorem calR_s (r : V) (h' : List O) (m : Nat) : calR (some (r, h')) m = if m ≤ h'.length then some (r, h') else none := rfl
theorem longer_calR (h : List O) (o : R2) : longer h o = calR o h.length := by
  cases o with
  | none => rfl
  | some r => rfl
theorem calV_f (cf : CallF) (q : Nat) (args : List V) (h : List O) : callV cf (.c (.func (.func q) #[] #[])) args h = if q < rid then calR (cf q args h) h.length else none := by
  rw [callV_fn (f := q) (caps := []) (by simp [callee]), List.append_nil, longer_calR]
theorem calV_clo (cf : CallF) (q : Nat) (caps args : List V) (h : List O) : callV cf (.clo q caps) args h = if q < rid then calR (cf q (args ++ caps) h) h.length else none := by
  rw [callV_fn (f := q) (caps := caps) rfl, longer_calR]
theorem calV_of {cf : CallF} {v : V} {q : Nat} {caps args : List V} {h : List O} (hc : callee v = some (q, caps)) (hq : q < rid) : callV cf v args h = calR (cf q (args ++ caps) h) h.length := by
  rw [callV_f hc hq, longer_calR]
theorem calV_yld (cf : CallF) (k y m : Nat) (caps args : List V) (h : List O) : callV cf (.yld k y m caps) args h = if rid ≤ y ∧ args.length = m then calR (cf y (.c (.int .i64 k) :: (args ++ caps)) h) h.length else none := by
  simp only [callV, longer_calR]
@[simp] theorem rid_eq : rid = 1000000 := rfl
def mmkF : Option O → V × List O → R2
  | some .dead, r => some r
  | _, _ => none
theorem mmkF_dead (r : V × List O) : mmkF (some .dead) r = some r := rfl
def lookO : Option O → ByteArray → V → Bool → List O → R2
  | some (.mapo ks vs), t, z, ok, h => (mlook ks vs t).map fun r => (mres z ok r, h)
  | _, _, _, _, _ => none
theorem lookO_m (ks : List Value) (vs : List V) (t : ByteArray) (z : V) (ok : Bool) (h : List O) : lookO (some (.mapo ks vs)) t z ok h = (mlook ks vs t).map fun r => (mres z ok r, h) := rfl
def lookF : V → V → V → Bool → List O → R2
  | .fmp ks vs, .c (.string t), z, ok, h => (mlook ks vs t).map fun r => (mres z ok r, h)
  | .mref id, .c (.string t), z, ok, h => lookO h[id]? t z ok h
  | _, _, _, _, _ => none
theorem lookF_fmp (ks : List Value) (vs : List V) (t : ByteArray) (z : V) (ok : Bool) (h : List O) : lookF (.fmp ks vs) (.c (.string t)) z ok h = (mlook ks vs t).map fun r => (mres z ok r, h) := rfl
theorem lookF_mref (id : Nat) (t : ByteArray) (z : V) (ok : Bool) (h : List O) : lookF (.mref id) (.c (.string t)) z ok h = lookO h[id]? t z ok h := rfl
def updM : Option O → Nat → ByteArray → V → List O → R2
  | some (.mapo ks vs), id, t, v, h => (mput ks vs t v).map fun r => (undefV, h.set id (.mapo r.1 r.2))
  | _, _, _, _, _ => none
theorem updM_m (ks : List Value) (vs : List V) (id : Nat) (t : ByteArray) (v : V) (h : List O) : updM (some (.mapo ks vs)) id t v h = (mput ks vs t v).map fun r => (undefV, h.set id (.mapo r.1 r.2)) := rfl
def updF : V → V → V → List O → R2
  | .mref id, .c (.string t), v, h => updM h[id]? id t v h
  | _, _, _, _ => none
theorem updF_m (id : Nat) (t : ByteArray) (v : V) (h : List O) : updF (.mref id) (.c (.string t)) v h = updM h[id]? id t v h := rfl
def nckF : V → List O → R2
  | .ref id o, h => some (.ref id o, h)
  | .ptr cs o, h => some (.ptr cs o, h)
  | .clo f caps, h => some (.clo f caps, h)
  | .c (.func (.func f) a b), h => some (.c (.func (.func f) a b), h)
  | _, _ => none
theorem nckF_ref (id o : Nat) (h : List O) : nckF (.ref id o) h = some (.ref id o, h) := rfl
theorem nckF_ptr (cs : List V) (o : Nat) (h : List O) : nckF (.ptr cs o) h = some (.ptr cs o, h) := rfl
theorem nckF_clo (f : Nat) (cs : List V) (h : List O) : nckF (.clo f cs) h = some (.clo f cs, h) := rfl
theorem nckF_fn (f : Nat) (a b : Array Value) (h : List O) : nckF (.c (.func (.func f) a b)) h = some (.c (.func (.func f) a b), h) := rfl
theorem idx_int (k : IntKind) (n : Int) : idx (.c (.int k n)) = some n := rfl
theorem mmS_int (m : Bool) (k k' : IntKind) (a b : Int) : mmStep m (some (.c (.int k a))) (.c (.int k' b)) = some (.c (.int k (if m then (if b > a then b else a) else (if b < a then b else a)))) := rfl
theorem mmV_one (m : Bool) (v : V) : mmV m [v] = some v := rfl
theorem mmV_two (m : Bool) (v w : V) : mmV m [v, w] = mmStep m (some v) w := rfl
theorem srcV_sl (h : List O) (us : List V) (i : SI) : srcV h (.sl us i) = some us := rfl
theorem hz_nil (z : Nat) : hz z [] = true := rfl
theorem hz_cons (z : Nat) (u : V) (us : List V) : hz z (u :: us) = (u.cells.length == z) := rfl
theorem zc_some (k : Nat) : zc (some k) = k := rfl
theorem zc_none : zc none = 1 := rfl

section
variable {cf : CallF} {s : SF}
theorem actF_mv (x : A) : actF cf s (.mv x) = some (x.val s.e, s.h) := by simp only [actF, XOp.sub, act, pureV, ev_val, Option.map_some]
theorem actF_pick (c a b : A) : actF cf s (.pick c a b) = pickF (c.val s.e) (a.val s.e) (b.val s.e) s.h := by
  simp only [actF, XOp.sub, act, pureV, ev_val]
  cases c.val s.e with
  | c y => cases y <;> rfl
  | _ => rfl
theorem actF_alloc (al : Nat) (z : List V) : actF cf s (.alloc al z) = some (.ref (s.rb + al) 0, s.h) := rfl
theorem actF_box (al : Nat) (x : A) : actF cf s (.box al x) = boxF s.h[s.rb + al]? (okc (x.val s.e)) (.ref (s.rb + al) 0, s.h.set (s.rb + al) (.cells (x.val s.e).cells)) := by
  simp only [actF, XOp.sub, act, ev_val]
  cases s.h[s.rb + al]? with
  | none => cases okc (x.val s.e) <;> rfl
  | some o => cases o <;> cases okc (x.val s.e) <;> rfl
theorem actF_build (z : List V) (ps : List (Nat × Nat × A)) : actF cf s (.build z ps) = (fillE s.e z ps).map fun cs => (.agg cs, s.h) := by
  simp only [actF, XOp.sub, act, pureV, fill_val, Option.map_map]
  rfl
theorem actF_bslice (al z : Nat) (ps : List A) : actF cf s (.bslice al z ps) = if (ps.map fun x => (x.val s.e).vw2).all (fun u => okc u && u.cells.length == z) = true then some (.sl (ps.map fun x => (x.val s.e).vw2) .full, s.h) else none := by
  simp only [actF, XOp.sub, act, pureV, List.map_map, Function.comp_def, ev_val]
  split <;> rfl
theorem actF_load (n : Option Nat) (x : A) : actF cf s (.load n x) = loadF (x.val s.e) n s.h := by
  simp only [actF, XOp.sub, act, ev_val]
  cases x.val s.e with
  | ref id o =>
    simp only [loadF_ref]
    cases s.h[id]? with
    | none => rfl
    | some o => cases o <;> rfl
  | _ => rfl
theorem actF_store (n : Nat) (a x : A) : actF cf s (.store n a x) = storeF (a.val s.e) n (x.val s.e) s.h := by
  simp only [actF, XOp.sub, act, ev_val]
  cases a.val s.e with
  | ref id o =>
    simp only [storeF_ref]
    cases s.h[id]? with
    | none => rfl
    | some o => cases o <;> rfl
  | tref k m o =>
    simp only [storeF_tref]
    cases s.h[k]? with
    | none => rfl
    | some o => cases o <;> rfl
  | _ => rfl
theorem actF_bin (op : BinOp) (q : Nat) (x y : A) : actF cf s (.bin op q x y) = (binV op q (x.val s.e) (y.val s.e)).map fun v => (v, s.h) := by
  simp only [actF, XOp.sub, act, pureV, ev_val]
theorem actF_not (x : A) : actF cf s (.un .not x) = notF (x.val s.e) s.h := by
  simp only [actF, XOp.sub, act, pureV, ev_val]
  cases x.val s.e with
  | c y => cases y <;> rfl
  | _ => rfl
theorem actF_neg (x : A) : actF cf s (.un .neg x) = negF (x.val s.e) s.h := by
  simp only [actF, XOp.sub, act, pureV, ev_val]
  cases x.val s.e with
  | c y => cases y <;> rfl
  | _ => rfl
theorem actF_fieldAddr (o : Nat) (x : A) : actF cf s (.fieldAddr o x) = faF o (x.val s.e) s.h := by
  simp only [actF, XOp.sub, act, pureV, ev_val]
  cases x.val s.e <;> rfl
theorem actF_field (o : Nat) (n : Option Nat) (x : A) : actF cf s (.field o n x) = fieldF o n (x.val s.e) s.h := by
  simp only [actF, XOp.sub, act, pureV, ev_val]
  cases x.val s.e <;> rfl
theorem actF_indexAddr (z : Nat) (x i : A) : actF cf s (.indexAddr z x i) = iaF z (x.val s.e) (idx (i.val s.e)) s.h := by
  simp only [actF, XOp.sub, act, pureV, ev_val]
  cases x.val s.e <;> cases idx (i.val s.e) <;> try rfl
  · rename_i us _ v
    simp only [iaF_sl]
    split
    · cases us[v.toNat]? with
      | none => rfl
      | some u => by_cases hu : u.cells.length = z <;> simp [hu, elF]
    · rfl
  · simp only [iaF_row]
    split <;> rfl
  · simp only [iaF_tsl]
    split <;> rfl
theorem actF_index (x i : A) : actF cf s (.index x i) = ixF (x.val s.e) (idx (i.val s.e)) s.h := by
  simp only [actF, XOp.sub, act, pureV, ev_val]
  cases x.val s.e with
  | c y =>
    cases y <;> cases idx (i.val s.e) <;> try rfl
    simp only [ixF_s]
    split
    · rw [Option.map_map]; rfl
    · rfl
  | _ => cases idx (i.val s.e) <;> rfl
theorem actF_sliceS (z : Nat) (x : A) (lo hi : Option A) : actF cf s (.slice true z x lo hi none) = ssF (x.val s.e) (fun t => cutS t (optE s.e 0 lo) (optE s.e t.size hi)) s.h := by
  simp only [actF, XOp.sub, act, pureV, ev_val, stV, optE_val, Option.map_none]
  cases x.val s.e with
  | c y =>
    cases y <;> try rfl
    simp only [ssF_s]
    cases optE s.e 0 lo <;> cases optE s.e _ hi <;> rfl
  | _ => rfl
theorem actF_sliceL (z : Nat) (x : A) (lo hi : Option A) : actF cf s (.slice false z x lo hi none) = slF (x.val s.e) z (fun n => optE s.e n hi) (optE s.e 0 lo) s.h := by
  simp only [actF, XOp.sub, act, pureV, ev_val, slV, rowV, optE_val, Option.map_none]
  cases x.val s.e with
  | c y => cases y <;> rfl
  | sl us i =>
    simp only [slF_sl]
    cases optE s.e 0 lo <;> cases optE s.e _ hi <;> rfl
  | row id off n zz =>
    simp only [slF_row]
    cases optE s.e 0 lo <;> cases optE s.e _ hi <;> simp only [cutR] <;> split <;> rfl
  | _ => rfl
theorem actF_extract (x : A) (i : Nat) : actF cf s (.extract x i) = extF (x.val s.e) i s.h := by
  simp only [actF, XOp.sub, act, pureV, ev_val]
  cases x.val s.e <;> rfl
theorem actF_len (x : A) : actF cf s (.len false x) = lenF (x.val s.e) s.h := by
  simp only [actF, XOp.sub, act, pureV, ev_val]
  cases x.val s.e <;> rfl
theorem actF_lenS (x : A) : actF cf s (.len true x) = lenS (x.val s.e) s.h := by
  simp only [actF, XOp.sub, act, pureV, ev_val]
  cases x.val s.e with
  | c y => cases y <;> rfl
  | _ => rfl
theorem actF_append (al b : Nat) (z : Option Nat) (rw : Bool) (x y : A) : actF cf s (.append al z b rw x y) = appF s.base (s.rb + al) b z rw s.h (x.val s.e) (srcV s.h (y.val s.e)) := by
  simp only [actF, XOp.sub, act, ev_val]
  cases x.val s.e with
  | sl us i =>
    cases srcV s.h (y.val s.e) with
    | none => rfl
    | some ws =>
      simp only [appF_sl]
      split
      · cases ws with
        | nil => simp only [grow_none]
        | cons w ws =>
          cases i <;> try rfl
          all_goals simp only [grow]
          all_goals rfl
      · rfl
  | tsl k n zz =>
    cases srcV s.h (y.val s.e) with
    | none => rfl
    | some ws =>
      simp only [appF_tsl]
      split
      · rename_i hc
        obtain ⟨_, rfl, _⟩ := hc
        cases ws <;> rfl
      · rfl
  | _ => cases srcV s.h (y.val s.e) <;> rfl
theorem actF_mm (m : Bool) (ps : List A) : actF cf s (.mm m ps) = (mmV m (ps.map (A.val s.e))).map fun v => (v, s.h) := by
  simp only [actF, XOp.sub, act, pureV, ev_vals]
theorem actF_conv (k : IntKind) (x : A) : actF cf s (.conv k x) = convF k (x.val s.e) s.h := by
  simp only [actF, XOp.sub, act, pureV, ev_val]
  cases x.val s.e with
  | c y => cases y <;> rfl
  | _ => rfl
theorem actF_call (f : A) (ps : List A) : actF cf s (.call f ps) = callV cf (f.val s.e) (ps.map (A.val s.e)) s.h := by
  simp only [actF, XOp.sub, act, ev_val, ev_vals]
theorem actF_makeMap (al : Nat) : actF cf s (.makeMap al) = mmkF s.h[s.rb + al]? (.mref (s.rb + al), s.h.set (s.rb + al) (.mapo [] [])) := by
  simp only [actF, XOp.sub, act]
  cases s.h[s.rb + al]? with
  | none => rfl
  | some o => cases o <;> rfl
theorem actF_lookup (z : V) (ok : Bool) (x k : A) : actF cf s (.lookup z ok x k) = lookF (x.val s.e) (k.val s.e) z ok s.h := by
  simp only [actF, XOp.sub, act, ev_val]
  cases x.val s.e with
  | fmp ks vs =>
    cases k.val s.e with
    | c y => cases y <;> rfl
    | _ => rfl
  | mref id =>
    cases k.val s.e with
    | c y =>
      cases y <;> try rfl
      simp only [lookF_mref]
      cases s.h[id]? with
      | none => rfl
      | some o => cases o <;> rfl
    | _ => rfl
  | _ => rfl
theorem actF_mapUpd (m k v : A) : actF cf s (.mapUpd m k v) = updF (m.val s.e) (k.val s.e) (v.val s.e) s.h := by
  simp only [actF, XOp.sub, act, ev_val]
  cases m.val s.e with
  | mref id =>
    cases k.val s.e with
    | c y =>
      cases y <;> try rfl
      simp only [updF_m]
      cases s.h[id]? with
      | none => rfl
      | some o => cases o <;> rfl
    | _ => rfl
  | _ => rfl
theorem actF_clos (f : Nat) (ps : List A) : actF cf s (.clos f ps) = some (.clo f (ps.map (A.val s.e)), s.h) := by
  simp only [actF, XOp.sub, act, pureV, ev_vals, Option.map_some]
theorem actF_nilchk (x : A) : actF cf s (.nilchk x) = nckF (x.val s.e) s.h := by
  simp only [actF, XOp.sub, act, pureV, ev_val]
  cases x.val s.e with
  | c y =>
    cases y with
    | func f a b => cases f <;> rfl
    | _ => rfl
  | _ => rfl
def ownV (b : Nat) : V → Bool
  | .ref id _ => decide (b ≤ id)
  | _ => true
theorem ownV_ref (b id o : Nat) : ownV b (.ref id o) = decide (b ≤ id) := rfl
theorem ownV_ptr (b : Nat) (cs : List V) (o : Nat) : ownV b (.ptr cs o) = true := rfl
def knownV : V → Bool
  | .top => false
  | _ => true
theorem knownV_c (x : Value) : knownV (.c x) = true := rfl
def wantsV : V → Bool → Bool
  | .c (.bool x), b => x == b
  | _, _ => false
theorem wantsV_b (x b : Bool) : wantsV (.c (.bool x)) b = (x == b) := rfl
theorem knownF_none (e : Nat → V) : knownF e none = true := rfl
theorem knownF_some (e : Nat → V) (t : Nat) (b : Bool) : knownF e (some (t, b)) = knownV (e t) := rfl
theorem wantsF_none (e : Nat → V) : wantsF e none = true := rfl
theorem wantsF_some (e : Nat → V) (t : Nat) (b : Bool) : wantsF e (some (t, b)) = wantsV (e t) b := by
  simp only [wantsF]
  cases e t with
  | c y => cases y <;> rfl
  | _ => rfl
def cellR : V → List O → Option Nat → Option V
  | .ref id o, h, n => cellO h[id]? o n
  | _, _, _ => none
where cellO : Option O → Nat → Option Nat → Option V
  | some (.cells cs), o, n => rdV cs o n
  | _, _, _ => none
theorem cellR_ref (id o : Nat) (h : List O) (n : Option Nat) : cellR (.ref id o) h n = cellR.cellO h[id]? o n := rfl
theorem cellO_s (cs : List V) (o : Nat) (n : Option Nat) : cellR.cellO (some (.cells cs)) o n = rdV cs o n := rfl
theorem resF_t (i : Nat) : resF s (.t i) = some (s.e i) := rfl
theorem resF_cell (i : Nat) (n : Option Nat) : resF s (.cell i n) = cellR (s.e i) s.h n := by
  simp only [resF]
  cases s.e i with
  | ref id o =>
    simp only [cellR_ref]
    cases s.h[id]? with
    | none => rfl
    | some x => cases x <;> rfl
  | _ => rfl
def consO : Option V → Option (List V) → Option (List V)
  | some v, some vs => some (v :: vs)
  | _, _ => none
theorem consO_s (v : V) (vs : List V) : consO (some v) (some vs) = some (v :: vs) := rfl
theorem resFs_nil : resFs s [] = some [] := rfl
theorem resFs_cons (r : XR) (rs : List XR) : resFs s (r :: rs) = consO (resF s r) (resFs s rs) := by
  simp only [resFs]
  cases resF s r <;> cases resFs s rs <;> rfl
theorem Fin_n (P : List V → List O → Prop) (xf : XF) (s : SF) : Fin P xf .normal s = bindO (resFs s xf.res) fun vs => P vs s.h := rfl
theorem Fin_r (P : List V → List O → Prop) (xf : XF) (s : SF) : Fin P xf .ret s = bindO (resFs s xf.res) fun vs => P vs s.h := rfl
theorem ownF_load (n : Option Nat) (x : A) : ownF s (.load n x) = ownV s.base (x.val s.e) := by
  simp only [ownF, XOp.sub, ownB, ev_val] <;> rfl
end
/-- What is still to be done, as data: simplification does not run ahead into it. -/
inductive Fr where
  | seq (b : XC)
  | blk (id : Nat)
  | loop (c : XC) (k : Nat)
section
variable (cf : CallF) (n : Nat)
def den : List Fr → (Ex → SF → Prop) → Ex → SF → Prop
  | [], Q => Q
  | .seq b :: K, Q => fun e s => match e with
    | .normal => wpx cf n b s (den K Q)
    | e => den K Q e s
  | .blk id :: K, Q => fun e s => match e with
    | .exit id' => if id' = id then den K Q .normal s else den K Q (.exit id') s
    | e => den K Q e s
  | .loop c k :: K, Q => fun e s => match e with
    | .normal => wpIter (wpx cf n c) k s (den K Q)
    | e => den K Q e s
def wpk (c : XC) (K : List Fr) (Q : Ex → SF → Prop) (s : SF) : Prop := wpx cf n c s (den cf n K Q)
def retk (K : List Fr) (Q : Ex → SF → Prop) (e : Ex) (s : SF) : Prop := den cf n K Q e s
def lpk (c : XC) (K : List Fr) (Q : Ex → SF → Prop) (s : SF) : Prop := wpIter (wpx cf n c) n s (den cf n K Q)
def cndk (v : V) (a b : XC) (K : List Fr) (Q : Ex → SF → Prop) (s : SF) : Prop := condK v (wpk cf n a K Q s) (wpk cf n b K Q s)
def opsk (ops : List XOper) (K : List Fr) (Q : Ex → SF → Prop) (s : SF) : Prop := wpOps cf ops s (den cf n K Q .normal)
def opsw (ops : List XOper) (K : List Fr) (Q : Ex → SF → Prop) (s : SF) : Prop := wpOpsW cf ops s (den cf n K Q .normal)
def giveF (o : XOper) (s : SF) : R2 := if knownF s.e o.g = true then if wantsF s.e o.g = true then actF cf s o.op else some (undefV, s.h) else none
def gvk : R2 → Option Nat → List XOper → List Fr → (Ex → SF → Prop) → SF → Prop
  | some (v, h), d, r, K, Q, s => opsk cf n r K Q ⟨updO s.e d v, h, s.base, s.rb⟩
  | none, _, _, _, _, _ => False
def gvw : R2 → Option Nat → List XOper → List Fr → (Ex → SF → Prop) → SF → Prop
  | some (v, h), d, r, K, Q, s => opsw cf n r K Q ⟨updO s.e d v, h, s.base, s.rb⟩
  | none, _, _, _, _, _ => False
variable {cf n} {K : List Fr} {Q : Ex → SF → Prop} {s : SF}
theorem wpk_seq (a b : XC) : wpk cf n (.seq a b) K Q s = wpk cf n a (.seq b :: K) Q s := rfl
theorem wpk_skip : wpk cf n .skip K Q s = retk cf n K Q .normal s := rfl
theorem wpk_cond (c : A) (a b : XC) : wpk cf n (.cond c a b) K Q s = cndk cf n (c.val s.e) a b K Q s := rfl
theorem cndk_t (a b : XC) : cndk cf n (.c (.bool true)) a b K Q s = wpk cf n a K Q s := rfl
theorem cndk_f (a b : XC) : cndk cf n (.c (.bool false)) a b K Q s = wpk cf n b K Q s := by simp [cndk, condK]
theorem wpk_block (id : Nat) (c : XC) : wpk cf n (.block id c) K Q s = wpk cf n c (.blk id :: K) Q s := rfl
theorem wpk_loop (c : XC) : wpk cf n (.loop c) K Q s = lpk cf n c K Q s := rfl
/-- A loop over a function: what its function does with the rounds. -/
theorem wpk_range (f : A) (y m nt : Nat) (us : List Nat) {g : Nat} {lb : List V} {r : V} {h' : List O} {e : Ex} (hc : callee (f.val s.e) = some (g, lb)) (hg : g < rid) (hy : rid ≤ y)
    (hcf : cf g (.yld s.h.length y m (keepE nt us s.e) :: lb) (s.h ++ [.loop 0]) = some (r, h')) (he : loopEnd h'[s.h.length]? = some e) (hq : retk cf n K Q e ⟨s.e, h'.set s.h.length (.loop 2), s.base, s.rb⟩) : wpk cf n (.rangeF f y m nt us) K Q s := by
  show wpx cf n (.rangeF f y m nt us) s (den cf n K Q)
  unfold wpx
  rw [hc]
  simp only
  rw [if_pos ⟨hg, hy⟩, hcf]
  simp only [bindO_some, he]
  exact hq
theorem wpk_exit (id : Nat) : wpk cf n (.exit id) K Q s = retk cf n K Q (.exit id) s := rfl
theorem wpk_ret : wpk cf n .ret K Q s = retk cf n K Q .ret s := rfl
theorem retk_nil (e : Ex) : retk cf n [] Q e s = Q e s := rfl
theorem retk_seq (b : XC) : retk cf n (.seq b :: K) Q .normal s = wpk cf n b K Q s := rfl
theorem retk_seq_r (b : XC) : retk cf n (.seq b :: K) Q .ret s = retk cf n K Q .ret s := rfl
theorem retk_seq_e (b : XC) (i : Nat) : retk cf n (.seq b :: K) Q (.exit i) s = retk cf n K Q (.exit i) s := rfl
theorem retk_blk (i : Nat) : retk cf n (.blk i :: K) Q .normal s = retk cf n K Q .normal s := rfl
theorem retk_blk_r (i : Nat) : retk cf n (.blk i :: K) Q .ret s = retk cf n K Q .ret s := rfl
theorem retk_blk_e (i : Nat) : retk cf n (.blk i :: K) Q (.exit i) s = retk cf n K Q .normal s := by
  show (if i = i then den cf n K Q .normal s else den cf n K Q (.exit i) s) = _
  rw [if_pos rfl]
  rfl
theorem retk_blk_n (i j : Nat) (h : ¬ j = i) : retk cf n (.blk i :: K) Q (.exit j) s = retk cf n K Q (.exit j) s := by
  show (if j = i then den cf n K Q .normal s else den cf n K Q (.exit j) s) = _
  rw [if_neg h]
  rfl
theorem opsk_nil : opsk cf n [] K Q s = retk cf n K Q .normal s := rfl
theorem opsk_cons (o : XOper) (r : List XOper) : opsk cf n (o :: r) K Q s = gvk cf n (giveF cf o s) o.d r K Q s := by
  simp only [opsk, wpOps, wps, giveF]
  split
  · split
    · cases actF cf s o.op <;> rfl
    · rfl
  · rfl
theorem opsw_nil : opsw cf n [] K Q s = retk cf n K Q .normal s := rfl
theorem opsw_cons (o : XOper) (r : List XOper) : opsw cf n (o :: r) K Q s = (ownF s o.op = true ∧ gvw cf n (giveF (frameCf s.base cf) o s) o.d r K Q s) := by
  simp only [opsw, wpOpsW, wps, giveF]
  congr 1
  split
  · split
    · cases actF (frameCf s.base cf) s o.op <;> rfl
    · rfl
  · rfl
theorem gvk_some (v : V) (h : List O) (d : Option Nat) (r : List XOper) : gvk cf n (some (v, h)) d r K Q s = opsk cf n r K Q ⟨updO s.e d v, h, s.base, s.rb⟩ := rfl
theorem gvw_some (v : V) (h : List O) (d : Option Nat) (r : List XOper) : gvw cf n (some (v, h)) d r K Q s = opsw cf n r K Q ⟨updO s.e d v, h, s.base, s.rb⟩ := rfl
theorem gvk_ite (c : Prop) [Decidable c] (a : R2) (d : Option Nat) (r : List XOper) : gvk cf n (if c then a else none) d r K Q s = (c ∧ gvk cf n a d r K Q s) := by
  by_cases h : c <;> simp [h, gvk]
theorem gvw_ite (c : Prop) [Decidable c] (a : R2) (d : Option Nat) (r : List XOper) : gvw cf n (if c then a else none) d r K Q s = (c ∧ gvw cf n a d r K Q s) := by
  by_cases h : c <;> simp [h, gvw]
theorem giveF_n (o : XOper) (h : o.g = none) : giveF cf o s = actF cf s o.op := by simp [giveF, h, knownF, wantsF]
theorem give_n (d : Option Nat) (op : XOp) : giveF cf ⟨d, op, none⟩ s = actF cf s op := by simp [giveF, knownF, wantsF]
def guardF (cf : CallF) (v : V) (b : Bool) (op : XOp) (s : SF) : R2 := if knownV v = true then if wantsV v b = true then actF cf s op else some (undefV, s.h) else none
theorem give_g (d : Option Nat) (op : XOp) (t : Nat) (b : Bool) : giveF cf ⟨d, op, some (t, b)⟩ s = guardF cf (s.e t) b op s := by
  simp only [giveF, guardF, knownF_some, wantsF_some]
theorem guardF_tt (op : XOp) : guardF cf (.c (.bool true)) true op s = actF cf s op := rfl
theorem guardF_ff (op : XOp) : guardF cf (.c (.bool false)) false op s = actF cf s op := rfl
theorem guardF_tf (op : XOp) : guardF cf (.c (.bool true)) false op s = some (undefV, s.h) := by simp [guardF, knownV, wantsV]
theorem guardF_ft (op : XOp) : guardF cf (.c (.bool false)) true op s = some (undefV, s.h) := by simp [guardF, knownV, wantsV]
theorem wpk_of {c : XC} (h : wpk cf n c [] Q s) : wpx cf n c s Q := h
/-- A loop: what holds before each turn, and how many turns at most are left. -/
theorem lpk_of {c : XC} (I : Nat → SF → Prop) (k : Nat) (hk : k < n) (h0 : I k s)
    (hI : ∀ k s, I k s → wpk cf n c [] (fun e s' => match e with | .normal => ∃ k', k' < k ∧ I k' s' | e => retk cf n K Q e s') s) : lpk cf n c K Q s := wpx_iter I k hk h0 hI
end
theorem set_last (h : List O) (x y : O) : (h ++ [x]).set h.length y = h ++ [y] := by
  rw [List.set_append_right _ _ (Nat.le_refl _)]
  simp
theorem get_last (h : List O) (x : O) : (h ++ [x])[h.length]? = some x := by simp
theorem okc_mref (k : Nat) : okc (.mref k) = true := rfl
theorem okc_yld (k y m : Nat) (c : List V) : okc (.yld k y m c) = true := rfl
theorem cells_mref (k : Nat) : V.cells (.mref k) = [.mref k] := rfl
theorem cells_yld (k y m : Nat) (c : List V) : V.cells (.yld k y m c) = [.yld k y m c] := rfl
theorem vw2_mref (k : Nat) : (V.mref k).vw2 = .mref k := rfl
theorem vw2_yld (k y m : Nat) (c : List V) : (V.yld k y m c).vw2 = .yld k y m c := rfl
theorem vw2_ptr (cs : List V) (o : Nat) : (V.ptr cs o).vw2 = .ptr cs o := rfl
attribute [simp] okc_mref okc_yld cells_mref cells_yld vw2_mref vw2_yld vw2_ptr
theorem okc_tsl (k n : Nat) (z : Option Nat) : okc (.tsl k n z) = true := rfl
theorem cells_tsl (k n : Nat) (z : Option Nat) : V.cells (.tsl k n z) = [.tsl k n z] := rfl
theorem vw1_tsl (k n : Nat) (z : Option Nat) : (V.tsl k n z).vw1 = .tsl k n z := rfl
theorem vw2_tsl (k n : Nat) (z : Option Nat) : (V.tsl k n z).vw2 = .tsl k n z := rfl
theorem vwf_c (x : Value) : (V.c x).vwf = .c x := rfl
theorem vwf_full (us : List V) : (V.sl us .full).vwf = .sl us .full := rfl
theorem vwf_any (us : List V) : (V.sl us .any).vwf = .sl us .any := rfl
theorem vwf_nil (us : List V) : (V.sl us .nil).vwf = .sl us .any := rfl
theorem vwf_tok (us : List V) (k : Nat) : (V.sl us (.tok k)).vwf = .sl us .any := rfl
theorem vwf_agg (cs : List V) : (V.agg cs).vwf = .agg (cs.map V.vw1) := rfl
theorem vwf_row (i o n : Nat) (z : Option Nat) : (V.row i o n z).vwf = .row i o n z := rfl
theorem vwf_ref (i o : Nat) : (V.ref i o).vwf = .ref i o := rfl
theorem vwf_clo (f : Nat) (cs : List V) : (V.clo f cs).vwf = .clo f cs := rfl
attribute [simp] vwf_c vwf_full vwf_any vwf_nil vwf_tok vwf_agg vwf_row vwf_ref vwf_clo
attribute [simp] grow_nilW grow_fullW storeF_tref storeT_tokc iaF_tsl lenF_tsl appF_tsl growT_cons grow_tnew okc_tsl cells_tsl vw1_tsl vw2_tsl
attribute [simp] wpk_seq wpk_skip wpk_cond cndk_t cndk_f wpk_block wpk_loop wpk_exit wpk_ret retk_nil retk_seq retk_seq_r retk_seq_e retk_blk retk_blk_r retk_blk_e retk_blk_n opsk_nil opsk_cons gvk_some gvk_ite give_n give_g guardF_tt guardF_ff guardF_tf guardF_ft bindO_some bindO_none bindO_ite bindO_map actF_mv actF_pick pickF_b actF_alloc actF_box boxF_dead actF_build fillE actF_bslice actF_load loadF_ref loadF_ptr loadO_cells actF_store storeF_ref storeO_cells actF_bin actF_not notF_b actF_neg negF_i actF_fieldAddr faF_ref faF_ptr actF_field fieldF_agg actF_indexAddr iaF_sl iaF_row elF_some actF_index ixF_s actF_sliceS ssF_s cutS_s actF_sliceL slF_sl slF_row cutL_s cutR_s optE actF_extract extF_t actF_len lenF_sl lenF_row actF_lenS lenS_s actF_append appF_sl grow_none grow_nil grow_full grow_tok srcV_sl hz_nil hz_cons zc_some zc_none actF_mm mmV_one mmV_two mmS_int actF_conv convF_i actF_call calV_f calV_clo calV_yld calR_s actF_makeMap mmkF_dead actF_lookup lookF_fmp lookF_mref lookO_m actF_mapUpd updF_m updM_m actF_clos actF_nilchk nckF_ref nckF_ptr nckF_clo nckF_fn A.val updO upd_at arg0_at callee_f callee_clo idx_int rd_none rd_some okc_agg okc_sl okc_ref okc_ptr okc_clo okc_row okc_int okc_bool okc_str cells_agg cells_c cells_sl cells_ref cells_clo cells_ptr cells_row vw1_c vw1_sl vw1_agg vw1_row vw2_c vw2_sl vw2_agg vw2_ref vw2_clo vw2_row splice binV_int binV_str binV_beq binV_bne binS_emp int_beq0 binI Fin_n Fin_r resFs_nil resFs_cons resF_t resF_cell cellR_ref cellO_s consO_s res_one res_two vw_c vw_sl vw_agg vw_tup low_c
end Go.Proofs.YtkiliokeanmagaaDoor.Ab
