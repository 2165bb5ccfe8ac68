/-
  A second frame, for laws that mark lists of lists: what a call returns is a pool of blocks of its own (Pool), pools are disjoint, and a pool may be written to (LSat, lwC, LC_of).
-/
import Derived.Test.YtbnonelkdgkpdaaOw
set_option linter.unusedVariables false
namespace Go.Proofs.Ytbnonelkdgkpdaa.Ow
open Go Go.RowKit

/-- a slice of lists, each with a block of its own -/
def PVS (w : World) (S : Nat → Prop) (e : Nat) (d : Bool) (xss : List (List Int)) (v : Value) : Prop :=
  (xss = [] ∧ ∃ a cap, v = .slice a 0 cap ∧ (a = none → cap = 0)) ∨
  ∃ b cur E, v = .slice (some ⟨b, 0, none⟩) (List.length xss) cur.size ∧ S b ∧ w.heap[b]? = some (.cells cur E (0, 0)) ∧ List.length xss ≤ cur.size ∧ Cells w (fun c => S c ∧ c ≠ b) (.sw e d) xss cur
def PV (w : World) (S : Nat → Prop) : (t : Ty) → t.T → Value → Prop
  | .sl (.sw e d), xss, v => PVS w S e d xss v
  | t, x, v => Rd w S t x v
theorem PVS.rd {w : World} {S : Nat → Prop} {e : Nat} {d : Bool} {xss : List (List Int)} {v : Value} (h : PVS w S e d xss v) : Rd w S (.sl (.sw e d)) xss v := by
  rcases h with ⟨rfl, a, cap, h1, h2⟩ | ⟨b, cur, E, h1, h2, h3, h4, h5⟩
  · exact ⟨a, cap, h1, Nat.zero_le _, h2, .inl rfl⟩
  · refine ⟨_, _, h1, h4, (fun hh => by cases hh), .inr ⟨b, 0, rfl, h2, fun j hj => ?_⟩⟩
    obtain ⟨cv, g1, g2⟩ := h5.c j hj
    exact ⟨cv, by rw [Nat.zero_add, cell_of_row w b j cur E (0, 0) h3]; exact g1, RdW.ext (fun b hb _ => ⟨rfl, hb.1⟩) g2⟩
theorem PV.rd {w : World} {S : Nat → Prop} {t : Ty} {x : t.T} {v : Value} (h : PV w S t x v) : Rd w S t x v := by
  cases t with
  | sl t' => cases t' with
    | sw e d => exact PVS.rd h
    | _ => exact h
  | _ => exact h
theorem PVS.ext {w w' : World} {S S' : Nat → Prop} (hk : ∀ b, S b → b < w.heap.size → w'.heap[b]? = w.heap[b]? ∧ S' b) {e : Nat} {d : Bool} {xss : List (List Int)} {v : Value} (h : PVS w S e d xss v) : PVS w' S' e d xss v := by
  rcases h with h | ⟨b, cur, E, h1, h2, h3, h4, h5⟩
  · exact .inl h
  · obtain ⟨g1, g2⟩ := hk b h2 (lt_of_heap h3)
    refine .inr ⟨b, cur, E, h1, g2, g1.trans h3, h4, fun j hj => ?_, h5.d⟩
    obtain ⟨cv, g3, g4⟩ := h5.c j hj
    exact ⟨cv, g3, RdW.ext (fun c hc hl => ⟨(hk c hc.1 hl).1, (hk c hc.1 hl).2, hc.2⟩) g4⟩
theorem PV.ext {w w' : World} {S S' : Nat → Prop} (hk : ∀ b, S b → b < w.heap.size → w'.heap[b]? = w.heap[b]? ∧ S' b) {t : Ty} {x : t.T} {v : Value} (h : PV w S t x v) : PV w' S' t x v := by
  cases t with
  | sl t' => cases t' with
    | sw e d => exact PVS.ext hk h
    | _ => exact Rd.ext hk _ _ _ h
  | _ => exact Rd.ext hk _ _ _ h

/-- what a pool holds -/
structure Pool where
  t : Ty
  x : t.T
/-- values: one value; nil; data of old; the value of a pool; a pointer to the j-th list of a pool; that list; two of them; what an operation that was passed over leaves -/
inductive LV where
  | f (av : AV)
  | n
  | o (t : Ty) (x : t.T)
  | p (i : Nat)
  | pe (i j : Nat)
  | pi (i j : Nat)
  | two (x y : LV)
  | u
  | any
structure LSt where
  env : List (Nat × LV)
  pools : List Pool
def lookL (env : List (Nat × LV)) (t : Nat) : LV :=
  match env with
  | [] => .any
  | (u, v) :: r => match Nat.beq u t with | true => v | false => lookL r t
/-- a pool's content as others see it -/
def wkA : (t : Ty) → t.T → AV
  | .sw _ _, xs => .d false (.sl .int) xs
  | .sl (.sw _ _), xss => .d false (.sl (.sl .int)) xss
  | t, x => .d false t x
def cvL (pools : List Pool) : LV → AV
  | .f av => av
  | .n => .nil
  | .o t x => .d false t x
  | .p i => match pools[i]? with | some ⟨t, x⟩ => wkA t x | none => .any
  | .pi i j => match pools[i]? with | some ⟨.sl (.sw _ _), xss⟩ => (match xss[j]? with | some xs => .d false (.sl .int) xs | none => .any) | _ => .any
  | .u => .tup []
  | _ => .any
def cvE (pools : List Pool) : List (Nat × LV) → List (Nat × AV)
  | [] => []
  | (t, x) :: l => (t, cvL pools x) :: cvE pools l
theorem look_cvE (pools : List Pool) : ∀ (env : List (Nat × LV)) (t : Nat), look (cvE pools env) t = cvL pools (lookL env t)
  | [], t => rfl
  | (u, v) :: l, t => by
    unfold cvE look lookL
    cases Nat.beq u t with
    | true => rfl
    | false => exact look_cvE pools l t

def LVal (n0 : Nat) (w : World) (vals : List Value) (pools : List Pool) : LV → Value → Prop
  | .f av, v => ∃ u, flatV av = some u ∧ v = u
  | .n, v => v = .slice none 0 0
  | .o t x, v => Rd w (fun b => b < n0) t x v
  | .p i, v => vals[i]? = some v
  | .pe i j, v => ∃ (e : Nat) (d : Bool) (xss : List (List Int)) (pv : Value) (b cap : Nat), pools[i]? = some ⟨.sl (.sw e d), xss⟩ ∧ vals[i]? = some pv ∧ j < xss.length ∧ pv = .slice (some ⟨b, 0, none⟩) (List.length xss) cap ∧ v = .pointer (some ⟨b, j, none⟩)
  | .pi i j, v => ∃ (e : Nat) (d : Bool) (xss : List (List Int)) (pv : Value) (b cap : Nat), pools[i]? = some ⟨.sl (.sw e d), xss⟩ ∧ vals[i]? = some pv ∧ j < xss.length ∧ pv = .slice (some ⟨b, 0, none⟩) (List.length xss) cap ∧ w.cell? ⟨b, j, none⟩ = some v
  | .two x y, v => ∃ a b, v = .tuple #[a, b] ∧ LVal n0 w vals pools x a ∧ LVal n0 w vals pools y b
  | .u, v => v = undef
  | .any, _ => True

structure LSat (w0 : World) (n0 : Nat) (w : World) (ps : List (Nat → Prop)) (vals : List Value) (a : Act) (N : Nat) (st : LSt) : Prop where
  n : n0 ≤ w0.heap.size
  os : w.os = w0.os
  tape : w.tape = w0.tape
  output : w.output = w0.output
  sz : w0.heap.size ≤ w.heap.size
  fr : ∀ b, b < w0.heap.size → (∀ S ∈ ps, ¬ S b) → w.heap[b]? = w0.heap[b]?
  l1 : ps.length = st.pools.length
  l2 : vals.length = st.pools.length
  lt : ∀ (i : Nat) (S : Nat → Prop), ps[i]? = some S → ∀ b, S b → n0 ≤ b ∧ b < w.heap.size
  dis : ∀ (i j : Nat) (S T : Nat → Prop), ps[i]? = some S → ps[j]? = some T → i ≠ j → ∀ b, S b → ¬ T b
  pv : ∀ (i : Nat) (S : Nat → Prop) (p : Pool) (v : Value), ps[i]? = some S → st.pools[i]? = some p → vals[i]? = some v → PV w S p.t p.x v
  env : ∀ t, LVal n0 w vals st.pools (lookL st.env t) (a.tmps.getD t undef)
  size : a.tmps.size = N
  dfs : a.defers = []

section
variable {P : Program} {τ : Nat → TI} {N n0 : Nat} {w0 w : World} {ps : List (Nat → Prop)} {vals : List Value} {a : Act} {st : LSt}
theorem Rd.free {w w' : World} {S S' : Nat → Prop} (hs : ∀ b, S b → b < w.heap.size → w'.heap[b]? = w.heap[b]? ∧ S' b) {t : Ty} {x : t.T} {v : Value} (h : Rd w S t x v) : Rd w' S' t x v := Rd.ext hs t x v h
theorem wkA_ok {w : World} {S : Nat → Prop} {t : Ty} {x : t.T} {v : Value} (h : Rd w S t x v) : V w [] (fun _ => False) [] (wkA t x) v := by
  have h' : Rd w (fun b => b ∉ ([] : List Nat)) t x v := Rd.ext (fun b _ _ => ⟨rfl, by simp⟩) t x v h
  cases t with
  | sw e d => exact RdW.rd h'
  | sl t' => cases t' with
    | sw e d => exact Rd.wk h'
    | _ => exact h'
  | _ => exact h'
theorem LVal.cv (h : LSat w0 n0 w ps vals a N st) : ∀ {x : LV} {v : Value}, LVal n0 w vals st.pools x v → V w [] (fun _ => False) [] (cvL st.pools x) v
  | .f av, v, hv => by
    obtain ⟨u, h1, rfl⟩ := hv
    exact flatV_mk h1
  | .n, v, hv => hv
  | .o t x, v, hv => Rd.ext (fun b hb _ => ⟨rfl, by simp [SS]⟩) t x v hv
  | .p i, v, hv => by
    have hi : i < st.pools.length := by rw [← h.l2]; exact (List.getElem?_eq_some_iff.1 hv).1
    have hp : st.pools[i]? = some st.pools[i] := List.getElem?_eq_getElem hi
    have hS : ps[i]? = some (ps[i]'(by rw [h.l1]; exact hi)) := List.getElem?_eq_getElem _
    have := h.pv i _ _ _ hS hp hv
    have e : cvL st.pools (.p i) = wkA (st.pools[i]).t (st.pools[i]).x := by simp only [cvL, hp]
    rw [e]
    exact wkA_ok this.rd
  | .pe i j, v, _ => trivial
  | .pi i j, v, hv => by
    obtain ⟨e, d, xss, pv, b, cap, h1, h2, h3, h4, h5⟩ := hv
    have hS : ps[i]? = some (ps[i]'(by rw [h.l1]; exact (List.getElem?_eq_some_iff.1 h1).1)) := List.getElem?_eq_getElem _
    have hp := h.pv i _ _ _ hS h1 h2
    have e1 : cvL st.pools (.pi i j) = .d false (.sl .int) xss[j] := by simp only [cvL, h1, List.getElem?_eq_getElem h3]
    rw [e1]
    have hp : PVS w _ e d xss pv := hp
    rcases hp with ⟨k, _⟩ | ⟨b', cur, E, k1, k2, k3, k4, k5⟩
    · rw [k] at h3; simp at h3
    · rw [h4] at k1
      simp only [Value.slice.injEq, Option.some.injEq, Addr.mk.injEq] at k1
      obtain ⟨⟨rfl, _⟩, _, _⟩ := k1
      rw [cell_of_row w b j cur E (0, 0) k3] at h5
      obtain ⟨cv, g1, g2⟩ := k5.c j h3
      rw [h5] at g1; cases g1
      exact RdW.rd (RdW.ext (fun _ _ _ => ⟨rfl, by simp [SS]⟩) g2)
  | .two x y, v, _ => trivial
  | .u, v, hv => ⟨[], hv, rfl⟩
  | .any, v, _ => trivial
theorem LSat.sat (h : LSat w0 n0 w ps vals a N st) : Sat w [] (fun _ => False) a N ⟨cvE st.pools st.env, []⟩ :=
  ⟨rfl, List.nodup_nil, fun b hb => by simp at hb, fun b hb => hb.elim, fun i b r hb => by simp at hb, fun t => by
    show V _ _ _ _ (look (cvE st.pools st.env) t) _
    rw [look_cvE]
    exact LVal.cv h (h.env t), h.size, h.dfs⟩
end

/-! ### the verification condition -/
def fLV (k : LV → Prop) : LV → Prop
  | .f av => fAV (fun av' => k (.f av')) av
  | .n => k .n
  | .o t x => k (.o t x)
  | .p i => k (.p i)
  | .pe i j => k (.pe i j)
  | .pi i j => k (.pi i j)
  | .two x y => fLV (fun x' => fLV (fun y' => k (.two x' y')) y) x
  | .u => k .u
  | .any => k .any
theorem fLV_eq : ∀ (x : LV) (k : LV → Prop), fLV k x = k x
  | .f av, k => fAV_eq (fun av' => k (.f av')) av
  | .n, k => rfl
  | .o _ _, k => rfl
  | .p _, k => rfl
  | .pe _ _, k => rfl
  | .pi _ _, k => rfl
  | .two x y, k => by rw [fLV, fLV_eq x, fLV_eq y]
  | .u, k => rfl
  | .any, k => rfl
def fPs : List Pool → (List Pool → Prop) → Prop
  | [], k => k []
  | p :: l, k => match p with | ⟨t, x⟩ => fPs l fun l' => k (⟨t, x⟩ :: l')
theorem fPs_eq : ∀ (l : List Pool) (k : List Pool → Prop), fPs l k = k l
  | [], _ => rfl
  | ⟨t, x⟩ :: l, k => by rw [fPs, fPs_eq l]
def lput (N : Nat) (dst : Option Nat) (x : LV) (st : LSt) (K : LSt → Prop) : Prop :=
  match st with
  | ⟨env, pools⟩ => fLV (fun x' => fPs pools fun pools' => match dst with
    | none => K ⟨env, pools'⟩
    | some d => match Nat.blt d N with | true => K ⟨(d, x') :: env, pools'⟩ | false => False) x
def cstL (v : Value) : LV :=
  match cst v with | .nil => .n | .d s t x => .f (.d s t x) | _ => .any
def evL (env : List (Nat × LV)) : Operand → LV
  | .tmp t => lookL env t
  | .const v => cstL v
  | _ => .any
def splL (k : LV → Prop) : LV → Prop
  | .f (.d s .bool b) => (b = true → k (.f (.d s .bool true))) ∧ (b = false → k (.f (.d s .bool false)))
  | x => k x
/-- what a call hands back, as a value and a new pool -/
def newL (n : Nat) (rows' : List Row) : AV → Option (LV × List Pool)
  | .d true (.sl (.sw _ _)) _ => none
  | .d true (.sw e _) xs => some (.p n, [⟨.sw e false, xs⟩])
  | .d true t x => match t.flat with | true => some (.f (.d true t x), []) | false => some (.p n, [⟨t, x⟩])
  | .nil => some (.n, [])
  | .ow 0 => match rows' with
    | [.sl e .int xs] => some (.p n, [⟨.sw e false, xs⟩])
    | [.sl _ (.sw e d) xss] => some (.p n, [⟨.sl (.sw e d), xss⟩])
    | [.sl _ (.sl t) xss] => some (.p n, [⟨.sl (.sl t), xss⟩])
    | _ => none
  | _ => none
def lRes (N : Nat) (dst : Option Nat) (st : LSt) (rows' : List Row) (K : LSt → Prop) : List AV → Prop
  | [r] => match newL st.pools.length rows' r with
    | some (x, q) => splL (fun x => lput N dst x ⟨st.env, st.pools ++ q⟩ K) x
    | none => False
  | [r, .d true t y] => t.flat = true ∧ (match newL st.pools.length rows' r with
    | some (x, q) => lput N dst (.two x (.f (.d true t y))) ⟨st.env, st.pools ++ q⟩ K
    | none => False)
  | _ => False
/-- a call that writes to the lists of a pool -/
def MC (P : Program) (F : FuncId) (e : Nat) (xss : List (List Int)) (k : Int) (r : Int) (yss : List (List Int)) : Prop :=
  Runs P F ∧ ∀ (w : World) (S : Nat → Prop) (v : Value), (∀ b, S b → b < w.heap.size) → PVS w S e true xss v → Calls P F #[v, .int .i64 k] w fun ex w' =>
    ex = .returned (.int .i64 r) ∧ PVS w' S e true yss v ∧ w'.os = w.os ∧ w'.tape = w.tape ∧ w'.output = w.output ∧ w.heap.size ≤ w'.heap.size ∧ ∀ b, b < w.heap.size → ¬ S b → w'.heap[b]? = w.heap[b]?
def killL : LV → LV
  | .pe _ _ => .any
  | .pi _ _ => .any
  | .two _ _ => .any
  | x => x
def killLE : List (Nat × LV) → List (Nat × LV)
  | [] => []
  | (t, x) :: l => (t, killL x) :: killLE l
def lCall (P : Program) (N : Nat) (dst : Option Nat) (st : LSt) (F : FuncId) (args : List LV) (K : LSt → Prop) : Prop :=
  ∃ md : Nat, match md with
    | 0 => ∃ (res : List AV) (rows' : List Row), AC P F (args.map (cvL st.pools)) [] res rows' ∧ lRes N dst st rows' K res
    | 1 => (match args with
      | [.p i, .f (.d _ .int k)] => (match st.pools[i]? with
        | some ⟨.sl (.sw e true), xss⟩ => ∃ (r : Int) (yss : List (List Int)), MC P F e xss k r yss ∧ yss.length = xss.length ∧ lput N dst (.f (I r)) ⟨killLE st.env, st.pools.set i ⟨.sl (.sw e true), yss⟩⟩ K
        | _ => False)
      | _ => False)
    | 2 => (match args with
      | [.p i, .f (.d _ .int k)] => (match st.pools[i]? with
        | some ⟨.sw e d, xs⟩ => ∃ (r : Int) (ys : List Int), AC P F [.ow 0, I k] [.sl e .int xs] [I r] [.sl e .int ys] ∧ ys.length = xs.length ∧ xs ≠ [] ∧ lput N dst (.f (I r)) ⟨killLE st.env, st.pools.set i ⟨.sw e d, ys⟩⟩ K
        | _ => False)
      | _ => False)
    | _ => (match args with
      | [.pi i j, .f (.d _ .int k)] => (match st.pools[i]? with
        | some ⟨.sl (.sw e true), xss⟩ => ∃ (r : Int) (ys : List Int), AC P F [.ow 0, I k] [.sl e .int (xss.getD j [])] [I r] [.sl e .int ys] ∧ ys.length = (xss.getD j []).length ∧ xss.getD j [] ≠ [] ∧ lput N dst (.f (I r)) ⟨st.env, st.pools.set i ⟨.sl (.sw e true), xss.set j ys⟩⟩ K
        | _ => False)
      | _ => False)
/-- for one value alone -/
def flK (av : AV) (X : Prop) : Prop := match av with
  | .d _ .int _ => X
  | .d _ .bool _ => X
  | .d _ .u8 _ => X
  | .d _ .str _ => X
  | _ => False
theorem flK_ok {av : AV} {X : Prop} (h : flK av X) : (flatV av).isSome = true ∧ X := by
  unfold flK at h
  split at h <;> first | exact ⟨rfl, h⟩ | exact h.elim
def lOp (P : Program) (τ : Nat → TI) (N : Nat) (st : LSt) (o : Oper) (K : LSt → Prop) : Prop :=
  match o.op with
  | .move x => lput N o.dst (evL st.env x) st K
  | .assign x => lput N o.dst (evL st.env x) st K
  | .extract x i => (match evL st.env x, i with
    | .two y _, 0 => splL (fun y => lput N o.dst y st K) y
    | .two _ z, 1 => splL (fun z => lput N o.dst z st K) z
    | _, _ => False)
  | .indexAddr T x i => (match τ T, evL st.env x, evL st.env i with
    | .one (.sl _) _, .p q, .f (.d _ .int n) => (match st.pools[q]? with
      | some ⟨.sl (.sw _ _), xss⟩ => ∃ j : Nat, n = (j : Int) ∧ j < List.length xss ∧ lput N o.dst (.pe q j) st K
      | _ => False)
    | _, _, _ => False)
  | .load T x => (match τ T, evL st.env x with
    | .one _ _, .pe q j => lput N o.dst (.pi q j) st K
    | _, _ => False)
  | .call c => (match c.callee with
    | .value (.func F) => lCall P N o.dst st F (c.args.toList.map (evL st.env)) K
    | .value _ => False
    | _ => pOp τ ⟨cvE st.pools st.env, []⟩ o.op fun av => flK av (lput N o.dst (.f av) st K))
  | _ => pOp τ ⟨cvE st.pools st.env, []⟩ o.op fun av => flK av (lput N o.dst (.f av) st K)
def lOps (P : Program) (τ : Nat → TI) (N : Nat) (all : Array Oper) : List Oper → LSt → (LSt → Prop) → Prop
  | [], st, K => K st
  | o :: r, st, K => match o.guard with
    | none => lOp P τ N st o (fun st' => lOps P τ N all r st' K)
    | some (j, want) => gsel (gv all (cvE st.pools st.env) j) want (lOp P τ N st o (fun st' => lOps P τ N all r st' K)) (lput N o.dst .u st (fun st' => lOps P τ N all r st' K))
def thenL (n : LSt → Prop) (Q : Exit → LSt → Prop) : Exit → LSt → Prop
  | .normal, st => n st
  | e, st => Q e st
def blkL (id : Nat) (Q : Exit → LSt → Prop) : Exit → LSt → Prop
  | .exit i, st => match Nat.beq i id with | true => Q .normal st | false => Q (.exit i) st
  | e, st => Q e st
/-- st' says no more than st -/
def subL (env : List (Nat × LV)) : List (Nat × LV) → Prop
  | [] => True
  | (t, x) :: l => lookL env t = x ∧ subL env l
def lwC (P : Program) (τ : Nat → TI) (N : Nat) : Code → LSt → (Exit → LSt → Prop) → Prop
  | .skip, st, Q => Q .normal st
  | .region _ ops false, st, Q => lOps P τ N ops ops.toList st (Q .normal)
  | .seq a b, st, Q => lwC P τ N a st (thenL (fun st' => lwC P τ N b st' Q) Q)
  | .cond c x y, st, Q => match evL st.env c with
    | .f (.d _ .bool b) => (match (b : Bool) with | true => lwC P τ N x st Q | false => lwC P τ N y st Q)
    | _ => False
  | .block id c, st, Q => lwC P τ N c st (blkL id Q)
  | .loop c, st, Q => ∃ (ι : Type) (J : ι → LSt) (Inv : ι → Prop) (μ : ι → Nat) (i0 : ι), Inv i0 ∧ (st.pools = (J i0).pools ∧ subL st.env (J i0).env) ∧ ∀ i, Inv i → lwC P τ N c (J i) (thenL (fun st' => ∃ j, Inv j ∧ μ j < μ i ∧ st'.pools = (J j).pools ∧ subL st'.env (J j).env) Q)
  | .exit id, st, Q => Q (.exit id) st
  | .ret, st, Q => Q .ret st
  | _, _, _ => False

section
variable {P : Program} {τ : Nat → TI} {N n0 : Nat} {w0 w w' : World} {ps : List (Nat → Prop)} {vals : List Value} {a : Act} {st : LSt}
theorem LVal.step {vals vals' : List Value} {pools pools' : List Pool} (hold : ∀ b, b < n0 → b < w.heap.size → w'.heap[b]? = w.heap[b]?) (hv : ∀ (q : Nat) (v : Value), vals[q]? = some v → vals'[q]? = some v)
    (hp : ∀ (q : Nat) (e : Nat) (d : Bool) (xss : List (List Int)), pools[q]? = some ⟨.sl (.sw e d), xss⟩ → ∃ xss' : List (List Int), pools'[q]? = some ⟨.sl (.sw e d), xss'⟩ ∧ xss'.length = xss.length)
    (hc : ∀ (q : Nat) (e : Nat) (d : Bool) (xss : List (List Int)) (b cap j : Nat) (v : Value), pools[q]? = some ⟨.sl (.sw e d), xss⟩ → vals[q]? = some (.slice (some ⟨b, 0, none⟩) (List.length xss) cap) → j < xss.length → w.cell? ⟨b, j, none⟩ = some v → w'.cell? ⟨b, j, none⟩ = some v) :
    ∀ {x : LV} {v : Value}, LVal n0 w vals pools x v → LVal n0 w' vals' pools' x v
  | .f _, _, h => h
  | .n, _, h => h
  | .o t x, v, h => Rd.ext (fun b hb hl => ⟨hold b hb hl, hb⟩) t x v h
  | .p i, v, h => hv i v h
  | .pe i j, v, h => by
    obtain ⟨e, d, xss, pv, b, cap, h1, h2, h3, h4, h5⟩ := h
    obtain ⟨xss', g1, g2⟩ := hp _ _ _ _ h1
    exact ⟨e, d, xss', pv, b, cap, g1, hv _ _ h2, by omega, by rw [g2]; exact h4, h5⟩
  | .pi i j, v, h => by
    obtain ⟨e, d, xss, pv, b, cap, h1, h2, h3, h4, h5⟩ := h
    obtain ⟨xss', g1, g2⟩ := hp _ _ _ _ h1
    subst h4
    exact ⟨e, d, xss', _, b, cap, g1, hv _ _ h2, by omega, by rw [g2], hc _ _ _ _ _ _ _ _ h1 h2 h3 h5⟩
  | .two x y, v, h => by
    obtain ⟨a, b, h1, h2, h3⟩ := h
    exact ⟨a, b, h1, LVal.step hold hv hp hc h2, LVal.step hold hv hp hc h3⟩
  | .u, _, h => h
  | .any, _, h => h
theorem lookL_cons (d : Nat) (x : LV) (env : List (Nat × LV)) (t : Nat) : lookL ((d, x) :: env) t = if d = t then x else lookL env t := by
  show (match Nat.beq d t with | true => x | false => lookL env t) = _
  by_cases h : d = t
  · subst h; simp
  · have : Nat.beq d t = false := by
      cases hb : Nat.beq d t
      · rfl
      · exact (h (Nat.eq_of_beq_eq_true hb)).elim
    rw [this, if_neg h]
theorem lput_ok {x : LV} {v : Value} {dst : Option Nat} {K : LSt → Prop} (hs : LSat w0 n0 w ps vals a N st) (hv : LVal n0 w vals st.pools x v) (h : lput N dst x st K) : ∃ st', LSat w0 n0 w ps vals (a.put dst v) N st' ∧ K st' := by
  unfold lput at h
  simp only [fLV_eq, fPs_eq] at h
  split at h
  · exact ⟨st, hs, h⟩
  · rename_i d
    split at h
    · rename_i hd
      have hd' : d < N := by
        have : Nat.ble (d + 1) N = true := hd
        exact Nat.le_of_ble_eq_true this
      refine ⟨⟨(d, x) :: st.env, st.pools⟩, { hs with env := fun t => ?_, size := by simp [Act.put, hs.size], dfs := hs.dfs }, h⟩
      show LVal n0 w vals st.pools (lookL ((d, x) :: st.env) t) _
      rw [lookL_cons]
      have hsz := hs.size
      by_cases e : d = t
      · subst e
        rw [if_pos rfl]
        have : (a.put (some d) v).tmps.getD d undef = v := by simp [Act.put, Array.getD, hsz, hd']
        rw [this]; exact hv
      · rw [if_neg e]
        have : (a.put (some d) v).tmps.getD t undef = a.tmps.getD t undef := by
          simp only [Act.put, Array.getD_eq_getD_getElem?, Array.getElem?_setIfInBounds]
          rw [if_neg e]
        rw [this]; exact hs.env t
    · exact h.elim
def Ext1 {α : Type} (l l' : List α) : Prop := ∃ x, l' = l ++ x
theorem Ext1.refl {α : Type} (l : List α) : Ext1 l l := ⟨[], by simp⟩
theorem Ext1.trans {α : Type} {l l' l'' : List α} (h : Ext1 l l') (k : Ext1 l' l'') : Ext1 l l'' := by
  obtain ⟨x, rfl⟩ := h
  obtain ⟨y, rfl⟩ := k
  exact ⟨x ++ y, by simp⟩
def NxL (w0 : World) (n0 N : Nat) (ps : List (Nat → Prop)) (vals : List Value) (K : LSt → Prop) (Kc : Act → World → Prop) : Prop :=
  ∀ w' ps' vals' a' st', LSat w0 n0 w' ps' vals' a' N st' → Ext1 ps ps' → Ext1 vals vals' → K st' → Kc a' w'
theorem NxL.of {K : LSt → Prop} {Kc : Act → World → Prop} (hK : NxL w0 n0 N ps vals K Kc) {ps' : List (Nat → Prop)} {vals' : List Value} {x : LV} {v : Value} {dst : Option Nat} (hs : LSat w0 n0 w ps' vals' a N st) (h1 : Ext1 ps ps') (h2 : Ext1 vals vals') (hv : LVal n0 w vals' st.pools x v) (h : lput N dst x st K) : Kc (a.put dst v) w := by
  obtain ⟨st', g1, g2⟩ := lput_ok hs hv h
  exact hK _ _ _ _ _ g1 h1 h2 g2
theorem splL_ok {k : LV → Prop} {x : LV} {v : Value} {pools : List Pool} (hv : LVal n0 w vals pools x v) (h : splL k x) : ∃ y, LVal n0 w vals pools y v ∧ k y := by
  unfold splL at h
  split at h
  · rename_i s b
    cases b
    · exact ⟨_, hv, h.2 rfl⟩
    · exact ⟨_, hv, h.1 rfl⟩
  · exact ⟨_, hv, h⟩
theorem cstL_ok (v : Value) (pools : List Pool) : LVal n0 w vals pools (cstL v) v := by
  unfold cstL
  have h := cst_ok w [] (fun _ => False) [] v
  split
  · rename_i e; rw [e] at h; exact h
  · rename_i s t x e
    rw [e] at h
    have hf : ∃ u, flatV (.d s t x) = some u := by
      unfold cst at e
      split at e <;> cases e <;> exact ⟨_, rfl⟩
    obtain ⟨u, hu⟩ := hf
    exact ⟨u, hu, flatV_ok hu h⟩
  · trivial
theorem evL_ok (hs : LSat w0 n0 w ps vals a N st) (x : Operand) : LVal n0 w vals st.pools (evL st.env x) (a.eval x) := by
  cases x with
  | tmp t => exact hs.env t
  | const v => exact cstL_ok v _
  | global g => trivial
  | func f => trivial
/-- the world has grown -/
structure Grw (w w' : World) : Prop where
  os : w'.os = w.os
  tape : w'.tape = w.tape
  output : w'.output = w.output
  size : w.heap.size ≤ w'.heap.size
  old : ∀ k, k < w.heap.size → w'.heap[k]? = w.heap[k]?
theorem Grw.cell (h : Grw w w') {b o : Nat} {v : Value} (hc : w.cell? ⟨b, o, none⟩ = some v) : w'.cell? ⟨b, o, none⟩ = some v := (cell_of_block (h.old b (cell_lt hc))).trans hc
theorem LSat.grow (hs : LSat w0 n0 w ps vals a N st) (h : Grw w w') : LSat w0 n0 w' ps vals a N st where
  n := hs.n
  os := h.os.trans hs.os
  tape := h.tape.trans hs.tape
  output := h.output.trans hs.output
  sz := Nat.le_trans hs.sz h.size
  fr := fun b hb hS => (h.old b (Nat.lt_of_lt_of_le hb hs.sz)).trans (hs.fr b hb hS)
  l1 := hs.l1
  l2 := hs.l2
  lt := fun i S hS b hb => ⟨(hs.lt i S hS b hb).1, Nat.lt_of_lt_of_le (hs.lt i S hS b hb).2 h.size⟩
  dis := hs.dis
  pv := fun i S p v h1 h2 h3 => PV.ext (fun b hb _ => ⟨h.old b (hs.lt i S h1 b hb).2, hb⟩) (hs.pv i S p v h1 h2 h3)
  env := fun t => LVal.step (fun b _ hl => h.old b hl) (fun _ _ h => h) (fun _ _ _ xss h => ⟨xss, h, rfl⟩) (fun _ _ _ _ _ _ _ _ _ _ _ hc => h.cell hc) (hs.env t)
  size := hs.size
  dfs := hs.dfs
/-- a new pool -/
theorem LSat.push (hs : LSat w0 n0 w ps vals a N st) (h : Grw w w') {p : Pool} {v : Value} (hv : PV w' (fun b => w.heap.size ≤ b ∧ b < w'.heap.size) p.t p.x v) :
    LSat w0 n0 w' (ps ++ [fun b => w.heap.size ≤ b ∧ b < w'.heap.size]) (vals ++ [v]) a N ⟨st.env, st.pools ++ [p]⟩ := by
  have hg := hs.grow h
  have hl1 := hs.l1
  have hl2 := hs.l2
  have hlt : ∀ (i : Nat) (S : Nat → Prop), (ps ++ [fun b => w.heap.size ≤ b ∧ b < w'.heap.size])[i]? = some S → (i < ps.length ∧ ps[i]? = some S) ∨ (i = ps.length ∧ S = fun b => w.heap.size ≤ b ∧ b < w'.heap.size) := fun i S hS => by
    by_cases hi : i < ps.length
    · rw [List.getElem?_append_left hi] at hS; exact .inl ⟨hi, hS⟩
    · have hi2 : i = ps.length := by have := (List.getElem?_eq_some_iff.1 hS).1; simp at this; omega
      subst hi2
      rw [List.getElem?_append_right (Nat.le_refl _)] at hS
      simp at hS
      exact .inr ⟨rfl, hS.symm⟩
  refine { n := hs.n, os := hg.os, tape := hg.tape, output := hg.output, sz := hg.sz, fr := fun b hb hS => hg.fr b hb fun S hm => hS S (List.mem_append_left _ hm), l1 := by simp [hl1], l2 := by simp [hl2], lt := ?_, dis := ?_, pv := ?_, env := ?_, size := hs.size, dfs := hs.dfs }
  · intro i S hS b hb
    rcases hlt i S hS with ⟨_, h1⟩ | ⟨_, rfl⟩
    · exact hg.lt i S h1 b hb
    · exact ⟨Nat.le_trans (Nat.le_trans hs.n hs.sz) hb.1, hb.2⟩
  · intro i j S T hS hT hij b hb hb2
    rcases hlt i S hS with ⟨h0, h1⟩ | ⟨h0, rfl⟩
    · rcases hlt j T hT with ⟨k0, k1⟩ | ⟨k0, rfl⟩
      · exact hs.dis i j S T h1 k1 hij b hb hb2
      · have := (hs.lt i S h1 b hb).2; have := hb2.1; omega
    · rcases hlt j T hT with ⟨k0, k1⟩ | ⟨k0, rfl⟩
      · have := (hs.lt j T k1 b hb2).2; have := hb.1; omega
      · omega
  · intro i S q u hS hq hu
    rcases hlt i S hS with ⟨h0, h1⟩ | ⟨h0, rfl⟩
    · simp only [List.getElem?_append_left (show i < st.pools.length by omega)] at hq
      rw [List.getElem?_append_left (by omega)] at hu
      exact hg.pv i S q u h1 hq hu
    · subst h0
      simp only [List.getElem?_append_right (show st.pools.length ≤ ps.length by omega), show ps.length - st.pools.length = 0 by omega] at hq
      rw [List.getElem?_append_right (by omega), show ps.length - vals.length = 0 by omega] at hu
      simp at hq hu
      subst hq; subst hu
      exact hv
  · intro t
    refine LVal.step (fun _ _ _ => rfl) (fun q u hq => ?_) (fun q e d xss hq => ⟨xss, ?_, rfl⟩) (fun _ _ _ _ _ _ _ _ _ _ _ hc => hc) (hg.env t)
    · rw [List.getElem?_append_left (List.getElem?_eq_some_iff.1 hq).1]; exact hq
    · show (st.pools ++ [p])[q]? = _
      rw [List.getElem?_append_left (List.getElem?_eq_some_iff.1 hq).1]; exact hq
theorem lookL_kill (env : List (Nat × LV)) (t : Nat) : lookL (killLE env) t = killL (lookL env t) := by
  induction env with
  | nil => rfl
  | cons hd tl ih =>
    obtain ⟨u, v⟩ := hd
    rw [killLE, lookL_cons, lookL_cons]
    split
    · rfl
    · exact ih
theorem LVal.kill {vals : List Value} {pools pools' : List Pool} (hold : ∀ b, b < n0 → b < w.heap.size → w'.heap[b]? = w.heap[b]?) {x : LV} {v : Value} (h : LVal n0 w vals pools x v) : LVal n0 w' vals pools' (killL x) v := by
  cases x <;> first | exact h | trivial | exact Rd.ext (fun b hb hl => ⟨hold b hb hl, hb⟩) _ _ v h
/-- what a call with no rows of ours hands back -/
theorem newL_ok (hs : LSat w0 n0 w ps vals a N st) {bs' : List Nat} {A' : Nat → Prop} {rows' : List Row} (hg : Grw w w') (hrok : ROk w' bs' A' rows') (hbs : ∀ b ∈ bs', w.heap.size ≤ b) (hA : ∀ b, A' b → w.heap.size ≤ b)
    {r : AV} {v : Value} (hv : V w' bs' A' rows' r v) {x : LV} {q : List Pool} (h : newL st.pools.length rows' r = some (x, q)) :
    ∃ ps' vals', LSat w0 n0 w' ps' vals' a N ⟨st.env, st.pools ++ q⟩ ∧ Ext1 ps ps' ∧ Ext1 vals vals' ∧ LVal n0 w' vals' (st.pools ++ q) x v := by
  have hl2 := hs.l2
  have push : ∀ {p : Pool}, PV w' (fun b => w.heap.size ≤ b ∧ b < w'.heap.size) p.t p.x v → ∃ ps' vals', LSat w0 n0 w' ps' vals' a N ⟨st.env, st.pools ++ [p]⟩ ∧ Ext1 ps ps' ∧ Ext1 vals vals' ∧ LVal n0 w' vals' (st.pools ++ [p]) (.p st.pools.length) v := fun {p} hp =>
    ⟨_, _, hs.push hg hp, ⟨_, rfl⟩, ⟨_, rfl⟩, by
      show (vals ++ [v])[st.pools.length]? = some v
      rw [List.getElem?_append_right (by omega), hl2, Nat.sub_self]; rfl⟩
  have stay : ∀ {x : LV}, LVal n0 w' vals st.pools x v → ∃ ps' vals', LSat w0 n0 w' ps' vals' a N ⟨st.env, st.pools ++ []⟩ ∧ Ext1 ps ps' ∧ Ext1 vals vals' ∧ LVal n0 w' vals' (st.pools ++ []) x v := fun {x} hx => by
    rw [List.append_nil]
    exact ⟨ps, vals, hs.grow hg, Ext1.refl _, Ext1.refl _, hx⟩
  have sub : ∀ b, A' b → b < w'.heap.size → w'.heap[b]? = w'.heap[b]? ∧ (w.heap.size ≤ b ∧ b < w'.heap.size) := fun b hb hl => ⟨rfl, hA b hb, hl⟩
  unfold newL at h
  split at h
  · cases h
  · rename_i e d xs
    cases h
    refine push ?_
    have hv : RdW w' A' e xs v := hv
    have hv2 : RdW w' (fun b => w.heap.size ≤ b ∧ b < w'.heap.size) e xs v := RdW.ext sub hv
    exact hv2
  · rename_i t y hnsw hnsw2
    split at h
    · rename_i hf
      cases h
      refine stay ?_
      have hv : Rd w' A' t y v := hv
      cases t <;> first | exact ⟨_, rfl, hv⟩ | (simp [Ty.flat] at hf)
    · cases h
      refine push ?_
      have hv : Rd w' A' t y v := hv
      have hv2 := Rd.ext sub t y v hv
      cases t with
      | sl t' => cases t' with
        | sw e d => exact (hnsw e d y rfl HEq.rfl).elim
        | _ => exact hv2
      | _ => exact hv2
  · cases h
    exact stay hv
  · split at h
    · rename_i e xs
      cases h
      refine push ?_
      obtain ⟨b, e2, t2, xs2, cur, h1, h2, h3, h4⟩ := hv
      cases h2
      obtain ⟨hnA, cur2, c1, c2, c3, c4⟩ := hrok.row 0 b _ h1 rfl
      rw [h3] at c1; cases c1
      have hb := List.mem_of_getElem? h1
      show RdW _ _ _ _ _
      by_cases hx : xs = []
      · subst hx; exact .inl ⟨rfl, _, _, h4, fun hh => by cases hh⟩
      · refine .inr ⟨hx, b, cur, h4, ⟨hbs b hb, hrok.lt b hb⟩, h3, c2, c3, fun j hj => ?_⟩
        obtain ⟨cv, k1, k2⟩ := c4.c j hj
        rw [k1]; exact congrArg some k2
    · rename_i E e d xss
      cases h
      refine push ?_
      obtain ⟨b, e2, t2, xs2, cur, h1, h2, h3, h4⟩ := hv
      cases h2
      obtain ⟨hnA, cur2, c1, c2, c3, c4⟩ := hrok.row 0 b _ h1 rfl
      rw [h3] at c1; cases c1
      have hb := List.mem_of_getElem? h1
      refine .inr ⟨b, cur, E, h4, ⟨hbs b hb, hrok.lt b hb⟩, h3, c2, fun j hj => ?_, c4.d⟩
      obtain ⟨cv, k1, k2⟩ := c4.c j hj
      exact ⟨cv, k1, RdW.ext (fun c hc hl => ⟨rfl, ⟨hA c hc, hl⟩, fun e => hnA (e ▸ hc)⟩) k2⟩
    · rename_i E t xss
      cases h
      refine push ?_
      obtain ⟨b, e2, t2, xs2, cur, h1, h2, h3, h4⟩ := hv
      cases h2
      obtain ⟨hnA, cur2, c1, c2, c3, c4⟩ := hrok.row 0 b _ h1 rfl
      rw [h3] at c1; cases c1
      have hb := List.mem_of_getElem? h1
      have hfin : Rd w' (fun b => w.heap.size ≤ b ∧ b < w'.heap.size) (.sl (.sl t)) xss v := by
        refine ⟨some ⟨b, 0, none⟩, cur.size, h4, c2, (fun hh => by cases hh), .inr ⟨b, 0, rfl, ⟨hbs b hb, hrok.lt b hb⟩, fun j hj => ?_⟩⟩
        obtain ⟨cv, k1, k2⟩ := c4.c j hj
        exact ⟨cv, by rw [Nat.zero_add, cell_of_row w' b j cur E (0, 0) h3]; exact k1, Rd.ext sub (.sl t) _ _ k2⟩
      exact hfin
    · cases h
  · cases h
theorem args_ok (hs : LSat w0 n0 w ps vals a N st) : ∀ l : List Operand, Vs w [] (fun _ => False) [] ((l.map (evL st.env)).map (cvL st.pools)) (l.map a.eval)
  | [] => rfl
  | x :: l => ⟨_, _, rfl, LVal.cv hs (evL_ok hs x), args_ok hs l⟩
theorem run_lcall {o : Oper} {c : Call} {F : FuncId} (ho : o.op = .call c) (hc : c.callee = .value (.func F)) (hr : Runs P F) : (execOp a.eval o).run P w = .ok (.enter F (c.args.toList.map a.eval).toArray) w := by
  have e : (List.map a.eval c.args.toList).toArray = c.args.map a.eval := by rw [← Array.toList_map, Array.toArray_toList]
  rw [e]
  have hfv : a.eval (.func F) = .func (.func F) #[] #[] := rfl
  simp only [execOp, ho, resolve, hc, hfv, Deferred.ofValue, Sem.run_bind, Sem.run_pure, Result.andThen_ok, invoke]
  rw [show (#[] : Array Value) ++ c.args.map a.eval ++ #[] = c.args.map a.eval by simp]
  exact run_callFunc_enter hr _ w
theorem rok0 (w : World) : ROk w [] (fun _ => False) [] := ⟨rfl, List.nodup_nil, fun b hb => by simp at hb, fun b hb => hb.elim, fun i b r hb => by simp at hb⟩
/-- a call that writes into one row -/
theorem mark_row {F : FuncId} {e : Nat} {xs ys : List Int} {k r : Int} (hA : AC P F [.ow 0, I k] [.sl e .int xs] [I r] [.sl e .int ys]) {b : Nat} {cur : Array Value} (hb : w.heap[b]? = some (.cells cur e (0, 0))) (hle : xs.length ≤ cur.size) (hmx : cur.size ≤ maxLen) (hc : ∀ (j : Nat) (h : j < xs.length), cur[j]? = some (.int .i64 (xs[j]'h))) (hl : ys.length = xs.length) :
    Calls P F #[.slice (some ⟨b, 0, none⟩) xs.length cur.size, .int .i64 k] w fun ex w' => ex = .returned (.int .i64 r) ∧ w'.os = w.os ∧ w'.tape = w.tape ∧ w'.output = w.output ∧ w.heap.size ≤ w'.heap.size ∧ (∀ k, k < w.heap.size → k ≠ b → w'.heap[k]? = w.heap[k]?) ∧
      ∃ cur', w'.heap[b]? = some (.cells cur' e (0, 0)) ∧ cur'.size = cur.size ∧ ∀ (j : Nat) (h : j < ys.length), cur'[j]? = some (.int .i64 (ys[j]'h)) := by
  have hbl := lt_of_heap hb
  refine (hA.2 w [b] (fun _ => False) [.slice (some ⟨b, 0, none⟩) xs.length cur.size, .int .i64 k] ⟨rfl, by simp, fun c hc => by simp at hc; omega, fun c hc => hc.elim, fun i c q h1 h2 => ?_⟩ ⟨_, _, rfl, ⟨b, e, .int, xs, cur, rfl, rfl, hb, rfl⟩, _, _, rfl, rfl, rfl⟩).mono ?_
  · match i, h1, h2 with
    | 0, h1, h2 =>
      simp at h1 h2; subst h1; subst h2
      exact ⟨fun h => h, cur, hb, hle, hmx, fun j hj => ⟨_, hc j hj, rfl⟩, trivial⟩
    | i + 1, h1, _ => simp at h1
  · rintro ex w' ⟨rv, bs', A', rfl, hrok, hres, hstep, ⟨new, rfl⟩, hstay, _⟩
    have hnew : new = [] := List.eq_nil_of_length_eq_zero (by have h9 := hrok.len; rw [List.length_append] at h9; simp only [List.length_cons, List.length_nil] at h9; omega)
    subst hnew
    have hrv : rv = .int .i64 r := hres
    subst hrv
    obtain ⟨cur', g1, g2⟩ := hstay b (by simp) cur e hb
    obtain ⟨_, cur2, c1, _, _, c4⟩ := hrok.row 0 b _ rfl rfl
    rw [g1] at c1; cases c1
    refine ⟨rfl, hstep.os, hstep.tape, hstep.output, hstep.size, fun k hk hn => hstep.block k hk (by simpa using hn), cur', g1, g2, fun j hj => ?_⟩
    obtain ⟨cv, k1, k2⟩ := c4.c j hj
    rw [k1]; exact congrArg some k2
/-- pool i is written to, block by block of it -/
theorem LSat.write (hs : LSat w0 n0 w ps vals a N st) {i : Nat} {S : Nat → Prop} {p q : Pool} {v : Value} (hS : ps[i]? = some S) (hp : st.pools[i]? = some p) (hv : vals[i]? = some v) (hq : PV w' S q.t q.x v)
    (h1 : w'.os = w.os) (h2 : w'.tape = w.tape) (h3 : w'.output = w.output) (h4 : w.heap.size ≤ w'.heap.size) (h5 : ∀ b, b < w.heap.size → ¬ S b → w'.heap[b]? = w.heap[b]?) {env' : List (Nat × LV)}
    (he : ∀ t, LVal n0 w' vals (st.pools.set i q) (lookL env' t) (a.tmps.getD t undef)) : LSat w0 n0 w' ps vals a N ⟨env', st.pools.set i q⟩ where
  n := hs.n
  os := h1.trans hs.os
  tape := h2.trans hs.tape
  output := h3.trans hs.output
  sz := Nat.le_trans hs.sz h4
  fr := fun b hb hn => (h5 b (Nat.lt_of_lt_of_le hb hs.sz) (hn S (List.mem_of_getElem? hS))).trans (hs.fr b hb hn)
  l1 := by simp [hs.l1]
  l2 := by simp [hs.l2]
  lt := fun j T hT b hb => ⟨(hs.lt j T hT b hb).1, Nat.lt_of_lt_of_le (hs.lt j T hT b hb).2 h4⟩
  dis := hs.dis
  pv := fun j T u x hT hu hx => by
    by_cases e : i = j
    · subst e
      rw [hS] at hT; cases hT
      rw [hv] at hx; cases hx
      have hil := (List.getElem?_eq_some_iff.1 hp).1
      simp only [List.getElem?_set_self hil] at hu
      cases hu
      exact hq
    · simp only [List.getElem?_set_ne e] at hu
      exact PV.ext (fun b hb hl => ⟨h5 b hl (fun hSb => hs.dis i j S T hS hT e b hSb hb), hb⟩) (hs.pv j T u x hT hu hx)
  env := he
  size := hs.size
  dfs := hs.dfs
/-- a call -/
theorem lCall_ok (hs : LSat w0 n0 w ps vals a N st) {o : Oper} {K : LSt → Prop} {Kc : Act → World → Prop} {Q : Exit → Act → World → Prop} (hK : NxL w0 n0 N ps vals K Kc) {c : Call} {F : FuncId} (hop : o.op = .call c) (hc : c.callee = .value (.func F))
    (h : lCall P N o.dst st F (c.args.toList.map (evL st.env)) K) : o.wp P a w Kc Q := by
  have hvs : ∀ l : List Operand, ∀ (j : Nat) (x : LV), (l.map (evL st.env))[j]? = some x → ∃ v, (l.map a.eval)[j]? = some v ∧ LVal n0 w vals st.pools x v := fun l j x hx => by
    rw [List.getElem?_map] at hx ⊢
    cases hl : l[j]? with
    | none => rw [hl] at hx; cases hx
    | some y =>
      rw [hl] at hx
      simp at hx
      exact ⟨a.eval y, rfl, hx ▸ evL_ok hs y⟩
  have ent : Runs P F → ∀ {R : Ending → World → Prop}, Calls P F (c.args.toList.map a.eval).toArray w R → (∀ e w', R e w' → ∃ rv, e = .returned rv ∧ Kc (a.put o.dst rv) w') → o.wp P a w Kc Q := fun hr R hcalls hR => by
    unfold Oper.wp
    rw [run_lcall hop hc hr, Oper.upon_enter]
    refine hcalls.mono fun e w' he => ?_
    obtain ⟨rv, rfl, hk⟩ := hR e w' he
    exact hk
  have two : ∀ {x y : LV}, c.args.toList.map (evL st.env) = [x, y] → ∃ v1 v2, c.args.toList.map a.eval = [v1, v2] ∧ LVal n0 w vals st.pools x v1 ∧ LVal n0 w vals st.pools y v2 := fun {x y} he => by
    have h0 := hvs c.args.toList 0 x (by rw [he]; rfl)
    have h1 := hvs c.args.toList 1 y (by rw [he]; rfl)
    obtain ⟨v1, g1, g2⟩ := h0
    obtain ⟨v2, g3, g4⟩ := h1
    have hlen : (c.args.toList.map a.eval).length = 2 := by rw [List.length_map, ← List.length_map (f := evL st.env), he]; rfl
    refine ⟨v1, v2, ?_, g2, g4⟩
    match hl : c.args.toList.map a.eval, hlen with
    | [u1, u2], _ =>
      rw [hl] at g1 g3
      simp at g1 g3
      rw [g1, g3]
  have hld : ∀ {i : Nat} {p : Pool}, st.pools[i]? = some p → ∃ S, ps[i]? = some S := fun {i p} hp => ⟨ps[i]'(by rw [hs.l1]; exact (List.getElem?_eq_some_iff.1 hp).1), List.getElem?_eq_getElem _⟩
  have fint : ∀ {s : Bool} {k : Int} {v : Value}, LVal n0 w vals st.pools (.f (.d s .int k)) v → v = .int .i64 k := fun {s k v} hv => by
    obtain ⟨u, h1, h2⟩ := hv
    cases h1; exact h2
  unfold lCall at h
  obtain ⟨md, h⟩ := h
  split at h
  · obtain ⟨res, rows', ⟨hruns, hAC⟩, h⟩ := h
    have hargs := args_ok hs c.args.toList
    refine ent hruns (hAC w [] (fun _ => False) _ (rok0 w) hargs) ?_
    rintro e w' ⟨rv, bs', A', rfl, hrok, hres, hstep, _, _, _⟩
    refine ⟨rv, rfl, ?_⟩
    have hg : Grw w w' := ⟨hstep.os, hstep.tape, hstep.output, hstep.size, fun k hk => hstep.block k hk (by simp)⟩
    have hbs : ∀ b ∈ bs', w.heap.size ≤ b := fun b hb => by
      rcases hstep.sbs b hb with h1 | h1
      · simp at h1
      · exact h1
    have hA : ∀ b, A' b → w.heap.size ≤ b := fun b hb => by
      rcases hstep.sA b hb with h1 | h1 | h1
      · exact h1.elim
      · exact h1
      · simp at h1
    unfold lRes at h
    split at h
    · rename_i r
      split at h
      · rename_i x q hnew
        obtain ⟨ps', vals', k1, k2, k3, k4⟩ := newL_ok hs hg hrok hbs hA (show V w' bs' A' rows' r rv from hres) hnew
        obtain ⟨y, k5, k6⟩ := splL_ok k4 h
        exact hK.of k1 k2 k3 k5 k6
      · exact h.elim
    · rename_i r t y
      obtain ⟨hf, h⟩ := h
      split at h
      · rename_i x q hnew
        obtain ⟨vs, rfl, v1, r1, rfl, hv1, v2, r2, rfl, hv2, rfl⟩ := (show ∃ vs : List Value, rv = .tuple vs.toArray ∧ Vs w' bs' A' rows' [r, .d true t y] vs from hres)
        obtain ⟨ps', vals', k1, k2, k3, k4⟩ := newL_ok hs hg hrok hbs hA hv1 hnew
        refine hK.of k1 k2 k3 (x := .two x (.f (.d true t y))) ⟨v1, v2, rfl, k4, ?_⟩ h
        have hv2 : Rd w' A' t y v2 := hv2
        cases t <;> first | exact ⟨_, rfl, hv2⟩ | (simp [Ty.flat] at hf)
      · exact h.elim
    · exact h.elim
  · split at h
    · rename_i i s k he
      split at h
      · rename_i e xss hp
        obtain ⟨r, yss, ⟨hruns, hmc⟩, hlen, h⟩ := h
        obtain ⟨v1, v2, hl, g1, g2⟩ := two he
        obtain ⟨S, hS⟩ := hld hp
        have g1 : vals[i]? = some v1 := g1
        have hpv : PVS w S e true xss v1 := hs.pv i S _ v1 hS hp g1
        have hcalls := hmc w S v1 (fun b hb => (hs.lt i S hS b hb).2) hpv
        refine ent hruns (R := fun ex w' => ex = .returned (.int .i64 r) ∧ PVS w' S e true yss v1 ∧ w'.os = w.os ∧ w'.tape = w.tape ∧ w'.output = w.output ∧ w.heap.size ≤ w'.heap.size ∧ ∀ b, b < w.heap.size → ¬ S b → w'.heap[b]? = w.heap[b]?) (by rw [hl, fint g2]; exact hcalls) ?_
        rintro ex w' ⟨rfl, q1, q2, q3, q4, q5, q6⟩
        refine ⟨_, rfl, ?_⟩
        refine hK.of (hs.write (q := ⟨.sl (.sw e true), yss⟩) (env' := killLE st.env) hS hp g1 q1 q2 q3 q4 q5 q6 fun t => ?_) (Ext1.refl _) (Ext1.refl _) (x := .f (I r)) ⟨_, rfl, rfl⟩ h
        rw [lookL_kill]
        exact LVal.kill (fun b hb hl => q6 b hl fun hSb => by have := (hs.lt i S hS b hSb).1; omega) (hs.env t)
      · exact h.elim
    · exact h.elim
  · split at h
    · rename_i i s k he
      split at h
      · rename_i e d xs hp
        obtain ⟨r, ys, hAC, hlen, hne, h⟩ := h
        obtain ⟨v1, v2, hl, g1, g2⟩ := two he
        obtain ⟨S, hS⟩ := hld hp
        have g1 : vals[i]? = some v1 := g1
        have hpv : RdW w S e xs v1 := hs.pv i S _ v1 hS hp g1
        rcases hpv with ⟨hx, _⟩ | ⟨_, b, cur, rfl, hSb, hb, hle, hmx, hcc⟩
        · exact (hne hx).elim
        have hcalls := mark_row hAC hb hle hmx hcc hlen
        refine ent hAC.1 (by rw [hl, fint g2]; exact hcalls) ?_
        rintro ex w' ⟨rfl, q2, q3, q4, q5, q6, cur', q7, q8, q9⟩
        refine ⟨_, rfl, ?_⟩
        refine hK.of (hs.write (q := ⟨.sw e d, ys⟩) (env' := killLE st.env) hS hp g1 ?_ q2 q3 q4 q5 (fun b2 hb2 hn => q6 b2 hb2 (fun e => hn (e ▸ hSb))) fun t => ?_) (Ext1.refl _) (Ext1.refl _) (x := .f (I r)) ⟨_, rfl, rfl⟩ h
        · have hyn : ys ≠ [] := fun hh => hne (List.eq_nil_of_length_eq_zero (by rw [← hlen, hh]; rfl))
          have hfin : RdW w' S e ys (.slice (some ⟨b, 0, none⟩) (List.length xs) cur.size) := .inr ⟨hyn, b, cur', by rw [hlen, q8], hSb, q7, by omega, by omega, q9⟩
          exact hfin
        · rw [lookL_kill]
          exact LVal.kill (fun b2 hb2 hl2 => q6 b2 hl2 fun e => by have := (hs.lt i S hS b hSb).1; omega) (hs.env t)
      · exact h.elim
    · exact h.elim
  · split at h
    · rename_i i j s k he
      split at h
      · rename_i e xss hp
        obtain ⟨r, ys, hAC, hlen, hne, h⟩ := h
        obtain ⟨v1, v2, hl, g1, g2⟩ := two he
        obtain ⟨S, hS⟩ := hld hp
        obtain ⟨e', d', xss', pv, b, cap, m1, m2, m3, m4, m5⟩ := g1
        rw [hp] at m1; cases m1
        have hpv : PVS w S e true xss pv := hs.pv i S _ pv hS hp m2
        have hgd : xss.getD j [] = xss[j] := getD_get _ _ _ m3
        rw [hgd] at hAC hlen hne
        rcases hpv with ⟨hx, _⟩ | ⟨b', cur, E, k1, k2, k3, k4, k5⟩
        · rw [hx] at m3; simp at m3
        have k1' := k1
        rw [m4] at k1'
        simp only [Value.slice.injEq, Option.some.injEq, Addr.mk.injEq] at k1'
        obtain ⟨⟨rfl, _⟩, _, _⟩ := k1'
        obtain ⟨cv, q1, q2⟩ := k5.c j m3
        have hcell := m5
        rw [cell_of_row w b j cur E (0, 0) k3, q1] at hcell
        cases hcell
        rcases q2 with ⟨hx, _⟩ | ⟨_, cb, curc, rfl, hSc, hcb, hle, hmx, hcc⟩
        · exact (hne hx).elim
        have hcalls := mark_row hAC hcb hle hmx hcc hlen
        refine ent hAC.1 (by rw [hl, fint g2]; exact hcalls) ?_
        rintro ex w' ⟨rfl, t2, t3, t4, t5, t6, cur', t7, t8, t9⟩
        refine ⟨_, rfl, ?_⟩
        have htop : w'.heap[b]? = some (.cells cur E (0, 0)) := (t6 b (lt_of_heap k3) (fun e => hSc.2 e.symm)).trans k3
        refine hK.of (hs.write (q := ⟨.sl (.sw e true), xss.set j ys⟩) (env' := st.env) hS hp m2 ?_ t2 t3 t4 t5 (fun b2 hb2 hn => t6 b2 hb2 (fun e => hn (e ▸ hSc.1))) fun t => ?_) (Ext1.refl _) (Ext1.refl _) (x := .f (I r)) ⟨_, rfl, rfl⟩ h
        · have hsl : (xss.set j ys).length = xss.length := List.length_set
          refine .inr ⟨b, cur, E, by rw [hsl]; exact k1, k2, htop, by rw [hsl]; exact k4, fun j2 hj2 => ?_, by rw [hsl]; exact k5.d⟩
          have hj2' : j2 < xss.length := by have h9 := hj2; rw [hsl] at h9; exact h9
          by_cases ej : j = j2
          · subst ej
            refine ⟨_, q1, ?_⟩
            have e2 : (xss.set j ys)[j]'hj2 = ys := List.getElem_set_self (h := hj2)
            rw [e2]
            exact .inr ⟨fun hh => hne (List.eq_nil_of_length_eq_zero (by rw [← hlen, hh]; rfl)), cb, cur', by rw [hlen, t8], hSc, t7, by omega, by omega, t9⟩
          · obtain ⟨cv2, u1, u2⟩ := k5.c j2 hj2'
            refine ⟨cv2, u1, ?_⟩
            rw [List.getElem_set_ne ej]
            rcases u2 with u2 | ⟨hn2, cb2, curc2, rfl, hS2, hcb2, u3⟩
            · exact .inl u2
            · have hne2 : cb2 ≠ cb := by
                have hl1 : (List.length xss[j]) ≠ 0 := fun hh => hne (List.eq_nil_of_length_eq_zero hh)
                have hl2 : (List.length xss[j2]) ≠ 0 := fun hh => hn2 (List.eq_nil_of_length_eq_zero hh)
                have hd : DstV cur xss.length := k5.d
                rcases Nat.lt_or_gt_of_ne ej with h12 | h12
                · exact fun e => hd j j2 h12 hj2' _ _ _ _ _ _ q1 u1 hl1 hl2 e.symm
                · exact fun e => hd j2 j h12 m3 _ _ _ _ _ _ u1 q1 hl2 hl1 e
              exact .inr ⟨hn2, cb2, curc2, rfl, hS2, (t6 cb2 (lt_of_heap hcb2) hne2).trans hcb2, u3⟩
        · refine LVal.step (fun b2 hb2 hl2 => t6 b2 hl2 fun e => by have := (hs.lt i S hS cb hSc.1).1; omega) (fun _ _ h => h) (fun q e' d xss' hq => ?_) (fun q e' d xss' b2 cap2 j2 u hq hvq hj2 hc => ?_) (hs.env t)
          · by_cases eq : i = q
            · subst eq
              rw [hp] at hq; cases hq
              exact ⟨xss.set j ys, List.getElem?_set_self (List.getElem?_eq_some_iff.1 hp).1, List.length_set⟩
            · exact ⟨xss', by rw [List.getElem?_set_ne eq]; exact hq, rfl⟩
          · have hb2 := cell_lt hc
            refine (cell_of_block (t6 b2 hb2 ?_)).trans hc
            obtain ⟨T, hT⟩ := hld hq
            have hpq : PVS w T e' d xss' _ := hs.pv q T _ _ hT hq hvq
            rcases hpq with ⟨hx, _⟩ | ⟨b3, cur3, E3, v1, v2, v3, _⟩
            · rw [hx] at hj2; simp at hj2
            simp only [Value.slice.injEq, Option.some.injEq, Addr.mk.injEq] at v1
            obtain ⟨⟨rfl, _⟩, _, _⟩ := v1
            by_cases eq : i = q
            · subst eq
              rw [hp] at hq; cases hq
              rw [m2] at hvq
              simp only [Option.some.injEq, m4, Value.slice.injEq, Addr.mk.injEq] at hvq
              obtain ⟨⟨rfl, _⟩, _⟩ := hvq
              exact fun e => hSc.2 e.symm
            · exact fun e => hs.dis i q S T hS hT eq cb hSc.1 (e ▸ v2)
      · exact h.elim
    · exact h.elim
theorem lOp_ok (hτ : TyOk P τ) (hs : LSat w0 n0 w ps vals a N st) {o : Oper} {K : LSt → Prop} {Kc : Act → World → Prop} {Q : Exit → Act → World → Prop} (hK : NxL w0 n0 N ps vals K Kc) (h : lOp P τ N st o K) : o.wp P a w Kc Q := by
  have r1 := Ext1.refl ps
  have r2 := Ext1.refl vals
  have hsat := hs.sat
  have pure : pOp τ ⟨cvE st.pools st.env, []⟩ o.op (fun av => flK av (lput N o.dst (.f av) st K)) → o.wp P a w Kc Q := fun h => by
    obtain ⟨v, av, h1, h2, hflk⟩ := pOp_ok hτ hsat h
    obtain ⟨hfl, h3⟩ := flK_ok hflk
    refine wp_of_run (h1 w (Ext.refl w)) (hK.of hs r1 r2 (x := .f av) ?_ h3)
    cases hx : flatV av with
    | none => rw [hx] at hfl; simp at hfl
    | some u => exact ⟨u, hx, flatV_ok hx h2⟩
  unfold lOp at h
  split at h
  · rename_i x hop
    exact wp_of_run (v := a.eval x) (w' := w) (by simp only [execOp, hop]; rfl) (hK.of hs r1 r2 (evL_ok hs x) h)
  · rename_i x hop
    exact wp_of_run (v := a.eval x) (w' := w) (by simp only [execOp, hop]; rfl) (hK.of hs r1 r2 (evL_ok hs x) h)
  · rename_i x i hop
    have hx := evL_ok hs x
    have ex : ∀ {v u : Value} {i : Nat}, a.eval x = v → (∃ b c, v = .tuple #[b, c] ∧ #[b, c][i]? = some u) → o.op = .extract x i → (execOp a.eval o).run P w = .ok (.value u) w := by
      rintro v u i he ⟨b, c, rfl, hu⟩ hop
      simp only [execOp, hop, he, Instr.extract]
      rw [hu]
      rfl
    split at h
    · rename_i y z he
      rw [he] at hx
      obtain ⟨b, c, hv, hy, hz⟩ := hx
      obtain ⟨y', k1, k2⟩ := splL_ok hy h
      exact wp_of_run (ex hv ⟨b, c, rfl, rfl⟩ hop) (hK.of hs r1 r2 k1 k2)
    · rename_i y z he
      rw [he] at hx
      obtain ⟨b, c, hv, hy, hz⟩ := hx
      obtain ⟨y', k1, k2⟩ := splL_ok hz h
      exact wp_of_run (ex hv ⟨b, c, rfl, rfl⟩ hop) (hK.of hs r1 r2 k1 k2)
    · exact h.elim
  · rename_i T x i hop
    have hx := evL_ok hs x
    have hi := evL_ok hs i
    split at h
    · rename_i t e q s n hT hxe hie
      rw [hxe] at hx
      rw [hie] at hi
      obtain ⟨u, hu, hiv⟩ := hi
      cases hu
      split at h
      · rename_i e0 d xss hp
        obtain ⟨j, rfl, hj, h⟩ := h
        have hx : vals[q]? = some (a.eval x) := hx
        have hS : ps[q]? = some (ps[q]'(by rw [hs.l1]; exact (List.getElem?_eq_some_iff.1 hp).1)) := List.getElem?_eq_getElem _
        have hpv : PVS w _ e0 d xss (a.eval x) := hs.pv q _ _ _ hS hp hx
        rcases hpv with ⟨hx0, _⟩ | ⟨b, cur, E, k1, k2, k3, k4, k5⟩
        · rw [hx0] at hj; simp at hj
        · refine wp_of_run (v := .pointer (some ⟨b, 0 + j, none⟩)) (w' := w) ?_ (hK.of hs r1 r2 (x := .pe q j) ⟨e0, d, xss, _, b, cur.size, hp, hx, hj, k1, by rw [Nat.zero_add]⟩ h)
          simp only [execOp, hop, Sem.run_bind]
          rw [k1, hiv, run_idx_slice hτ hT b 0 _ _ j hj w]
          rfl
      · exact h.elim
    · exact h.elim
  · rename_i T x hop
    have hx := evL_ok hs x
    split at h
    · rename_i t e q j hT hxe
      rw [hxe] at hx
      obtain ⟨e0, d, xss, pv, b, cap, h1, h2, h3, h4, h5⟩ := hx
      have hS : ps[q]? = some (ps[q]'(by rw [hs.l1]; exact (List.getElem?_eq_some_iff.1 h1).1)) := List.getElem?_eq_getElem _
      have hpv : PVS w _ e0 d xss pv := hs.pv q _ _ _ hS h1 h2
      rcases hpv with ⟨hx0, _⟩ | ⟨b', cur, E, k1, k2, k3, k4, k5⟩
      · rw [hx0] at h3; simp at h3
      · have k1' := k1
        rw [h4] at k1'
        simp only [Value.slice.injEq, Option.some.injEq, Addr.mk.injEq] at k1'
        obtain ⟨⟨rfl, _⟩, _, _⟩ := k1'
        obtain ⟨cv, g1, g2⟩ := k5.c j h3
        have hcell : w.cell? ⟨b, j, none⟩ = some cv := by rw [cell_of_row w b j cur E (0, 0) k3]; exact g1
        refine wp_of_run (v := cv) (w' := w) ?_ (hK.of hs r1 r2 (x := .pi q j) ⟨e0, d, xss, pv, b, cap, h1, h2, h3, h4, hcell⟩ h)
        simp only [execOp, hop, Sem.run_bind]
        rw [h5, run_loadOne hτ hT hcell]
        rfl
    · exact h.elim
  · rename_i c hop
    split at h
    · rename_i F hc
      exact lCall_ok hs hK hop hc h
    · exact h.elim
    · exact pure h
  · exact pure h
theorem lOps_ok (hτ : TyOk P τ) {all : Array Oper} {K : LSt → Prop} {Q : Exit → Act → World → Prop} : ∀ (l : List Oper) {w : World} {ps : List (Nat → Prop)} {vals : List Value} {a : Act} {st : LSt}, LSat w0 n0 w ps vals a N st →
    NxL w0 n0 N ps vals K (Q .normal) → lOps P τ N all l st K → wpList P all Q l a w
  | [], w, ps, vals, a, st, hs, hK, h => hK _ _ _ _ _ hs (Ext1.refl _) (Ext1.refl _) h
  | o :: r, w, ps, vals, a, st, hs, hK, h => by
    have rest : NxL w0 n0 N ps vals (fun st' => lOps P τ N all r st' K) (wpList P all Q r) := fun w1 ps1 vals1 a1 st1 h1 h2 h3 h4 => lOps_ok hτ r h1 (fun w2 ps2 vals2 a2 st2 k1 k2 k3 k4 => hK _ _ _ _ _ k1 (h2.trans k2) (h3.trans k3) k4) h4
    have hsat := hs.sat
    unfold lOps at h
    unfold wpList
    split at h
    · rename_i hg
      rw [if_pos (by simp [Region.wanted, hg])]
      exact .inl (lOp_ok hτ hs rest h)
    · rename_i j want hg
      obtain ⟨b, hb, ⟨h1, h⟩ | ⟨h1, h⟩⟩ := gsel_ok h
      · rw [if_pos (by rw [wanted_ok hsat hg hb, h1])]
        exact .inl (lOp_ok hτ hs rest h)
      · rw [if_neg (by rw [wanted_ok hsat hg hb, h1]; simp)]
        exact rest.of hs (Ext1.refl _) (Ext1.refl _) (x := .u) rfl h
def NxLE (w0 : World) (n0 N : Nat) (ps : List (Nat → Prop)) (vals : List Value) (Q : Exit → LSt → Prop) (R : Exit → Act → World → Prop) : Prop :=
  ∀ e w' ps' vals' a' st', LSat w0 n0 w' ps' vals' a' N st' → Ext1 ps ps' → Ext1 vals vals' → Q e st' → R e a' w'
theorem NxLE.trans {Q : Exit → LSt → Prop} {R : Exit → Act → World → Prop} (h : NxLE w0 n0 N ps vals Q R) {ps' : List (Nat → Prop)} {vals' : List Value} (h1 : Ext1 ps ps') (h2 : Ext1 vals vals') : NxLE w0 n0 N ps' vals' Q R :=
  fun e w2 ps2 vals2 a2 st2 k1 k2 k3 k4 => h e w2 ps2 vals2 a2 st2 k1 (h1.trans k2) (h2.trans k3) k4
theorem LSat.sub (hs : LSat w0 n0 w ps vals a N st) {st' : LSt} (h1 : st.pools = st'.pools) (h2 : ∀ t, lookL st'.env t = .any ∨ lookL st'.env t = lookL st.env t) : LSat w0 n0 w ps vals a N st' := by
  refine { hs with l1 := by rw [← h1]; exact hs.l1, l2 := by rw [← h1]; exact hs.l2, pv := by rw [← h1]; exact hs.pv, env := fun t => ?_, dfs := hs.dfs }
  rw [← h1]
  rcases h2 t with h | h
  · rw [h]; trivial
  · rw [h]; exact hs.env t
theorem subL_ok {env : List (Nat × LV)} : ∀ {l : List (Nat × LV)}, subL env l → ∀ t, lookL l t = .any ∨ lookL l t = lookL env t
  | [], _, t => .inl rfl
  | (u, x) :: l, h, t => by
    rw [lookL_cons]
    by_cases e : u = t
    · subst e
      rw [if_pos rfl]
      exact .inr h.1.symm
    · rw [if_neg e]
      exact subL_ok h.2 t
theorem lwC_ok (hτ : TyOk P τ) : ∀ (c : Code) {Q : Exit → LSt → Prop} {R : Exit → Act → World → Prop} {w : World} {ps : List (Nat → Prop)} {vals : List Value} {a : Act} {st : LSt}, LSat w0 n0 w ps vals a N st → NxLE w0 n0 N ps vals Q R → lwC P τ N c st Q → c.wp P R a w
  | .skip, Q, R, w, ps, vals, a, st, hs, hR, h => wp_skip (hR _ _ _ _ _ _ hs (Ext1.refl _) (Ext1.refl _) h)
  | .region id ops false, Q, R, w, ps, vals, a, st, hs, hR, h =>
    wp_region_list (lOps_ok hτ ops.toList hs (fun w' ps' vals' a' st' h1 h2 h3 h4 => hR .normal w' ps' vals' a' st' h1 h2 h3 h4) h)
  | .region id ops true, Q, R, w, ps, vals, a, st, hs, hR, h => h.elim
  | .seq x y, Q, R, w, ps, vals, a, st, hs, hR, h =>
    wp_seq (lwC_ok hτ x hs (fun e w' ps' vals' a' st' h1 h2 h3 h4 => by
      cases e with
      | normal => exact lwC_ok hτ y h1 (hR.trans h2 h3) h4
      | exit i => exact hR _ _ _ _ _ _ h1 h2 h3 h4
      | goto l => exact hR _ _ _ _ _ _ h1 h2 h3 h4
      | ret => exact hR _ _ _ _ _ _ h1 h2 h3 h4
      | panic c => exact hR _ _ _ _ _ _ h1 h2 h3 h4
      | outgrown => exact hR _ _ _ _ _ _ h1 h2 h3 h4) h)
  | .cond c x y, Q, R, w, ps, vals, a, st, hs, hR, h => by
    have hc := evL_ok hs c
    unfold lwC at h
    split at h
    · rename_i sh b he
      rw [he] at hc
      obtain ⟨u, hu, hv⟩ := hc
      cases hu
      cases b
      · exact wp_cond_false hv (lwC_ok hτ y hs hR h)
      · exact wp_cond_true hv (lwC_ok hτ x hs hR h)
    · exact h.elim
  | .block id c, Q, R, w, ps, vals, a, st, hs, hR, h =>
    wp_block (lwC_ok hτ c hs (fun e w' ps' vals' a' st' h1 h2 h3 h4 => by
      cases e with
      | normal => exact hR _ _ _ _ _ _ h1 h2 h3 h4
      | exit i =>
        simp only [blkL] at h4
        simp only [Exit.inBlock]
        split at h4
        · rename_i hb
          rw [if_pos (Nat.eq_of_beq_eq_true hb)]
          exact hR _ _ _ _ _ _ h1 h2 h3 h4
        · rename_i hb
          rw [if_neg (fun e => by subst e; simp at hb)]
          exact hR _ _ _ _ _ _ h1 h2 h3 h4
      | goto l => exact hR _ _ _ _ _ _ h1 h2 h3 h4
      | ret => exact hR _ _ _ _ _ _ h1 h2 h3 h4
      | panic c => exact hR _ _ _ _ _ _ h1 h2 h3 h4
      | outgrown => exact hR _ _ _ _ _ _ h1 h2 h3 h4) h)
  | .loop c, Q, R, w, ps, vals, a, st, hs, hR, h => by
    obtain ⟨ι, J, Inv, μ, i0, hi0, ⟨h0, h0'⟩, hround⟩ := h
    refine wp_loop_ghost (fun n a' w' => ∃ i ps' vals', μ i = n ∧ Inv i ∧ LSat w0 n0 w' ps' vals' a' N (J i) ∧ Ext1 ps ps' ∧ Ext1 vals vals') (μ i0) ⟨i0, ps, vals, rfl, hi0, hs.sub h0 (subL_ok h0'), Ext1.refl _, Ext1.refl _⟩ ?_
    rintro n a' w' ⟨i, ps', vals', rfl, hi, k1, k2, k3⟩
    refine lwC_ok hτ c k1 (fun e w2 ps2 vals2 a2 st2 h1 h2 h3 h4 => ?_) (hround i hi)
    cases e with
    | normal =>
      obtain ⟨j, hij, hj, hp, hsub⟩ := h4
      exact ⟨μ j, hj, j, ps2, vals2, rfl, hij, h1.sub hp (subL_ok hsub), k2.trans h2, k3.trans h3⟩
    | exit i => exact hR _ _ _ _ _ _ h1 (k2.trans h2) (k3.trans h3) h4
    | goto l => exact hR _ _ _ _ _ _ h1 (k2.trans h2) (k3.trans h3) h4
    | ret => exact hR _ _ _ _ _ _ h1 (k2.trans h2) (k3.trans h3) h4
    | panic c => exact hR _ _ _ _ _ _ h1 (k2.trans h2) (k3.trans h3) h4
    | outgrown => exact hR _ _ _ _ _ _ h1 (k2.trans h2) (k3.trans h3) h4
  | .exit id, Q, R, w, ps, vals, a, st, hs, hR, h => wp_exit (hR _ _ _ _ _ _ hs (Ext1.refl _) (Ext1.refl _) h)
  | .ret, Q, R, w, ps, vals, a, st, hs, hR, h => wp_ret (hR _ _ _ _ _ _ hs (Ext1.refl _) (Ext1.refl _) h)
  | .rangeFunc _ _ _ _, Q, R, w, ps, vals, a, st, hs, hR, h => h.elim
  | .scope _, Q, R, w, ps, vals, a, st, hs, hR, h => h.elim
  | .label _, Q, R, w, ps, vals, a, st, hs, hR, h => h.elim
  | .goto _, Q, R, w, ps, vals, a, st, hs, hR, h => h.elim
  | .refuse _, Q, R, w, ps, vals, a, st, hs, hR, h => h.elim
end

def envL : Nat → List LV → List (Nat × LV)
  | _, [] => []
  | i, x :: l => (i, x) :: envL (i + 1) l
theorem look_envL : ∀ (l : List LV) (i t : Nat), lookL (envL i l) t = if i ≤ t then (l[t - i]?).getD .any else .any
  | [], i, t => by simp [envL, lookL]
  | x :: l, i, t => by
    rw [envL, lookL_cons, look_envL l (i + 1) t]
    by_cases e : i = t
    · subst e; simp
    · rw [if_neg e]
      by_cases h : i + 1 ≤ t
      · rw [if_pos h, if_pos (by omega)]
        have : t - i = (t - (i + 1)) + 1 := by omega
        rw [this]; simp
      · rw [if_neg h, if_neg (by omega)]
def LVals (n0 : Nat) (w : World) (vals : List Value) (pools : List Pool) : List LV → List Value → Prop
  | [], vs => vs = []
  | x :: l, vs => ∃ v r, vs = v :: r ∧ LVal n0 w vals pools x v ∧ LVals n0 w vals pools l r
theorem LVals.get {n0 : Nat} {w : World} {vals : List Value} {pools : List Pool} : ∀ {l : List LV} {vs : List Value} {i : Nat} {x : LV}, LVals n0 w vals pools l vs → l[i]? = some x → ∃ v, vs[i]? = some v ∧ LVal n0 w vals pools x v
  | [], _, i, x, _, h => by simp at h
  | y :: l, _, 0, x, hv, h => by
    obtain ⟨v, r, rfl, h1, _⟩ := hv
    simp at h; subst h
    exact ⟨v, rfl, h1⟩
  | y :: l, _, i + 1, x, hv, h => by
    obtain ⟨v, r, rfl, _, h2⟩ := hv
    obtain ⟨u, h3, h4⟩ := LVals.get h2 (by simpa using h)
    exact ⟨u, by simpa using h3, h4⟩
theorem LVals.len {n0 : Nat} {w : World} {vals : List Value} {pools : List Pool} : ∀ {l : List LV} {vs : List Value}, LVals n0 w vals pools l vs → vs.length = l.length
  | [], _, h => by cases h; rfl
  | _ :: _, _, h => by obtain ⟨v, r, rfl, _, h2⟩ := h; simp [LVals.len h2]
/-- what is true at the end of a function of one result -/
def LRet (r : Nat) (x : LV) (pools : LSt → Prop) : Exit → LSt → Prop
  | .normal, st => lookL st.env r = x ∧ pools st
  | .ret, st => lookL st.env r = x ∧ pools st
  | _, _ => False
/-- a function, walked -/
theorem LC_of {P : Program} {τ : Nat → TI} (hτ : TyOk P τ) {f : FuncId} {fn : Func} {c : Code} (N r n0 : Nat) (hf : P.funcs[f]? = some fn) (hb : fn.body = some c) (hn : (fn.name == "runtime.NumGoroutine") = false) (hN : fn.ntmps = N) {args : List LV} {pools : List Pool} {x : LV} {q : LSt → Prop}
    (hargs : Nat.ble args.length N = true) (hres : fn.results = #[ResultVar.tmp r]) (h : lwC P τ N c ⟨envL 0 args, pools⟩ (LRet r x q)) {w : World} {ps : List (Nat → Prop)} {vals vs : List Value}
    (hle : n0 ≤ w.heap.size) (hps : ps.length = pools.length) (hvl : vals.length = pools.length) (hlt : ∀ (i : Nat) (S : Nat → Prop), ps[i]? = some S → ∀ b, S b → n0 ≤ b ∧ b < w.heap.size)
    (hdis : ∀ (i j : Nat) (S T : Nat → Prop), ps[i]? = some S → ps[j]? = some T → i ≠ j → ∀ b, S b → ¬ T b) (hpv : ∀ (i : Nat) (S : Nat → Prop) (p : Pool) (v : Value), ps[i]? = some S → pools[i]? = some p → vals[i]? = some v → PV w S p.t p.x v) (hvs : LVals n0 w vals pools args vs) :
    Calls P f vs.toArray w fun e w' => ∃ v ps' vals' a' st', e = .returned v ∧ LSat w n0 w' ps' vals' a' N st' ∧ Ext1 ps ps' ∧ Ext1 vals vals' ∧ LVal n0 w' vals' st'.pools x v ∧ q st' := by
  have hargs' := Nat.le_of_ble_eq_true hargs
  have hlen := hvs.len
  refine calls_of_wp hf hb ?_
  have hs : LSat w n0 w ps vals { tmps := vs.toArray ++ Array.replicate (fn.ntmps - vs.toArray.size) undef, defers := [] } N ⟨envL 0 args, pools⟩ := by
    refine { n := hle, os := rfl, tape := rfl, output := rfl, sz := Nat.le_refl _, fr := fun _ _ _ => rfl, l1 := hps, l2 := hvl, lt := hlt, dis := hdis, pv := hpv, env := fun t => ?_, size := by simp; omega, dfs := rfl }
    show LVal n0 w vals pools (lookL (envL 0 args) t) _
    rw [look_envL]
    simp only [Nat.zero_le, if_true, Nat.sub_zero]
    cases ht : args[t]? with
    | none => trivial
    | some av =>
      obtain ⟨v, hv, hr⟩ := hvs.get ht
      have : (vs.toArray ++ Array.replicate (fn.ntmps - vs.toArray.size) undef).getD t undef = v := by
        have htl := (List.getElem?_eq_some_iff.1 hv).1
        rw [Array.getD_eq_getD_getElem?, Array.getElem?_append_left (by simpa using htl)]
        simp [hv]
      simp only [this]
      exact hr
  refine lwC_ok hτ c hs (fun e w' ps' vals' a' st' h1 h2 h3 h4 => ?_) h
  have key : (lookL st'.env r = x ∧ q st') → a'.defers = [] ∧ ∃ v, (results fn a'.tmps).run P w' = .ok v w' ∧ (fun (e : Ending) w' => ∃ v ps' vals' a' st', e = .returned v ∧ LSat w n0 w' ps' vals' a' N st' ∧ Ext1 ps ps' ∧ Ext1 vals vals' ∧ LVal n0 w' vals' st'.pools x v ∧ q st') (.returned v) w' := by
    rintro ⟨g1, g2⟩
    refine ⟨h1.dfs, _, run_results fn [r] (by rw [hres]; rfl) (by simp) a'.tmps w', _, ps', vals', a', st', rfl, h1, h2, h3, ?_, g2⟩
    have := h1.env r
    rw [g1] at this
    exact this
  cases e with
  | normal => exact key h4
  | ret => exact key h4
  | exit i => exact h4.elim
  | goto l => exact h4.elim
  | panic c => exact h4.elim
  | outgrown => exact h4.elim
/-- what a law takes -/
def toLV : AV → LV
  | .d false (.sl t) x => .o (.sl t) x
  | .d s .int x => .f (.d s .int x)
  | .d s .bool x => .f (.d s .bool x)
  | .d s .str x => .f (.d s .str x)
  | _ => .any
theorem toLV_ok {w : World} {av : AV} {v : Value} {pools : List Pool} {vals : List Value} (h : V w [] (fun _ => False) [] av v) : LVal w.heap.size w vals pools (toLV av) v := by
  unfold toLV
  split
  · rename_i t x
    exact Rd.ext (fun b hb hl => ⟨rfl, hl⟩) (.sl t) x v h
  · exact ⟨_, rfl, h⟩
  · exact ⟨_, rfl, h⟩
  · exact ⟨_, rfl, h⟩
  · trivial
theorem toLVs_ok {w : World} {pools : List Pool} {vals : List Value} : ∀ {args : List AV} {vs : List Value}, Vs w [] (fun _ => False) [] args vs → LVals w.heap.size w vals pools (args.map toLV) vs
  | [], _, h => h
  | x :: l, _, h => by
    obtain ⟨v, r, rfl, h1, h2⟩ := h
    exact ⟨v, _, rfl, toLV_ok h1, toLVs_ok h2⟩
/-- a law that holds -/
def LawC (P : Program) (f : FuncId) (args : List AV) : Prop :=
  ∀ (w : World) (vs : List Value), Vs w [] (fun _ => False) [] args vs → Calls P f vs.toArray w fun e w' => e = .returned (.bool true) ∧ Below w.heap.size w w'
theorem LawC.law {P : Program} {f : FuncId} {args : List AV} (h : LawC P f args) {w : World} {vs : List Value} (hv : Vs w [] (fun _ => False) [] args vs) :
    Calls P f vs.toArray w fun e w' => e = .returned (.bool true) ∧ Below w.heap.size w w' := h w vs hv
theorem LawC_of {P : Program} {τ : Nat → TI} (hτ : TyOk P τ) {f : FuncId} {fn : Func} {c : Code} (N r : Nat) (hf : P.funcs[f]? = some fn) (hb : fn.body = some c) (hn : (fn.name == "runtime.NumGoroutine") = false) (hN : fn.ntmps = N) {args : List AV}
    (hargs : Nat.ble (args.map toLV).length N = true) (hres : fn.results = #[ResultVar.tmp r]) (h : lwC P τ N c ⟨envL 0 (args.map toLV), []⟩ (LRet r (.f (.d true .bool true)) fun _ => True)) : LawC P f args := fun w vs hv => by
  refine (LC_of hτ N r w.heap.size hf hb hn hN hargs hres h (ps := []) (vals := []) (Nat.le_refl _) rfl rfl (fun i S hS => by simp at hS) (fun i j S T hS => by simp at hS) (fun i S p v hS => by simp at hS) (toLVs_ok hv)).mono ?_
  rintro e w' ⟨v, ps', vals', a', st', rfl, hs, _, _, ⟨u, hu, rfl⟩, _⟩
  cases hu
  refine ⟨rfl, hs.os, hs.tape, hs.output, hs.sz, fun k hk => hs.fr k hk fun S hS hSk => ?_⟩
  obtain ⟨i, hi, rfl⟩ := List.getElem_of_mem hS
  have := (hs.lt i _ (List.getElem?_eq_getElem hi) k hSk).1
  omega
/-- a function that marks the lists of a pool -/
theorem MC_of {P : Program} {τ : Nat → TI} (hτ : TyOk P τ) {f : FuncId} {fn : Func} {c : Code} (N r : Nat) (hf : P.funcs[f]? = some fn) (hb : fn.body = some c) (hn : (fn.name == "runtime.NumGoroutine") = false) (hN : fn.ntmps = N) {e : Nat} {xss yss : List (List Int)} {k x : Int}
    (hargs : Nat.ble 2 N = true) (hres : fn.results = #[ResultVar.tmp r]) (h : lwC P τ N c ⟨[(0, .p 0), (1, .f (I k))], [⟨.sl (.sw e true), xss⟩]⟩ (LRet r (.f (I x)) fun st => st.pools = [⟨.sl (.sw e true), yss⟩])) : MC P f e xss k x yss := by
  refine ⟨⟨fn, c, hf, hb, hn⟩, fun w S v hS hv => ?_⟩
  refine (LC_of hτ N r 0 hf hb hn hN (args := [.p 0, .f (I k)]) hargs hres h (ps := [S]) (vals := [v]) (Nat.zero_le _) rfl rfl (fun i T hT b hb => ?_) (fun i j T U hT hU hij => ?_) (fun i T p u hT hp hu => ?_) ⟨v, _, rfl, rfl, _, _, rfl, ⟨_, rfl, rfl⟩, rfl⟩).mono ?_
  · match i, hT with
    | 0, hT => simp at hT; subst hT; exact ⟨Nat.zero_le _, hS b hb⟩
    | i + 1, hT => simp at hT
  · have h1 := (List.getElem?_eq_some_iff.1 hT).1
    have h2 := (List.getElem?_eq_some_iff.1 hU).1
    simp at h1 h2; omega
  · match i, hT, hp, hu with
    | 0, hT, hp, hu => simp at hT hp hu; subst hT; subst hp; subst hu; exact hv
    | i + 1, hT, _, _ => simp at hT
  · rintro ex w' ⟨u, ps', vals', a', st', rfl, hs, ⟨p1, rfl⟩, ⟨v1, rfl⟩, ⟨u2, hu2, rfl⟩, hq⟩
    cases hu2
    have hl1 := hs.l1
    rw [hq] at hl1
    have hp1 : p1 = [] := List.eq_nil_of_length_eq_zero (by rw [List.length_append] at hl1; simp only [List.length_cons, List.length_nil] at hl1; omega)
    subst hp1
    have hpv : PVS w' S e true yss v := hs.pv 0 S ⟨.sl (.sw e true), yss⟩ v rfl (by rw [hq]; rfl) rfl
    exact ⟨rfl, hpv, hs.os, hs.tape, hs.output, hs.sz, fun b hb hn => hs.fr b hb fun T hT => by
      simp at hT; subst hT; exact hn⟩
end Go.Proofs.Ytbnonelkdgkpdaa.Ow
