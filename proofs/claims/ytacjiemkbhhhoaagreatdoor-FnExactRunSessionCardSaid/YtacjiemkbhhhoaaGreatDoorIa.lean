/-
  Part 1 of the texts that the claim rests on: Ow0.
  No condition beyond the given program.
-/
import Derived.WalkKit
import Derived.ProofKit
import Derived.Deep.Quiet
import Derived.StillTail
import Derived.Laws.BytesArg
import Derived.Laws.Tables
import Derived.Deep.LoopGhost
import Derived.Laws.Cover3
import Derived.OrdersHeld
import Derived.Laws.StructEq
import Derived.ChangeKeysEq
import Derived.Test.YtacjiemkbhhhoaaGreatDoorProg
import Derived.KernelRfl
import Derived.Lib.Join
import Derived.Shelf.Strings.Builder1
import Derived.Shelf.Strings.Builder2
import Derived.Shelf.Strings.OnBuilder
import Derived.Shelf.Small.Bits
import Derived.Shelf.Small.Strs
import Derived.Shelf.Small.Wraps
import Derived.Shelf.Strings.BuilderF
import Derived.Shelf.Strings.BuilderK
import Derived.Shelf.Strings.Builder2Cap
import Derived.Shelf.Strconv.Itoa0
import Derived.Shelf.Strings.Search1
import Derived.Shelf.Strings.Search2
import Derived.Shelf.Strings.Search3
import Derived.Shelf.Strings.Count
import Derived.Shelf.LaysM
import Derived.Shelf.Strings.Shaped
import Derived.Shelf.Sort.Plain
import Derived.Shelf.Strings.Prefix
import Derived.Shelf.Strings.Split
import Derived.Shelf.Bits.Mul64
import Derived.Shelf.Unicode.DecodeSlow
import Derived.Shelf.Unicode.DecodeAny
import Derived.Shelf.Strings.BuilderCap
import Derived.Shelf.Slices.Reverse
import Derived.Shelf.Slices.Equal
import Derived.Ground.Names2Prog
import Derived.Shelf.Slices.ReverseS
import Derived.Shelf.Slices.Clone
import Derived.Shelf.Slices.SearchI
import Derived.Shelf.Slices.Cells
import Derived.Shelf.Slices.In.SortNone
import Derived.Shelf.Slices.Empties2
import Derived.Ground.SlgnProg
import Derived.Shelf.SlicesE.Reverse
import Derived.Shelf.SlicesE.Equal
import Derived.Shelf.SlicesE.Clone
import Derived.Ground.SlgfProg
import Derived.Shelf.SlicesE.IndexFunc
import Derived.Shelf.SlicesE.DeleteFunc
import Derived.Ground.SlsfProg
import Derived.Shelf.SlSortCmp.Insertion
import Derived.Shelf.SlSortCmp.SiftDown1
import Derived.Shelf.SlSortCmp.HeapSort1
import Derived.Shelf.SlSortCmp.Insertion1
import Derived.Shelf.SlSortCmp.Median1
import Derived.Shelf.SlSortCmp.Pivot1
import Derived.Shelf.SlSortCmp.ReverseRange1
import Derived.Shelf.SlSortCmp.PartialInsertion1
import Derived.Shelf.SlSortCmp.PartitionEqual1
import Derived.Shelf.SlSortCmp.Partition1
import Derived.Shelf.SlSortCmp.Pdq1
import Derived.Shelf.SlSortCmp.Whole1
import Derived.Shelf.SlSortCmp.NoneTotal
import Derived.Deep.RegionWith
import Derived.Deep.Cut
import Derived.Below
import Derived.Sort.Walk0
import Derived.Shelf.RegionOpenPlain
import Derived.Deep.Draws
import Derived.Lib.Walk
import Derived.Shelf.SlSortCmp.WholeK
set_option linter.unusedVariables false
set_option linter.unusedSimpArgs false
theorem Go.Proofs.YtacjiemkbhhhoaaGreatDoor.nd0 {α:Type _}:([]:List α).Nodup:=List.nodup_nil
namespace Go.Proofs.YtacjiemkbhhhoaaGreatDoor.Ow
open Go Go.RowKit
inductive Mix where
 |int (x:Int)|bool (b:Bool)|str (s:List UInt8)|u8s (xs:List Int)|ints (xs:List Int)
inductive Ty where
 |int|u8|i32|u64|bool|str|mix
 |sl (t:Ty)
 |sw (e:Nat) (d:Bool)
 deriving DecidableEq
@[reducible] def Ty.T:Ty->Type
 |.int=>Int
 |.u8=>Int
 |.i32=>Int
 |.u64=>Int
 |.bool=>Bool
 |.str=>List UInt8
 |.mix=>Mix
 |.sl t=>List t.T
 |.sw _ _=>List Int
def Ty.flat:Ty->Bool
 |.sl _=>false
 |.mix=>false
 |.sw _ _=>false
 |_=>true
def Ty.dflt:(t:Ty)->t.T
 |.int=>(0:Int)
 |.u8=>(0:Int)
 |.i32=>(0:Int)
 |.u64=>(0:Int)
 |.bool=>false
 |.str=>([]:List UInt8)
 |.sl _=>[]
 |.mix=>Mix.int 0
 |.sw _ _=>([]:List Int)
def Ty.base:Ty->Ty
 |.sw _ _=>.sl .int
 |t=>t
def RdI (w:World) (S:Nat->Prop) (k:IntKind) (xs:List Int) (v:Value):Prop:=
 ∃a cap,v=.slice a (List.length xs) cap/\List.length xs<=cap/\(a=none->cap=0)/\(xs=[]\/∃b o,a=some ⟨b,o,none⟩/\S b/\∀(j:Nat) (h:j<List.length xs),∃cv,w.cell? ⟨b,o+j,none⟩=some cv/\cv=.int k (xs[j]'h))
def RdM (w:World) (S:Nat->Prop):Mix->Value->Prop
 |.int x,v=>v=.int .i64 x
 |.bool x,v=>v=.bool x
 |.str x,v=>v=.string ⟨List.toArray x⟩
 |.u8s xs,v=>RdI w S .u8 xs v
 |.ints xs,v=>RdI w S .i64 xs v
def RdW (w:World) (S:Nat->Prop) (e:Nat) (xs:List Int) (v:Value):Prop:=
 (xs=[]/\∃a cap,v=.slice a 0 cap/\(a=none->cap=0))\/
 (xs≠[]/\∃b cur,v=.slice (some ⟨b,0,none⟩) (List.length xs) cur.size/\S b/\w.heap[b]? =some (.cells cur e (0,0))/\List.length xs<=cur.size/\cur.size<=maxLen/\∀(j:Nat) (h:j<List.length xs),cur[j]? =some (.int .i64 (xs[j]'h)))
def Rd (w:World) (S:Nat->Prop):(t:Ty)->t.T->Value->Prop
 |.int,x,v=>v=.int .i64 x
 |.u8,x,v=>v=.int .u8 x
 |.i32,x,v=>v=.int .i32 x
 |.u64,x,v=>v=.int .u64 x
 |.bool,x,v=>v=.bool x
 |.str,x,v=>v=.string ⟨List.toArray x⟩
 |.mix,m,v=>RdM w S m v
 |.sw e _,xs,v=>RdW w S e xs v
 |.sl t,xs,v=>∃a cap,v=.slice a (List.length xs) cap/\List.length xs<=cap/\(a=none->cap=0)/\(xs=[]\/∃b o,a=some ⟨b,o,none⟩/\S b/\∀(j:Nat) (h:j<List.length xs),∃cv,w.cell? ⟨b,o+j,none⟩=some cv/\Rd w S t (xs[j]'h) cv)
theorem cell_lt {w:World} {b o:Nat} {v:Value} (h:w.cell? ⟨b,o,none⟩=some v):b<w.heap.size:=World.block_lt_of_cell? w _ h
theorem cell_of_block {w w':World} {b o:Nat} (h:w'.heap[b]? =w.heap[b]?):w'.cell? ⟨b,o,none⟩=w.cell? ⟨b,o,none⟩:=by simp [World.cell?,h]
theorem RdI.ext {w w':World} {S S':Nat->Prop} (h:∀b,S b->b<w.heap.size->w'.heap[b]? =w.heap[b]?/\S' b) {k:IntKind} {xs:List Int} {v:Value} (hr:RdI w S k xs v):RdI w' S' k xs v:=by
 obtain ⟨a,cap,hv,hc,hnn,hx⟩:=hr
 refine ⟨a,cap,hv,hc,hnn,?_⟩
 rcases hx with hx|⟨b,o,ha,hS,hcell⟩
 .exact .inl hx
 .cases xs with
  |nil=>exact .inl rfl
  |cons x xs=>
   obtain ⟨cv,h0,_⟩:=hcell 0 (by simp)
   have hb:=h b hS (cell_lt h0)
   refine .inr ⟨b,o,ha,hb.2,fun j hj=>?_⟩
   obtain ⟨cv,h1,h2⟩:=hcell j hj
   exact ⟨cv,(cell_of_block hb.1).trans h1,h2⟩
theorem RdM.ext {w w':World} {S S':Nat->Prop} (h:∀b,S b->b<w.heap.size->w'.heap[b]? =w.heap[b]?/\S' b):∀{m:Mix} {v:Value},RdM w S m v->RdM w' S' m v
 |.int _,_,hr=>hr
 |.bool _,_,hr=>hr
 |.str _,_,hr=>hr
 |.u8s _,_,hr=>RdI.ext h hr
 |.ints _,_,hr=>RdI.ext h hr
theorem RdM.one {w:World} {S:Nat->Prop}:∀{m:Mix} {v:Value},RdM w S m v->v.oneCell'=true
 |.int _,_,h=>by cases h;rfl
 |.bool _,_,h=>by cases h;rfl
 |.str _,_,h=>by cases h;rfl
 |.u8s _,_,h=>by obtain ⟨a,cap,rfl,_⟩:=h;rfl
 |.ints _,_,h=>by obtain ⟨a,cap,rfl,_⟩:=h;rfl
theorem lt_of_heap {w:World} {b:Nat} {o:Obj} (h:w.heap[b]? =some o):b<w.heap.size:=by
 apply Decidable.byContradiction
 intro hn
 rw [Array.getElem?_eq_none (by omega)] at h
 cases h
theorem RdW.ext {w w':World} {S S':Nat->Prop} (h:∀b,S b->b<w.heap.size->w'.heap[b]? =w.heap[b]?/\S' b) {e:Nat} {xs:List Int} {v:Value} (hr:RdW w S e xs v):RdW w' S' e xs v:=by
 rcases hr with hr|⟨hn,b,cur,h1,h2,h3,h4,h5⟩
 .exact .inl hr
 .obtain ⟨g1,g2⟩:=h b h2 (lt_of_heap h3)
  exact .inr ⟨hn,b,cur,h1,g2,g1.trans h3,h4,h5⟩
theorem RdW.one {w:World} {S:Nat->Prop} {e:Nat} {xs:List Int} {v:Value} (h:RdW w S e xs v):v.oneCell'=true:=by
 rcases h with ⟨_,a,cap,rfl,_⟩|⟨_,b,cur,rfl,_⟩<;>rfl
theorem Rd.ext {w w':World} {S S':Nat->Prop} (h:∀b,S b->b<w.heap.size->w'.heap[b]? =w.heap[b]?/\S' b):
 ∀(t:Ty) (x:t.T) (v:Value),Rd w S t x v->Rd w' S' t x v
 |.int,_,_,hr=>hr
 |.u8,_,_,hr=>hr
 |.i32,_,_,hr=>hr
 |.u64,_,_,hr=>hr
 |.bool,_,_,hr=>hr
 |.str,_,_,hr=>hr
 |.mix,_,_,hr=>RdM.ext h hr
 |.sw _ _,_,_,hr=>RdW.ext h hr
 |.sl t,xs,v,hr=>by
  obtain ⟨a,cap,hv,hc,hnn,hx⟩:=hr
  refine ⟨a,cap,hv,hc,hnn,?_⟩
  rcases hx with hx|⟨b,o,ha,hS,hcell⟩
  .exact .inl hx
  .cases xs with
   |nil=>exact .inl rfl
   |cons x xs=>
    obtain ⟨cv,h0,_⟩:=hcell 0 (by simp)
    have hb:=h b hS (cell_lt h0)
    refine .inr ⟨b,o,ha,hb.2,fun j hj=>?_⟩
    obtain ⟨cv,h1,h2⟩:=hcell j hj
    exact ⟨cv,(cell_of_block hb.1).trans h1,Rd.ext h t _ _ h2⟩
theorem RdI_rd {w:World} {S:Nat->Prop} {xs:List Int} {v:Value} (h:RdI w S .i64 xs v):Rd w S (.sl .int) xs v:=by
 obtain ⟨a,cap,h1,h2,h3,h4⟩:=h
 exact ⟨a,cap,h1,h2,h3,h4⟩
theorem Rd.one {w:World} {S:Nat->Prop}:∀{t:Ty} {x:t.T} {v:Value},Rd w S t x v->v.oneCell'=true
 |.int,_,_,h=>by cases h;rfl
 |.u8,_,_,h=>by cases h;rfl
 |.i32,_,_,h=>by cases h;rfl
 |.u64,_,_,h=>by cases h;rfl
 |.bool,_,_,h=>by cases h;rfl
 |.str,_,_,h=>by cases h;rfl
 |.mix,_,_,h=>RdM.one h
 |.sw _ _,_,_,h=>RdW.one h
 |.sl _,_,_,h=>by obtain ⟨a,cap,rfl,_⟩:=h;rfl
abbrev Tm:=List Int × Int
inductive XT where
 |tr|fn
@[reducible] def XT.T:XT->Type
 |.tr=>Int × Int × Int
 |.fn=>Nat
def XT.n:XT->Nat
 |.tr=>3
 |.fn=>1
def XT.cell:(t:XT)->t.T->Nat->Value
 |.tr,x,0=>.int .i64 x.1
 |.tr,x,1=>.int .i64 x.2.1
 |.tr,x,_=>.int .i64 x.2.2
 |.fn,f,_=>.func (.func f) #[] #[]
inductive XV where
 |emp
 |xd (t:XT) (xs:List t.T)
 |xe (t:XT) (xs:List t.T) (j:Nat)
 |oa (i:Nat)
 |sb (i lo hi:Nat)
 |oz (i:Nat)
 |sz (i lo hi:Nat)
 |pf (i j f:Nat)
 |dz (sh:Bool) (xs:List Tm)
 |ef (sh:Bool) (xs:List Tm) (j f:Nat)
 |lo (i:Nat)
inductive AV where
 |x (y:XV)
 |d (sh:Bool) (t:Ty) (x:t.T)
 |el (sh:Bool) (t:Ty) (xs:List t.T) (j:Nat)
 |ow (i:Nat)
 |ptr (i j:Nat)
 |nil
 |arr (t:Ty) (xs:List t.T)
 |fn (f:Nat) (caps:List AV)
 |tup (l:List AV)
 |any
inductive Row where
 |sl (e:TypeId) (t:Ty) (xs:List t.T)
 |box (e:TypeId) (v:AV)
 |tz (e:TypeId) (xs:List Tm)
 |dead
structure St where
 env:List (Nat × AV)
 rows:List Row
def look (env:List (Nat × AV)) (t:Nat):AV:=
 match env with
 |[]=>.any
 |(u,v)::r=>match Nat.beq u t with|true=>v|false=>look r t
def SS (bs:List Nat) (A:Nat->Prop):Bool->Nat->Prop
 |true=>A
 |false=>fun b=>b∉bs
def Row.len:Row->Nat
 |.sl _ _ xs=>xs.length
 |.box _ _=>1
 |.tz _ xs=>xs.length
 |.dead=>0
def RdP (w:World) (S:Nat->Prop) (x:Tm) (c1 c2:Value):Prop:=RdI w S .i64 x.1 c1/\c2=.int .i64 x.2
theorem RdP.ext {w w':World} {S S':Nat->Prop} (h:∀b,S b->b<w.heap.size->w'.heap[b]? =w.heap[b]?/\S' b) {x:Tm} {c1 c2:Value} (hr:RdP w S x c1 c2):RdP w' S' x c1 c2:=⟨RdI.ext h hr.1,hr.2⟩
def CellsP (w:World) (S:Nat->Prop) (b o:Nat) (xs:List Tm):Prop:=
 ∀(j:Nat) (h:j<xs.length),∃c1 c2,w.cell? ⟨b,o+2*j,none⟩=some c1/\w.cell? ⟨b,o+2*j+1,none⟩=some c2/\RdP w S (xs[j]'h) c1 c2
theorem CellsP.ext {w w':World} {S S':Nat->Prop} (h:∀b,S b->b<w.heap.size->w'.heap[b]? =w.heap[b]?/\S' b) {b o:Nat} {xs:List Tm} (hb:w'.heap[b]? =w.heap[b]?) (hr:CellsP w S b o xs):CellsP w' S' b o xs:=fun j hj=>by
 obtain ⟨c1,c2,h1,h2,h3⟩:=hr j hj
 exact ⟨c1,c2,(cell_of_block hb).trans h1,(cell_of_block hb).trans h2,h3.ext h⟩
theorem CellsP.lt {w:World} {S:Nat->Prop} {b o:Nat} {xs:List Tm} (h:CellsP w S b o xs) {j:Nat} (hj:j<xs.length):b<w.heap.size:=by
 obtain ⟨c1,c2,h1,_⟩:=h j hj
 exact cell_lt h1
def CellsF (w:World) (b o:Nat) (t:XT) (xs:List t.T):Prop:=
 ∀(j:Nat) (h:j<xs.length) (q:Nat),q<t.n->w.cell? ⟨b,o+t.n*j+q,none⟩=some (t.cell (xs[j]'h) q)
theorem CellsF.ext {w w':World} {b o:Nat} {t:XT} {xs:List t.T} (hb:w'.heap[b]? =w.heap[b]?) (h:CellsF w b o t xs):CellsF w' b o t xs:=fun j hj q hq=>(cell_of_block hb).trans (h j hj q hq)
def XVal (w:World) (bs:List Nat) (A:Nat->Prop) (rows:List Row):XV->Value->Prop
 |.emp,v=>∃a,v=.slice a 0 0
 |.sb i lo hi,v=>∃b e t xs cur o,bs[i]? =some b/\rows[i]? =some (.sl e t xs)/\w.heap[b]? =some (.cells cur e (0,0))/\lo<=hi/\hi<=xs.length/\v=.slice (some ⟨b,o,none⟩) (hi-lo) (cur.size-lo)/\(hi=lo/\0<lo\/o=lo)
 |.oz i,v=>∃b e xs cur,bs[i]? =some b/\rows[i]? =some (.tz e xs)/\w.heap[b]? =some (.cells cur e (0,0))/\v=.slice (some ⟨b,0,none⟩) xs.length (cur.size / 2)
 |.sz i lo hi,v=>∃b e xs cur o,bs[i]? =some b/\rows[i]? =some (.tz e xs)/\w.heap[b]? =some (.cells cur e (0,0))/\lo<=hi/\hi<=xs.length/\v=.slice (some ⟨b,o,none⟩) (hi-lo) (cur.size / 2-lo)/\(hi=lo\/o=2*lo)
 |.pf i j f,v=>∃b e xs,bs[i]? =some b/\rows[i]? =some (.tz e xs)/\j<xs.length/\f<2/\v=.pointer (some ⟨b,2*j+f,none⟩)
 |.dz sh xs,v=>∃a cap,v=.slice a xs.length cap/\xs.length<=cap/\(a=none->cap=0)/\(xs=[]\/∃b o,a=some ⟨b,o,none⟩/\SS bs A sh b/\CellsP w (SS bs A sh) b o xs)
 |.ef sh xs j f,v=>j<xs.length/\f<2/\∃b o,v=.pointer (some ⟨b,o+2*j+f,none⟩)/\SS bs A sh b/\CellsP w (SS bs A sh) b o xs
 |.xd t xs,v=>∃a cap,v=.slice a xs.length cap/\xs.length<=cap/\(xs=[]\/∃b o,a=some ⟨b,o,none⟩/\A b/\b<w.heap.size/\CellsF w b o t xs)
 |.xe t xs j,v=>j<xs.length/\∃b o,v=.pointer (some ⟨b,o+t.n*j,none⟩)/\A b/\b<w.heap.size/\CellsF w b o t xs
 |.lo i,v=>∃b' cur' E c cv,v=.slice (some ⟨b',0,none⟩) 1 c/\A b'/\w.heap[b']? =some (.cells cur' E (0,0))/\cur'[0]? =some cv/\∃b e t xs cur,bs[i]? =some b/\rows[i]? =some (.sl e t xs)/\w.heap[b]? =some (.cells cur e (0,0))/\cv=.slice (some ⟨b,0,none⟩) xs.length cur.size
 |.oa i,v=>∃b e xs cur,bs[i]? =some b/\rows[i]? =some (.sl e .mix xs)/\w.heap[b]? =some (.cells cur e (0,0))/\v=.slice (some ⟨b,0,none⟩) (List.length xs / 3) (cur.size / 3)/\List.length xs % 3=0/\cur.size % 3=0
mutual
def V (w:World) (bs:List Nat) (A:Nat->Prop) (rows:List Row):AV->Value->Prop
 |.d sh t x,v=>Rd w (SS bs A sh) t x v
 |.el sh t xs j,v=>j<xs.length/\∃b o,v=.pointer (some ⟨b,o+j,none⟩)/\SS bs A sh b/\∀(i:Nat) (h:i<xs.length),∃cv,w.cell? ⟨b,o+i,none⟩=some cv/\Rd w (SS bs A sh) t xs[i] cv
 |.ow i,v=>∃b e t xs cur,bs[i]? =some b/\rows[i]? =some (.sl e t xs)/\w.heap[b]? =some (.cells cur e (0,0))/\v=.slice (some ⟨b,0,none⟩) xs.length cur.size
 |.ptr i j,v=>∃b r,bs[i]? =some b/\rows[i]? =some r/\j<r.len/\v=.pointer (some ⟨b,j,none⟩)
 |.nil,v=>v=.slice none 0 0
 |.arr t xs,v=>∃cs:Array Value,v=.agg cs/\cs.size=xs.length/\∀(i:Nat) (h:i<xs.length),∃cv,cs[i]? =some cv/\Rd w A t xs[i] cv
 |.fn f caps,v=>∃vs:List Value,v=.func (.func f) #[] vs.toArray/\Vs w bs A rows caps vs
 |.tup l,v=>∃vs:List Value,v=.tuple vs.toArray/\Vs w bs A rows l vs
 |.x y,v=>XVal w bs A rows y v
 |.any,_=>True
def Vs (w:World) (bs:List Nat) (A:Nat->Prop) (rows:List Row):List AV->List Value->Prop
 |[],vs=>vs=[]
 |a::l,vs=>∃v r,vs=v::r/\V w bs A rows a v/\Vs w bs A rows l r
end
def DstV (cur:Array Value) (n:Nat):Prop:=
 ∀i j,i<j->j<n->∀(p q:Addr) (l c l' c':Nat),cur[i]? =some (.slice (some p) l c)->cur[j]? =some (.slice (some q) l' c')->l≠0->l'≠0->p.block≠q.block
def Dst:Ty->Array Value->Nat->Prop
 |.sw _ true,cur,n=>DstV cur n
 |_,_,_=>True
def Ty.mx:Ty->Nat
 |.mix=>3*maxLen
 |_=>maxLen
theorem Ty.le_mx (t:Ty):maxLen<=t.mx:=by cases t<;>first|exact Nat.le_refl _|(show maxLen<=3*maxLen;omega)
def Ty.dsw:Ty->Bool
 |.sw _ true=>true
 |_=>false
theorem Dst.of {t:Ty} (h:t.dsw=false) {cur:Array Value} {n:Nat}:Dst t cur n:=by
 unfold Dst
 split
 .simp [Ty.dsw] at h
 .trivial
structure Cells (w:World) (A:Nat->Prop) (t:Ty) (xs:List t.T) (cur:Array Value):Prop where
 c:∀(j:Nat) (h:j<xs.length),∃cv,cur[j]? =some cv/\Rd w A t xs[j] cv
 d:Dst t cur xs.length
instance {w:World} {A:Nat->Prop} {t:Ty} {xs:List t.T} {cur:Array Value}:CoeFun (Cells w A t xs cur) (fun _=>∀(j:Nat) (h:j<xs.length),∃cv,cur[j]? =some cv/\Rd w A t xs[j] cv):=⟨Cells.c⟩
def RowR (w:World) (bs:List Nat) (A:Nat->Prop) (rows:List Row) (b:Nat):Row->Prop
 |.sl e t xs=>¬A b/\∃cur,w.heap[b]? =some (.cells cur e (0,0))/\xs.length<=cur.size/\cur.size<=t.mx/\Cells w A t xs cur
 |.box e av=>¬A b/\∃cv,w.heap[b]? =some (.cells #[cv] e (0,0))/\V w bs A rows av cv
 |.tz e xs=>¬A b/\∃cur,w.heap[b]? =some (.cells cur e (0,0))/\2*xs.length<=cur.size/\cur.size % 2=0/\CellsP w A b 0 xs
 |.dead=>True
structure Sat (w:World) (bs:List Nat) (A:Nat->Prop) (a:Act) (N:Nat) (st:St):Prop where
 len:bs.length=st.rows.length
 nodup:bs.Nodup
 lt:∀b∈bs,b<w.heap.size
 old:∀b,A b->b<w.heap.size
 row:∀(i b:Nat) (r:Row),bs[i]? =some b->st.rows[i]? =some r->RowR w bs A st.rows b r
 env:∀t,V w bs A st.rows (look st.env t) (a.tmps.getD t undef)
 size:a.tmps.size=N
 dfs:a.defers=[]
structure Step (w:World) (bs:List Nat) (A:Nat->Prop) (w':World) (bs':List Nat) (A':Nat->Prop):Prop where
 os:w'.os=w.os
 tape:w'.tape=w.tape
 output:w'.output=w.output
 size:w.heap.size<=w'.heap.size
 block:∀k,k<w.heap.size->k∉bs->w'.heap[k]? =w.heap[k]?
 sbs:∀b∈bs',b∈bs\/w.heap.size<=b
 sA:∀b,A' b->A b\/w.heap.size<=b\/b∈bs
theorem Step.refl (w:World) (bs:List Nat) (A:Nat->Prop):Step w bs A w bs A:=
 ⟨rfl,rfl,rfl,Nat.le_refl _,fun _ _ _=>rfl,fun _ h=>.inl h,fun _ h=>.inl h⟩
theorem Step.trans {w w1 w2:World} {bs bs1 bs2:List Nat} {A A1 A2:Nat->Prop} (h:Step w bs A w1 bs1 A1) (k:Step w1 bs1 A1 w2 bs2 A2):Step w bs A w2 bs2 A2:=by
 refine ⟨k.os.trans h.os,k.tape.trans h.tape,k.output.trans h.output,Nat.le_trans h.size k.size,fun i hi hn=>?_,fun b hb=>?_,fun b hb=>?_⟩
 .rw [k.block i (Nat.lt_of_lt_of_le hi h.size) (fun hm=>?_),h.block i hi hn]
  rcases h.sbs i hm with h1|h1
  .exact hn h1
  .omega
 .rcases k.sbs b hb with h1|h1
  .exact h.sbs b h1
  .exact .inr (Nat.le_trans h.size h1)
 .rcases k.sA b hb with h1|h1|h1
  .exact h.sA b h1
  .exact .inr (.inl (Nat.le_trans h.size h1))
  .rcases h.sbs b h1 with h2|h2
   .exact .inr (.inr h2)
   .exact .inr (.inl h2)
def XV.hs:XV->List Nat
 |.sb i _ _=>[i]
 |.oz i=>[i]
 |.sz i _ _=>[i]
 |.pf i _ _=>[i]
 |.oa i=>[i]
 |.lo i=>[i]
 |_=>[]
def AV.hs:AV->List Nat
 |.x y=>y.hs
 |.ow i=>[i]
 |.ptr i _=>[i]
 |.fn _ caps=>hsl caps
 |.tup l=>hsl l
 |_=>[]
where hsl:List AV->List Nat
 |[]=>[]
 |a::l=>a.hs++hsl l
structure Kp (w:World) (bs:List Nat) (A:Nat->Prop) (rows:List Row) (w':World) (bs':List Nat) (A':Nat->Prop) (rows':List Row) (H:Nat->Prop):Prop where
 a:∀b,A b->b<w.heap.size->w'.heap[b]? =w.heap[b]?/\A' b
 n:∀b,b∉bs->b<w.heap.size->w'.heap[b]? =w.heap[b]?/\b∉bs'
 h:∀i,H i->bs'[i]? =bs[i]?/\(∀r,rows[i]? =some r->∃r',rows'[i]? =some r'/\r'.len=r.len/\(∀e t xs,r=.sl e t xs->∃xs',r'=.sl e t xs')/\∀e xs,r=.tz e xs->∃xs',r'=.tz e xs')/\
  (∀b cur e,bs[i]? =some b->w.heap[b]? =some (.cells cur e (0,0))->∃cur',w'.heap[b]? =some (.cells cur' e (0,0))/\cur'.size=cur.size)
theorem Kp.ss {w w':World} {bs bs':List Nat} {A A':Nat->Prop} {rows rows':List Row} {H:Nat->Prop} (k:Kp w bs A rows w' bs' A' rows' H) (sh:Bool):
 ∀b,SS bs A sh b->b<w.heap.size->w'.heap[b]? =w.heap[b]?/\SS bs' A' sh b:=by
 cases sh
 .exact k.n
 .exact k.a
theorem XVal.keep {w w':World} {bs bs':List Nat} {A A':Nat->Prop} {rows rows':List Row} {H:Nat->Prop} (k:Kp w bs A rows w' bs' A' rows' H):
 ∀(y:XV) (v:Value),(∀i∈y.hs,H i)->XVal w bs A rows y v->XVal w' bs' A' rows' y v
 |.emp,v,_,h=>h
 |.sb i lo hi,v,hH,h=>by
  obtain ⟨b,e,t,xs,cur,o,h1,h2,h3,h5,h6,h4,h7⟩:=h
  obtain ⟨k1,k2,k3⟩:=k.h i (hH i (by simp [XV.hs]))
  obtain ⟨r',k4,k5,k6,_⟩:=k2 _ h2
  obtain ⟨xs',rfl⟩:=k6 e t xs rfl
  obtain ⟨cur',k7,k8⟩:=k3 b cur e h1 h3
  have k5':xs'.length=xs.length:=k5
  exact ⟨b,e,t,xs',cur',o,k1.trans h1,k4,k7,h5,by omega,by rw [k8];exact h4,h7⟩
 |.oz i,v,hH,h=>by
  obtain ⟨b,e,xs,cur,h1,h2,h3,h4⟩:=h
  obtain ⟨k1,k2,k3⟩:=k.h i (hH i (by simp [XV.hs]))
  obtain ⟨r',k4,k5,_,k6⟩:=k2 _ h2
  obtain ⟨xs',rfl⟩:=k6 e xs rfl
  obtain ⟨cur',k7,k8⟩:=k3 b cur e h1 h3
  have k5':xs'.length=xs.length:=k5
  exact ⟨b,e,xs',cur',k1.trans h1,k4,k7,by rw [k5',k8];exact h4⟩
 |.sz i lo hi,v,hH,h=>by
  obtain ⟨b,e,xs,cur,o,h1,h2,h3,h5,h6,h4,h7⟩:=h
  obtain ⟨k1,k2,k3⟩:=k.h i (hH i (by simp [XV.hs]))
  obtain ⟨r',k4,k5,_,k6⟩:=k2 _ h2
  obtain ⟨xs',rfl⟩:=k6 e xs rfl
  obtain ⟨cur',k7,k8⟩:=k3 b cur e h1 h3
  have k5':xs'.length=xs.length:=k5
  exact ⟨b,e,xs',cur',o,k1.trans h1,k4,k7,h5,by omega,by rw [k8];exact h4,h7⟩
 |.pf i j f,v,hH,h=>by
  obtain ⟨b,e,xs,h1,h2,h3,h4,h5⟩:=h
  obtain ⟨k1,k2,_⟩:=k.h i (hH i (by simp [XV.hs]))
  obtain ⟨r',k4,k5,_,k6⟩:=k2 _ h2
  obtain ⟨xs',rfl⟩:=k6 e xs rfl
  have k5':xs'.length=xs.length:=k5
  exact ⟨b,e,xs',k1.trans h1,k4,by omega,h4,h5⟩
 |.dz sh xs,v,_,h=>by
  obtain ⟨a,cap,h1,h2,h3,h4⟩:=h
  refine ⟨a,cap,h1,h2,h3,?_⟩
  rcases h4 with h4|⟨b,o,h4,hS,hc⟩
  .exact .inl h4
  .by_cases hn:xs=[]
   .exact .inl hn
   .have hb:=k.ss sh b hS (hc.lt (j:=0) (List.length_pos_iff.2 hn))
    exact .inr ⟨b,o,h4,hb.2,hc.ext (k.ss sh) hb.1⟩
 |.ef sh xs j f,v,_,h=>by
  obtain ⟨hj,hf,b,o,hv,hS,hc⟩:=h
  have hb:=k.ss sh b hS (hc.lt hj)
  exact ⟨hj,hf,b,o,hv,hb.2,hc.ext (k.ss sh) hb.1⟩
 |.xd t xs,v,_,h=>by
  obtain ⟨a,cap,h1,h2,h3⟩:=h
  refine ⟨a,cap,h1,h2,?_⟩
  rcases h3 with h3|⟨b,o,h4,hS,hlt,hc⟩
  .exact .inl h3
  .obtain ⟨g1,g2⟩:=k.a b hS hlt
   refine .inr ⟨b,o,h4,g2,?_,hc.ext g1⟩
   rw [Array.getElem?_eq_getElem hlt] at g1
   exact lt_of_heap g1
 |.xe t xs j,v,_,h=>by
  obtain ⟨hj,b,o,hv,hS,hlt,hc⟩:=h
  obtain ⟨g1,g2⟩:=k.a b hS hlt
  refine ⟨hj,b,o,hv,g2,?_,hc.ext g1⟩
  rw [Array.getElem?_eq_getElem hlt] at g1
  exact lt_of_heap g1
 |.lo i,v,hH,h=>by
  obtain ⟨b0,cur0,E,c,cv,g1,g2,g3,g4,b,e,t,xs,cur,h1,h2,h3,h4⟩:=h
  obtain ⟨k1,k2,k3⟩:=k.h i (hH i (by simp [XV.hs]))
  obtain ⟨r',k4,k5,k6,_⟩:=k2 _ h2
  obtain ⟨xs',rfl⟩:=k6 e t xs rfl
  obtain ⟨cur',k7,k8⟩:=k3 b cur e h1 h3
  have k5':xs'.length=xs.length:=k5
  obtain ⟨a1,a2⟩:=k.a b0 g2 (lt_of_heap g3)
  exact ⟨b0,cur0,E,c,cv,g1,a2,a1.trans g3,g4,b,e,t,xs',cur',k1.trans h1,k4,k7,by rw [k5',k8];exact h4⟩
 |.oa i,v,hH,h=>by
  obtain ⟨b,e,xs,cur,h1,h2,h3,h4,h5,h6⟩:=h
  obtain ⟨k1,k2,k3⟩:=k.h i (hH i (by simp [XV.hs]))
  obtain ⟨r',k4,k5,k6,_⟩:=k2 _ h2
  obtain ⟨xs',rfl⟩:=k6 e .mix xs rfl
  obtain ⟨cur',k7,k8⟩:=k3 b cur e h1 h3
  have k5':List.length xs'=List.length xs:=k5
  exact ⟨b,e,xs',cur',k1.trans h1,k4,k7,by rw [k5',k8];exact h4,by rw [k5'];exact h5,by rw [k8];exact h6⟩
mutual
theorem V.keep {w w':World} {bs bs':List Nat} {A A':Nat->Prop} {rows rows':List Row} {H:Nat->Prop} (k:Kp w bs A rows w' bs' A' rows' H):
 ∀(av:AV) (v:Value),(∀i∈av.hs,H i)->V w bs A rows av v->V w' bs' A' rows' av v
 |.d sh t x,v,_,h=>Rd.ext (k.ss sh) t x v h
 |.el sh t xs j,v,_,h=>by
  obtain ⟨hj,b,o,hv,hS,hc⟩:=h
  obtain ⟨cv,h1,_⟩:=hc j hj
  have hb:=k.ss sh b hS (cell_lt h1)
  refine ⟨hj,b,o,hv,hb.2,fun i hi=>?_⟩
  obtain ⟨cv,h1,h2⟩:=hc i hi
  exact ⟨cv,(cell_of_block hb.1).trans h1,Rd.ext (k.ss sh) t _ _ h2⟩
 |.ow i,v,hH,h=>by
  obtain ⟨b,e,t,xs,cur,h1,h2,h3,h4⟩:=h
  obtain ⟨k1,k2,k3⟩:=k.h i (hH i (by simp [AV.hs]))
  obtain ⟨r',k4,k5,k6,_⟩:=k2 _ h2
  obtain ⟨xs',rfl⟩:=k6 e t xs rfl
  obtain ⟨cur',k7,k8⟩:=k3 b cur e h1 h3
  have k5':xs'.length=xs.length:=k5
  exact ⟨b,e,t,xs',cur',k1.trans h1,k4,k7,by rw [k5',k8];exact h4⟩
 |.ptr i j,v,hH,h=>by
  obtain ⟨b,r,h1,h2,h3,h4⟩:=h
  obtain ⟨k1,k2,_⟩:=k.h i (hH i (by simp [AV.hs]))
  obtain ⟨r',k4,k5,_⟩:=k2 _ h2
  exact ⟨b,r',k1.trans h1,k4,by omega,h4⟩
 |.nil,v,_,h=>h
 |.arr t xs,v,_,h=>by
  obtain ⟨cs,h1,h2,h3⟩:=h
  refine ⟨cs,h1,h2,fun i hi=>?_⟩
  obtain ⟨cv,h4,h5⟩:=h3 i hi
  exact ⟨cv,h4,Rd.ext (k.ss true) t _ _ h5⟩
 |.fn f caps,v,hH,h=>by
  obtain ⟨vs,h1,h2⟩:=h
  exact ⟨vs,h1,Vs.keep k caps vs (fun i hi=>hH i (by simpa [AV.hs] using hi)) h2⟩
 |.tup l,v,hH,h=>by
  obtain ⟨vs,h1,h2⟩:=h
  exact ⟨vs,h1,Vs.keep k l vs (fun i hi=>hH i (by simpa [AV.hs] using hi)) h2⟩
 |.x y,v,hH,h=>XVal.keep k y v (fun i hi=>hH i (by simpa [AV.hs] using hi)) h
 |.any,_,_,_=>trivial
theorem Vs.keep {w w':World} {bs bs':List Nat} {A A':Nat->Prop} {rows rows':List Row} {H:Nat->Prop} (k:Kp w bs A rows w' bs' A' rows' H):
 ∀(l:List AV) (vs:List Value),(∀i∈AV.hs.hsl l,H i)->Vs w bs A rows l vs->Vs w' bs' A' rows' l vs
 |[],_,_,h=>h
 |a::l,vs,hH,h=>by
  obtain ⟨v,r,rfl,h1,h2⟩:=h
  exact ⟨v,r,rfl,V.keep k a v (fun i hi=>hH i (by simp [AV.hs.hsl,hi])) h1,Vs.keep k l r (fun i hi=>hH i (by simp [AV.hs.hsl,hi])) h2⟩
end
inductive TI where
 |one (t:Ty) (e:Nat)
 |arr (t:Ty) (n:Nat) (e:Nat)
 |rc (zs:List Mix)
 |tz (e:Nat)
 |xs (t:XT) (e:Nat)
 |fn
 |none
def Ty.zv:Ty->Value
 |.int=>.int .i64 0
 |.u8=>.int .u8 0
 |.i32=>.int .i32 0
 |.u64=>.int .u64 0
 |.bool=>.bool false
 |.str=>.string ⟨#[]⟩
 |.sl _=>.slice .none 0 0
 |.mix=>.int .i64 0
 |.sw _ _=>.slice .none 0 0
def Ty.by:Ty->Nat
 |.int=>8
 |.u8=>1
 |.i32=>4
 |.u64=>8
 |.bool=>1
 |.str=>16
 |.sl _=>24
 |.mix=>8
 |.sw _ _=>24
theorem Ty.base_zv:∀t:Ty,t.base.zv=t.zv
 |.sw _ _=>rfl
 |.int=>rfl
 |.u8=>rfl
 |.i32=>rfl
 |.u64=>rfl
 |.bool=>rfl
 |.str=>rfl
 |.sl _=>rfl
 |.mix=>rfl
theorem Ty.base_by:∀t:Ty,t.base.by=t.by
 |.sw _ _=>rfl
 |.int=>rfl
 |.u8=>rfl
 |.i32=>rfl
 |.u64=>rfl
 |.bool=>rfl
 |.str=>rfl
 |.sl _=>rfl
 |.mix=>rfl
def OneOk (P:Program) (τ:Nat->TI) (T:TypeId) (e:Nat):Ty->Prop
 |.int=>P.underlying T=some (.int .i64)
 |.u8=>P.underlying T=some (.int .u8)
 |.i32=>P.underlying T=some (.int .i32)
 |.u64=>P.underlying T=some (.int .u64)
 |.bool=>P.underlying T=some .bool
 |.str=>P.underlying T=some .string
 |.sl t=>P.underlying T=some (.slice e)/\∃e',τ e=.one t.base e'
 |.mix=>False
 |.sw _ _=>False
def Mix.zv:Mix->Value
 |.int _=>.int .i64 0
 |.bool _=>.bool false
 |.str _=>.string ⟨#[]⟩
 |.u8s _=>.slice none 0 0
 |.ints _=>.slice none 0 0
def Mix.z0:Mix->Mix
 |.int _=>.int 0
 |.bool _=>.bool false
 |.str _=>.str []
 |.u8s _=>.u8s []
 |.ints _=>.ints []
theorem Mix.z0_rd (w:World) (S:Nat->Prop):∀m:Mix,RdM w S m.z0 m.zv
 |.int _=>rfl
 |.bool _=>rfl
 |.str _=>rfl
 |.u8s _=>⟨none,0,rfl,Nat.le_refl _,fun _=>rfl,.inl rfl⟩
 |.ints _=>⟨none,0,rfl,Nat.le_refl _,fun _=>rfl,.inl rfl⟩
theorem mapM_get {α β:Type} {g:α->Option β}:∀{l:List α} {r:List β},l.mapM g=some r->l.length=r.length/\∀(j:Nat) (x:α),l[j]? =some x->∃p,g x=some p/\r[j]? =some p
 |[],r,h=>by simp at h;subst h;exact ⟨rfl,fun j x hx=>by simp at hx⟩
 |y::l,r,h=>by
  simp only [List.mapM_cons,Option.bind_eq_bind,Option.pure_def] at h
  cases hy:g y with
  |none=>simp [hy] at h
  |some p=>
   cases hr:l.mapM g with
   |none=>simp [hy,hr] at h
   |some rest=>
    simp [hy,hr] at h
    subst h
    obtain ⟨h1,h2⟩:=mapM_get hr
    refine ⟨by simp [h1],fun j x hx=>?_⟩
    cases j with
    |zero=>simp at hx;subst hx;exact ⟨p,hy,rfl⟩
    |succ j=>simpa using h2 j x (by simpa using hx)
def EqF (P:Program) (T:TypeId):TI->Prop
 |.rc [.str _,.int _]=>∀(a b:ByteArray) (x y:Int) (ox oy:Operand) (w':World),
  (do eqGuard .eql T ox oy (.agg #[.string a,.int .i64 x]) (.agg #[.string b,.int .i64 y]);binOp .eql T (.agg #[.string a,.int .i64 x]) (.agg #[.string b,.int .i64 y]):Sem Value).run P w'=.ok (.bool (a.toList==b.toList && x==y)) w'
 |.arr .int 3 _=>∀(x0 x1 x2 y0 y1 y2:Int) (ox oy:Operand) (w':World),
  (do eqGuard .eql T ox oy (.agg #[.int .i64 x0,.int .i64 x1,.int .i64 x2]) (.agg #[.int .i64 y0,.int .i64 y1,.int .i64 y2]);binOp .eql T (.agg #[.int .i64 x0,.int .i64 x1,.int .i64 x2]) (.agg #[.int .i64 y0,.int .i64 y1,.int .i64 y2]):Sem Value).run P w'=.ok (.bool (x0==y0 && (x1==y1 && x2==y2))) w'
 |_=>True
theorem EqF.form {P:Program} {T T1 T2:TypeId} {f1 f2:Field} {s0:List UInt8} {n0:Int} (hu:P.underlying T=some (.struct #[f1,f2])) (hg:P.eqGuardType P.depth T=false) (hs:P.stoodInHeld T=false)
 (h1:(f1.name== "_")=false) (h2:(f2.name== "_")=false) (hT1:f1.type=T1) (hT2:f2.type=T2) (ho1:f1.offset=0) (ho2:f2.offset=1) (hu1:P.underlying T1=some .string) (hu2:P.underlying T2=some (.int .i64)):EqF P T (.rc [.str s0,.int n0]):=by
 intro a b x y ox oy w'
 have hf:P.fieldsOf T= #[f1,f2]:=by unfold Program.fieldsOf;rw [hu]
 have h1:f1.name≠ "_" :=by simpa using h1
 have h2:f2.name≠ "_" :=by simpa using h2
 rw [Sem.run_bind,run_eqGuard_agg _ _ _ _ _ _ _ hg,Result.andThen_ok,run_eql_struct,run_equalIn_agg w' 9999 T _ _ (by rw [hf];exact hu) hs,hf]
 simp only [Op.eqFields,if_pos h1,if_pos h2,hT1,hT2,ho1,ho2,Sem.run_bind]
 have q1:∀(c:ByteArray) (z:Int),(part T1 #[.string c,.int .i64 z] 0).run P w'=.ok (.string c) w':=fun c z=>by
  simp [part,isAgg,run_underlying hu1]
 have q2:∀(c:ByteArray) (z:Int),(part T2 #[.string c,.int .i64 z] 1).run P w'=.ok (.int .i64 z) w':=fun c z=>by
  simp [part,isAgg,run_underlying hu2]
 simp only [q1,q2,Result.andThen_ok,run_equalIn_string w' 9998 T1 a b hu1,Sem.run_ite,run_equalIn_int w' 9998 T2 .i64 .i64 x y hu2,Sem.run_pure,Sem.run_bind]
 cases ha:(a.toList==b.toList)<;>cases hx:(x==y)<;>simp [Result.andThen_ok,ha,hx]
theorem EqF.tri {P:Program} {T e:TypeId} {z:Option Value} {n:Nat} (hu:P.underlying T=some (.array 3 e)) (hg:P.eqGuardType P.depth T=false) (hi:(P.info? e).map (fun i=>(i.size,i.zero,i.bytes))=some (1,z,n)) (hue:P.underlying e=some (.int .i64)):EqF P T (.arr .int 3 e):=by
 intro x0 x1 x2 y0 y1 y2 ox oy w'
 obtain ⟨i,hi1,hi2⟩:∃i,P.info? e=some i/\i.size=1:=by
  cases h:P.info? e with
  |none=>rw [h] at hi;cases hi
  |some i=>rw [h] at hi;simp at hi;exact ⟨i,rfl,hi.1⟩
 have hc:P.cellsOf e=1:=by simp [Program.cellsOf,hi1,hi2]
 rw [Sem.run_bind,run_eqGuard_agg _ _ _ _ _ _ _ hg,Result.andThen_ok,run_eql_struct,run_equalIn_array w' 9999 _ _ hu hi1,hc]
 have q:∀(cs:Array Value) (j:Nat) (c:Int),cs[j]? =some (.int .i64 c)->(part e cs j).run P w'=.ok (.int .i64 c) w':=fun cs j c h=>by
  simp [part,isAgg,run_underlying hue,h]
 have r0:(List.range 3)=[0,1,2]:=rfl
 rw [r0]
 simp only [Op.eqItems,Sem.run_bind]
 rw [q #[.int .i64 x0,.int .i64 x1,.int .i64 x2] (0*1) x0 rfl]
 simp only [Result.andThen_ok]
 rw [q #[.int .i64 y0,.int .i64 y1,.int .i64 y2] (0*1) y0 rfl]
 simp only [Result.andThen_ok,run_equalIn_int w' 9998 e .i64 .i64 x0 y0 hue,Sem.run_ite,Sem.run_bind,Sem.run_pure]
 rw [q #[.int .i64 x0,.int .i64 x1,.int .i64 x2] (1*1) x1 rfl]
 simp only [Result.andThen_ok]
 rw [q #[.int .i64 y0,.int .i64 y1,.int .i64 y2] (1*1) y1 rfl]
 simp only [Result.andThen_ok,run_equalIn_int w' 9998 e .i64 .i64 x1 y1 hue,Sem.run_ite,Sem.run_bind,Sem.run_pure]
 rw [q #[.int .i64 x0,.int .i64 x1,.int .i64 x2] (2*1) x2 rfl]
 simp only [Result.andThen_ok]
 rw [q #[.int .i64 y0,.int .i64 y1,.int .i64 y2] (2*1) y2 rfl]
 simp only [Result.andThen_ok,run_equalIn_int w' 9998 e .i64 .i64 x2 y2 hue,Sem.run_ite,Sem.run_bind,Sem.run_pure]
 cases h0:(x0==y0)<;>cases h1:(x1==y1)<;>cases h2:(x2==y2)<;>simp [Result.andThen_ok]
structure TyOk (P:Program) (τ:Nat->TI):Prop where
 eqv:∀T,EqF P T (τ T)
 mixed:P.follows .mixedOrders=true
 one:∀T t e,τ T=.one t e->OneOk P τ T e t/\∃i,P.info? T=some i/\i.size=1/\i.zero=some t.zv/\i.bytes=t.by
 rc:∀T zs,τ T=.rc zs->∃fields:Array Field,P.underlying T=some (.struct fields)/\fields.toList.mapM (fun f=>(P.info? f.type).map fun i=>(f.offset,i.size))=some ((List.range zs.length).map fun j=>(j,1))/\
  ∃i,P.info? T=some i/\i.size=zs.length/\i.zero=some (.agg (zs.map Mix.zv).toArray)
 tz:∀T e,τ T=.tz e->P.underlying T=some (.slice e)/\τ e=.rc [.ints [],.int 0]/\∃i,P.info? e=some i/\i.size=2/\i.zero=some (.agg #[.slice none 0 0,.int .i64 0])/\i.bytes=32
 xs:∀T t e,τ T=.xs t e->P.underlying T=some (.slice e)/\∃i z,P.info? e=some i/\i.size=t.n/\i.zero=some z/\z.cells.size=t.n/\i.bytes<=24
 fn:∀T,τ T=.fn->∃d,P.underlying T=some d/\(∀f,d≠.struct f)/\(∀n e,d≠.array n e)
 arr:∀T t n e,τ T=.arr t n e->P.underlying T=some (.array n e)/\(∃e',τ e=.one t e')/\∃i,P.info? T=some i/\i.size=n/\i.zero=some (.agg (Array.replicate n t.zv))
@[reducible] def I (x:Int):AV:=.d true .int x
def cst:Value->AV
 |.int .i64 n=>.d true .int n
 |.int .u8 n=>.d true .u8 n
 |.int .i32 n=>.d true .i32 n
 |.int .u64 n=>.d true .u64 n
 |.bool b=>.d true .bool b
 |.string s=>.d true .str s.data.toList
 |.slice .none 0 0=>.nil
 |_=>.any
def evl (env:List (Nat × AV)):Operand->AV
 |.tmp t=>look env t
 |.const v=>cst v
 |.func f=>.fn f []
 |.global _=>.any
theorem cst_ok (w:World) (bs:List Nat) (A:Nat->Prop) (rows:List Row) (v:Value):V w bs A rows (cst v) v:=by
 unfold cst
 split<;>first|rfl|trivial|skip
theorem evl_ok {w:World} {bs:List Nat} {A:Nat->Prop} {a:Act} {N:Nat} {st:St} (hs:Sat w bs A a N st) (x:Operand):
 V w bs A st.rows (evl st.env x) (a.eval x):=by
 cases x with
 |tmp t=>exact hs.env t
 |const v=>exact cst_ok _ _ _ _ v
 |global g=>trivial
 |func f=>exact ⟨[],rfl,rfl⟩
def spl (p:Prop) (k:AV->Prop):Prop:=(p->k (.d true .bool true))/\(¬p->k (.d true .bool false))
def w64 (x:Int):Int:=IntKind.i64.wrap x
def binI (op:BinOp) (x y:Int) (k:AV->Prop):Prop:=
 match op with
 |.add=>∃z:Int,z=w64 (x+y)/\k (.d true .int z)
 |.sub=>∃z:Int,z=w64 (x-y)/\k (.d true .int z)
 |.mul=>∃z:Int,z=w64 (x*y)/\k (.d true .int z)
 |.quo=>y≠0/\∃z:Int,z=w64 (x.tdiv y)/\k (.d true .int z)
 |.rem=>y≠0/\∃z:Int,z=x.tmod y/\k (.d true .int z)
 |.shl=>0<=y/\∃z:Int,z=w64 (x*2 ^ (min y.toNat 64))/\k (.d true .int z)
 |.shr=>0<=y/\∃z:Int,z=x.fdiv (2 ^ (min y.toNat 64))/\k (.d true .int z)
 |.and=>∃z:Int,z=w64 ((BitVec.ofInt 64 x &&& BitVec.ofInt 64 y).toNat:Nat)/\k (.d true .int z)
 |.or=>∃z:Int,z=w64 ((BitVec.ofInt 64 x|||BitVec.ofInt 64 y).toNat:Nat)/\k (.d true .int z)
 |.xor=>∃z:Int,z=w64 ((BitVec.ofInt 64 x ^^^ BitVec.ofInt 64 y).toNat:Nat)/\k (.d true .int z)
 |.eql=>spl (x=y) k
 |.neq=>spl (x≠y) k
 |.lss=>spl (x<y) k
 |.leq=>spl (x<=y) k
 |.gtr=>spl (y<x) k
 |.geq=>spl (y<=x) k
 |_=>False
def binU (op:BinOp) (x y:Int) (k:AV->Prop):Prop:=
 match op with
 |.add=>∃z:Int,z=IntKind.u8.wrap (x+y)/\k (.d true .u8 z)
 |.sub=>∃z:Int,z=IntKind.u8.wrap (x-y)/\k (.d true .u8 z)
 |.eql=>spl (x=y) k
 |.neq=>spl (x≠y) k
 |.lss=>spl (x<y) k
 |.leq=>spl (x<=y) k
 |.gtr=>spl (y<x) k
 |.geq=>spl (y<=x) k
 |_=>False
def bin32 (op:BinOp) (x y:Int) (k:AV->Prop):Prop:=
 match op with
 |.add=>∃z:Int,z=IntKind.i32.wrap (x+y)/\k (.d true .i32 z)
 |.sub=>∃z:Int,z=IntKind.i32.wrap (x-y)/\k (.d true .i32 z)
 |_=>False
def bin64 (op:BinOp) (x y:Int) (k:AV->Prop):Prop:=
 match op with
 |.gtr=>spl (y<x) k
 |.lss=>spl (x<y) k
 |_=>False
def binB (op:BinOp) (x y:Bool) (k:AV->Prop):Prop:=
 match op with
 |.eql=>spl (x=y) k
 |.neq=>spl (x≠y) k
 |_=>False
def binS (op:BinOp) (x y:List UInt8) (k:AV->Prop):Prop:=
 match op with
 |.add=>x.length+y.length<=4611686018427387904/\k (.d true .str (x++y))
 |.eql=>spl (x=y) k
 |.neq=>spl (x≠y) k
 |.lss=>spl (Op.bytesLess x y=true) k
 |.geq=>spl (Op.bytesLess x y=false) k
 |.leq=>spl (Op.bytesLess x y=true\/x=y) k
 |.gtr=>spl (¬(Op.bytesLess x y=true\/x=y)) k
 |_=>False
def nilEq (T:TI) (op:BinOp) (mayNil sureNil:Prop) (k:AV->Prop):Prop:=
 match T with
 |.one (.sl _) _=>match op with
  |.eql=>(mayNil->k (.d true .bool true))/\(¬sureNil->k (.d true .bool false))
  |.neq=>(mayNil->k (.d true .bool false))/\(¬sureNil->k (.d true .bool true))
  |_=>False
 |_=>False
def bin (T:TI) (op:BinOp) (k:AV->Prop):AV->AV->Prop
 |.d _ .int x,.d _ .int y=>binI op x y k
 |.d _ .u8 x,.d _ .u8 y=>binU op x y k
 |.d _ .i32 x,.d _ .i32 y=>bin32 op x y k
 |.d _ .u64 x,.d _ .u64 y=>bin64 op x y k
 |.d _ .bool x,.d _ .bool y=>match T with|.one .bool _=>binB op x y k|_=>False
 |.d _ .str x,.d _ .str y=>binS op x y k
 |.d _ (.sl _) xs,.nil=>nilEq T op (xs=[]) False k
 |.ow _,.nil=>nilEq T op False False k
 |.nil,.nil=>nilEq T op True True k
 |.arr .mix xs,.arr .mix ys=>match T,op,xs,ys with
  |.rc [.str _,.int _],.eql,[.str a,.int x],[.str b,.int y]=>spl (a=b/\x=y) k
  |_,_,_,_=>False
 |.arr .int xs,.arr .int ys=>match T,op,xs,ys with
  |.arr .int 3 _,.eql,[x0,x1,x2],[y0,y1,y2]=>spl (x0=y0/\x1=y1/\x2=y2) k
  |_,_,_,_=>False
 |_,_=>False
def un (op:UnOp) (k:AV->Prop):AV->Prop
 |.d _ .int x=>match op with|.neg=>∃z:Int,z=w64 (0-x)/\k (.d true .int z)|_=>False
 |.d _ .bool x=>match op with|.not=>k (.d true .bool (!x))|_=>False
 |_=>False
def conv (d:TI) (k:AV->Prop):AV->Prop
 |.d _ .int x=>match d with
  |.one .int _=>∃z:Int,z=w64 x/\k (.d true .int z)
  |.one .u8 _=>∃z:Int,z=IntKind.u8.wrap x/\k (.d true .u8 z)
  |.one .i32 _=>∃z:Int,z=IntKind.i32.wrap x/\k (.d true .i32 z)
  |.one .u64 _=>∃z:Int,z=IntKind.u64.wrap x/\k (.d true .u64 z)
  |_=>False
 |.d _ .u8 x=>match d with
  |.one .int _=>∃z:Int,z=w64 x/\k (.d true .int z)
  |_=>False
 |.d _ .u64 x=>match d with
  |.one .int _=>∃z:Int,z=w64 x/\k (.d true .int z)
  |_=>False
 |.d _ .i32 x=>match d with
  |.one .str _=>∃s:List UInt8,(Utf8.encode x).data.toList=s/\k (.d true .str s)
  |.one .int _=>∃z:Int,z=w64 x/\k (.d true .int z)
  |_=>False
 |_=>False
def strOf (xs:List Int):List UInt8:=xs.map fun n=>UInt8.ofNat n.toNat
def convS (d:TI) (k:AV->Prop):AV->Prop
 |.d _ (.sl .u8) xs=>match d with
  |.one .str _=>k (.d true .str (strOf xs))
  |_=>False
 |_=>False
def kd (sh:Bool) (k:AV->Prop):(t:Ty)->List t.T->Nat->Prop
 |.int,xs,j=>k (.d true .int (List.getD xs j (0:Int)))
 |.u8,xs,j=>k (.d true .u8 (List.getD xs j (0:Int)))
 |.i32,xs,j=>k (.d true .i32 (List.getD xs j (0:Int)))
 |.u64,xs,j=>k (.d true .u64 (List.getD xs j (0:Int)))
 |.str,xs,j=>k (.d true .str (List.getD xs j ([]:List UInt8)))
 |.sl t,xs,j=>k (.d sh (.sl t) (List.getD xs j ([]:List t.T)))
 |.sw e d,xs,j=>k (.d sh (.sw e d) (List.getD xs j ([]:List Int)))
 |.mix,xs,j=>(match List.getD xs j (Mix.int 0) with
  |.int x=>k (.d true .int x)
  |.bool b=>(b=true->k (.d true .bool true))/\(b=false->k (.d true .bool false))
  |.str s=>k (.d true .str s)
  |.u8s l=>k (.d sh (.sl .u8) l)
  |.ints l=>k (.d sh (.sl .int) l))
 |.bool,xs,j=>(List.getD xs j false=true->k (.d true .bool true))/\(List.getD xs j false=false->k (.d true .bool false))
def loadK (rows:List Row) (k:AV->Prop):AV->Prop
 |.el sh t xs j=>kd sh k t xs j
 |.ptr i j=>match rows[i]? with
  |some (.sl _ t xs)=>kd true k t xs j
  |some (.box _ av)=>j=0/\k av
  |_=>False
 |.x (.pf i j f)=>match rows[i]? with
  |some (.tz _ xs)=>(match f with|0=>k (.d true (.sl .int) (List.getD xs j ([],0)).1)|1=>k (.d true .int (List.getD xs j ([],0)).2)|_=>False)
  |_=>False
 |.x (.ef sh xs j f)=>(match f with|0=>k (.d sh (.sl .int) (List.getD xs j ([],0)).1)|1=>k (.d true .int (List.getD xs j ([],0)).2)|_=>False)
 |_=>False
def loadT (rows:List Row) (k:AV->Prop):AV->Prop
 |.x (.pf i j 0)=>match rows[i]? with
  |some (.tz _ xs)=>k (.arr .mix [.ints (List.getD xs j ([],0)).1,.int (List.getD xs j ([],0)).2])
  |_=>False
 |.x (.ef true xs j 0)=>k (.arr .mix [.ints (List.getD xs j ([],0)).1,.int (List.getD xs j ([],0)).2])
 |.ptr i 0=>match rows[i]? with
  |some (.sl _ .mix xs)=>List.length xs=2/\k (.arr .mix xs)
  |_=>False
 |_=>False
def loadA (n:Nat) (rows:List Row) (k:AV->Prop):AV->Prop
 |.x (.xe .tr xs j)=>n=3/\k (.arr .int [(List.getD xs j (0,0,0)).1,(List.getD xs j (0,0,0)).2.1,(List.getD xs j (0,0,0)).2.2])
 |.ptr i 0=>match rows[i]? with
  |some (.sl _ .int xs)=>List.length xs=n/\k (.arr .int xs)
  |_=>False
 |_=>False
def loadF (k:AV->Prop):AV->Prop
 |.x (.xe .fn xs j)=>k (.fn (List.getD xs j 0) [])
 |_=>False
def idxK (T:TI) (rows:List Row) (i:AV) (k:AV->Prop):AV->Prop
 |.d sh (.sl t) xs=>match T,i with
  |.one (.sl _) _,.d _ .int n=>∃j:Nat,n=(j:Int)/\j<List.length xs/\k (.el sh t xs j)
  |_,_=>False
 |.ow r=>match T,rows[r]?,i with
  |.one (.sl _) _,some (.sl _ _ xs),.d _ .int n=>∃j:Nat,n=(j:Int)/\j<xs.length/\k (.ptr r j)
  |_,_,_=>False
 |.ptr r 0=>match T,rows[r]?,i with
  |.arr _ m _,some (.sl _ _ xs),.d _ .int n=>∃j:Nat,n=(j:Int)/\j<m/\j<xs.length/\k (.ptr r j)
  |_,_,_=>False
 |.x (.oz r)=>match T,rows[r]?,i with
  |.tz _,some (.tz _ xs),.d _ .int n=>∃j:Nat,n=(j:Int)/\j<xs.length/\k (.x (.pf r j 0))
  |_,_,_=>False
 |.x (.dz sh xs)=>match T,i with
  |.tz _,.d _ .int n=>∃j:Nat,n=(j:Int)/\j<xs.length/\k (.x (.ef sh xs j 0))
  |_,_=>False
 |.x (.xd .tr xs)=>match T,i with
  |.xs .tr _,.d _ .int n=>∃j:Nat,n=(j:Int)/\j<List.length xs/\k (.x (.xe .tr xs j))
  |_,_=>False
 |.x (.xd .fn xs)=>match T,i with
  |.xs .fn _,.d _ .int n=>∃j:Nat,n=(j:Int)/\j<List.length xs/\k (.x (.xe .fn xs j))
  |_,_=>False
 |_=>False
def shc:BinOp->Operand->Option Int
 |.shr,.const (.int .u64 n)=>some n
 |_,_=>none
def shrK (n:Int) (k:AV->Prop):AV->Prop
 |.d _ .int x=>0<=n/\∃z:Int,z=x.fdiv (2 ^ (min n.toNat 64))/\k (.d true .int z)
 |.d _ .u64 x=>0<=n/\∃z:Int,z=x.fdiv (2 ^ (min n.toNat 64))/\k (.d true .u64 z)
 |_=>False
def nilK (k:AV->Prop):AV->Prop
 |.ptr i j=>k (.ptr i j)
 |_=>False
def fldK (T:TI) (rows:List Row) (f:Nat) (k:AV->Prop):AV->Prop
 |.ptr r 0=>match T,rows[r]? with
  |.rc zs,some (.sl _ .mix xs)=>f<zs.length/\f<List.length xs/\k (.ptr r f)
  |_,_=>False
 |.x (.pf r j 0)=>match T with
  |.rc zs=>zs.length=2/\f<2/\k (.x (.pf r j f))
  |_=>False
 |.x (.ef sh xs j 0)=>match T with
  |.rc zs=>zs.length=2/\f<2/\k (.x (.ef sh xs j f))
  |_=>False
 |_=>False
def lenK (T:TI) (rows:List Row) (k:AV->Prop):AV->Prop
 |.d _ (.sl _) xs=>match T with|.one (.sl _) _=>k (.d true .int (List.length xs:Nat))|_=>False
 |.d _ .str s=>match T with|.one .str _=>k (.d true .int (List.length s:Nat))|_=>False
 |.ow r=>match T,rows[r]? with|.one (.sl _) _,some (.sl _ _ xs)=>k (.d true .int (List.length xs:Nat))|_,_=>False
 |.nil=>match T with|.one (.sl _) _=>k (.d true .int 0)|.tz _=>k (.d true .int 0)|_=>False
 |.x .emp=>match T with|.one (.sl _) _=>k (.d true .int 0)|_=>False
 |.x (.sb _ lo hi)=>match T with|.one (.sl _) _=>k (.d true .int (hi-lo:Nat))|_=>False
 |.x (.oz r)=>match T,rows[r]? with|.tz _,some (.tz _ xs)=>k (.d true .int (List.length xs:Nat))|_,_=>False
 |.x (.dz _ xs)=>match T with|.tz _=>k (.d true .int (List.length xs:Nat))|_=>False
 |.x (.xd _ xs)=>match T with|.xs _ _=>k (.d true .int (List.length xs:Nat))|_=>False
 |_=>False
def bound:Option AV->Nat->(Nat->Prop)->Prop
 |none,n,k=>k n
 |some (.d _ .int x),_,k=>∃j:Nat,x=(j:Int)/\k j
 |some _,_,_=>False
def sliceK (T:TI) (lo hi:Option AV) (k:AV->Prop):AV->Prop
 |.d sh (.sl t) xs=>match T with
  |.one (.sl _) _=>bound lo 0 fun l=>bound hi (List.length xs) fun h=>l<=h/\h<=List.length xs/\k (.d sh (.sl t) ((List.take h xs).drop l))
  |_=>False
 |.d sh .str s=>match T with
  |.one .str _=>bound lo 0 fun l=>bound hi (List.length s) fun h=>l<=h/\h<=List.length s/\k (.d sh .str ((List.take h s).drop l))
  |_=>False
 |.nil=>match T with
  |.one (.sl _) _=>bound lo 0 fun l=>bound hi 0 fun h=>l<=h/\h<=0/\k .nil
  |_=>False
 |_=>False
def sliceR (T:TI) (rows:List Row) (lo hi:Option AV) (k:AV->Prop):AV->Prop
 |.ow r=>match T,rows[r]? with
  |.one (.sl _) _,some (.sl _ _ xs)=>bound lo 0 fun l=>bound hi xs.length fun h=>l<=h/\h<=xs.length/\k (.x (.sb r l h))
  |_,_=>False
 |.x (.oz r)=>match T,rows[r]? with
  |.tz _,some (.tz _ xs)=>bound lo 0 fun l=>bound hi xs.length fun h=>l<=h/\h<=xs.length/\k (.x (.sz r l h))
  |_,_=>False
 |.x (.dz sh xs)=>match T with
  |.tz _=>bound lo 0 fun l=>bound hi xs.length fun h=>l<=h/\h<=xs.length/\k (.x (.dz sh ((xs.take h).drop l)))
  |_=>False
 |.x (.xd .fn xs)=>match T with
  |.xs .fn _=>bound lo 0 fun l=>bound hi (List.length xs) fun h=>l<=h/\h<=List.length xs/\k (.x (.xd .fn ((List.take h xs).drop l)))
  |_=>False
 |x=>sliceK T lo hi k x
def indexK (T:TI) (i:AV) (k:AV->Prop):AV->Prop
 |.d _ .str s=>match T,i with
  |.one .str _,.d _ .int n=>∃j:Nat,n=(j:Int)/\j<List.length s/\k (.d true .u8 ((List.getD s j 0).toNat:Nat))
  |_,_=>False
 |_=>False
def splB (k:AV->Prop):AV->Prop
 |.d sh .bool b=>(b=true->k (.d sh .bool true))/\(b=false->k (.d sh .bool false))
 |x=>k x
theorem splB_ok {w:World} {bs:List Nat} {A:Nat->Prop} {rows:List Row} {k:AV->Prop} {x:AV} {v:Value} (hv:V w bs A rows x v) (h:splB k x):∃y,V w bs A rows y v/\k y:=by
 unfold splB at h
 split at h
 .rename_i sh b
  cases b
  .exact ⟨_,hv,h.2 rfl⟩
  .exact ⟨_,hv,h.1 rfl⟩
 .exact ⟨_,hv,h⟩
def extrK (l:AV) (i:Nat) (k:AV->Prop):Prop:=
 match l with
 |.tup l=>match l[i]? with|some av=>splB k av|none=>False
 |_=>False
def pickK (c x y:AV) (k:AV->Prop):Prop:=
 match c with
 |.d _ .bool b=>match (b:Bool) with|true=>k x|false=>k y
 |_=>False
def mmK (mx:Bool) (k:AV->Prop):List AV->Prop
 |[.d _ .int x,.d _ .int y]=>k (.d true .int (match mx with|true=>(if (x:Int)<y then y else x)|false=>(if (y:Int)<x then y else x)))
 |_=>False
def pOp (τ:Nat->TI) (st:St) (o:Op) (k:AV->Prop):Prop:=
 match o with
 |.move x=>k (evl st.env x)
 |.assign x=>k (evl st.env x)
 |.pick c x y=>pickK (evl st.env c) (evl st.env x) (evl st.env y) k
 |.binOp op T x y _=>match shc op y with|some n=>shrK n k (evl st.env x)|none=>bin (τ T) op k (evl st.env x) (evl st.env y)
 |.unOp op _ x=>un op k (evl st.env x)
 |.convert s d x=>match τ s with|.none=>False|.one (.sl .u8) _=>convS (τ d) k (evl st.env x)|_=>conv (τ d) k (evl st.env x)
 |.load T x=>match τ T with|.one _ _=>loadK st.rows k (evl st.env x)|.rc [_,_]=>loadT st.rows k (evl st.env x)|.arr .int n _=>loadA n st.rows k (evl st.env x)|.fn=>loadF k (evl st.env x)|_=>False
 |.nilCheck x=>nilK k (evl st.env x)
 |.fieldAddr T x f=>fldK (τ T) st.rows f k (evl st.env x)
 |.indexAddr T x i=>idxK (τ T) st.rows (evl st.env i) k (evl st.env x)
 |.index T x i=>indexK (τ T) (evl st.env i) k (evl st.env x)
 |.slice T x lo hi none=>sliceR (τ T) st.rows (lo.map (evl st.env)) (hi.map (evl st.env)) k (evl st.env x)
 |.extract x i=>extrK (evl st.env x) i k
 |.makeFunc (.func f) first captured=>first.size=0/\k (.fn f (captured.toList.map (evl st.env)))
 |.call c=>match c.callee with
  |.builtin .len=>match c.args.toList,c.argTypes.toList with|[x],[T]=>lenK (τ T) st.rows k (evl st.env x)|_,_=>False
  |.builtin .cap=>match c.args.toList,c.argTypes.toList with
   |[x],[T]=>match τ T,evl st.env x with
    |.one (.sl _) _,.nil=>k (.d true .int 0)
    |_,_=>False
   |_,_=>False
  |.builtin .max=>mmK true k (c.args.toList.map (evl st.env))
  |.builtin .min=>mmK false k (c.args.toList.map (evl st.env))
  |_=>False
 |_=>False
theorem getD_get {α:Type} (l:List α) (j:Nat) (d:α) (h:j<l.length):l.getD j d=l[j]:=by simp [List.getD,h]
def Ext (w w':World):Prop:=w.heap.size<=w'.heap.size/\∀k,k<w.heap.size->w'.heap[k]? =w.heap[k]?
theorem Ext.refl (w:World):Ext w w:=⟨Nat.le_refl _,fun _ _=>rfl⟩
theorem Ext.cell {w w':World} (h:Ext w w') {b o:Nat} {v:Value} (hc:w.cell? ⟨b,o,none⟩=some v):w'.cell? ⟨b,o,none⟩=some v:=
 (cell_of_block (h.2 b (cell_lt hc))).trans hc
def Pure1 (P:Program) (w:World) (bs:List Nat) (A:Nat->Prop) (rows:List Row) (s:Sem Value) (k:AV->Prop):Prop:=
 ∃v av,(∀w',Ext w w'->s.run P w'=.ok v w')/\V w bs A rows av v/\k av
section
variable {P:Program} {τ:Nat->TI} {w:World} {bs:List Nat} {A:Nat->Prop} {rows:List Row} {k:AV->Prop}
def Pure2 (P:Program) (w:World) (bs:List Nat) (A:Nat->Prop) (rows:List Row) (s:Sem Value) (k:AV->Prop):Prop:=
 ∃v av,(∀w',s.run P w'=.ok v w')/\V w bs A rows av v/\k av
theorem Pure2.p1 {s:Sem Value} (h:Pure2 P w bs A rows s k):Pure1 P w bs A rows s k:=by
 obtain ⟨v,av,h1,h2,h3⟩:=h
 exact ⟨v,av,fun w' _=>h1 w',h2,h3⟩
theorem Pure1.mk {s:Sem Value} (v:Value) (av:AV) (h:∀w',Ext w w'->s.run P w'=.ok v w') (hv:V w bs A rows av v) (hk:k av):Pure1 P w bs A rows s k:=⟨v,av,h,hv,hk⟩
theorem spl_pure {s:Sem Value} {p:Prop} [Decidable p] (hs:∀w',s.run P w'=.ok (.bool (decide p)) w') (h:spl p k):Pure1 P w bs A rows s k:=by
 by_cases hp:p
 .exact ⟨_,_,fun w' _=>hs w',by simp [hp];rfl,h.1 hp⟩
 .exact ⟨_,_,fun w' _=>hs w',by simp [hp];rfl,h.2 hp⟩
theorem pI {s:Sem Value} {z:Int} (hs:∀w',s.run P w'=.ok (.int .i64 z) w') (h:k (.d true .int z)):Pure1 P w bs A rows s k:=
 ⟨.int .i64 z,.d true .int z,fun w' _=>hs w',rfl,h⟩
theorem pU {s:Sem Value} {z:Int} (hs:∀w',s.run P w'=.ok (.int .u8 z) w') (h:k (.d true .u8 z)):Pure1 P w bs A rows s k:=
 ⟨.int .u8 z,.d true .u8 z,fun w' _=>hs w',rfl,h⟩
theorem p64 {s:Sem Value} {z:Int} (hs:∀w',s.run P w'=.ok (.int .u64 z) w') (h:k (.d true .u64 z)):Pure1 P w bs A rows s k:=
 ⟨.int .u64 z,.d true .u64 z,fun w' _=>hs w',rfl,h⟩
theorem p32 {s:Sem Value} {z:Int} (hs:∀w',s.run P w'=.ok (.int .i32 z) w') (h:k (.d true .i32 z)):Pure1 P w bs A rows s k:=
 ⟨.int .i32 z,.d true .i32 z,fun w' _=>hs w',rfl,h⟩
theorem pB {s:Sem Value} {z:Bool} (hs:∀w',s.run P w'=.ok (.bool z) w') (h:k (.d true .bool z)):Pure1 P w bs A rows s k:=
 ⟨.bool z,.d true .bool z,fun w' _=>hs w',rfl,h⟩
theorem pS {s:Sem Value} {z:List UInt8} (hs:∀w',s.run P w'=.ok (.string ⟨z.toArray⟩) w') (h:k (.d true .str z)):Pure1 P w bs A rows s k:=
 ⟨.string ⟨z.toArray⟩,.d true .str z,fun w' _=>hs w',rfl,h⟩
theorem binI_ok {op:BinOp} {x y:Int} {T:TypeId} {ox oy:Operand} (h:binI op x y k):
 Pure1 P w bs A rows (do eqGuard op T ox oy (.int .i64 x) (.int .i64 y);binOp op T (.int .i64 x) (.int .i64 y)) k:=by
 cases op<;>simp only [binI] at h
 case add=>obtain ⟨z,rfl,h⟩:=h;exact pI (fun w'=>by simp [eqGuard,binOp,Op.intArith]<;>rfl) h
 case sub=>obtain ⟨z,rfl,h⟩:=h;exact pI (fun w'=>by simp [eqGuard,binOp,Op.intArith]<;>rfl) h
 case mul=>obtain ⟨z,rfl,h⟩:=h;exact pI (fun w'=>by simp [eqGuard,binOp,Op.intArith]<;>rfl) h
 case quo=>obtain ⟨hy,z,rfl,h⟩:=h;exact pI (fun w'=>by simp [eqGuard,binOp,Op.intDiv,hy]<;>rfl) h
 case rem=>obtain ⟨hy,z,rfl,h⟩:=h;exact pI (fun w'=>by simp [eqGuard,binOp,Op.intDiv,hy]<;>rfl) h
 case shl=>
  obtain ⟨hy,z,rfl,h⟩:=h
  exact pI (fun w'=>by simp [eqGuard,binOp,Op.shift,show ¬y<0 by omega,IntKind.bits]<;>rfl) h
 case shr=>
  obtain ⟨hy,z,rfl,h⟩:=h
  exact pI (fun w'=>by simp [eqGuard,binOp,Op.shift,show ¬y<0 by omega,IntKind.bits]<;>rfl) h
 case and=>obtain ⟨z,rfl,h⟩:=h;exact pI (fun w'=>by simp [eqGuard,binOp,Op.intBits,IntKind.bits]<;>rfl) h
 case or=>obtain ⟨z,rfl,h⟩:=h;exact pI (fun w'=>by simp [eqGuard,binOp,Op.intBits,IntKind.bits]<;>rfl) h
 case xor=>obtain ⟨z,rfl,h⟩:=h;exact pI (fun w'=>by simp [eqGuard,binOp,Op.intBits,IntKind.bits]<;>rfl) h
 case eql=>exact spl_pure (fun w'=>by simp [eqGuard,binOp,Op.intCmp]<;>rfl) h
 case neq=>exact spl_pure (fun w'=>by simp [eqGuard,binOp,Op.intCmp]<;>rfl) h
 case lss=>exact spl_pure (fun w'=>by simp [eqGuard,binOp,Op.intCmp]) h
 case leq=>exact spl_pure (fun w'=>by simp [eqGuard,binOp,Op.intCmp]) h
 case gtr=>exact spl_pure (fun w'=>by simp [eqGuard,binOp,Op.intCmp]) h
 case geq=>exact spl_pure (fun w'=>by simp [eqGuard,binOp,Op.intCmp]) h
 all_goals exact h.elim
theorem binU_ok {op:BinOp} {x y:Int} {T:TypeId} {ox oy:Operand} (h:binU op x y k):
 Pure1 P w bs A rows (do eqGuard op T ox oy (.int .u8 x) (.int .u8 y);binOp op T (.int .u8 x) (.int .u8 y)) k:=by
 cases op<;>simp only [binU] at h
 case add=>obtain ⟨z,rfl,h⟩:=h;exact pU (fun w'=>by simp [eqGuard,binOp,Op.intArith]<;>rfl) h
 case sub=>obtain ⟨z,rfl,h⟩:=h;exact pU (fun w'=>by simp [eqGuard,binOp,Op.intArith]<;>rfl) h
 case eql=>exact spl_pure (fun w'=>by simp [eqGuard,binOp,Op.intCmp]<;>rfl) h
 case neq=>exact spl_pure (fun w'=>by simp [eqGuard,binOp,Op.intCmp]<;>rfl) h
 case lss=>exact spl_pure (fun w'=>by simp [eqGuard,binOp,Op.intCmp]) h
 case leq=>exact spl_pure (fun w'=>by simp [eqGuard,binOp,Op.intCmp]) h
 case gtr=>exact spl_pure (fun w'=>by simp [eqGuard,binOp,Op.intCmp]) h
 case geq=>exact spl_pure (fun w'=>by simp [eqGuard,binOp,Op.intCmp]) h
 all_goals exact h.elim
theorem bin32_ok {op:BinOp} {x y:Int} {T:TypeId} {ox oy:Operand} (h:bin32 op x y k):
 Pure1 P w bs A rows (do eqGuard op T ox oy (.int .i32 x) (.int .i32 y);binOp op T (.int .i32 x) (.int .i32 y)) k:=by
 cases op<;>simp only [bin32] at h
 case add=>obtain ⟨z,rfl,h⟩:=h;exact p32 (fun w'=>by simp [eqGuard,binOp,Op.intArith]<;>rfl) h
 case sub=>obtain ⟨z,rfl,h⟩:=h;exact p32 (fun w'=>by simp [eqGuard,binOp,Op.intArith]<;>rfl) h
 all_goals exact h.elim
theorem bin64_ok {op:BinOp} {x y:Int} {T:TypeId} {ox oy:Operand} (h:bin64 op x y k):
 Pure1 P w bs A rows (do eqGuard op T ox oy (.int .u64 x) (.int .u64 y);binOp op T (.int .u64 x) (.int .u64 y)) k:=by
 cases op<;>simp only [bin64] at h
 case gtr=>exact spl_pure (fun w'=>by simp [eqGuard,binOp,Op.intCmp]<;>rfl) h
 case lss=>exact spl_pure (fun w'=>by simp [eqGuard,binOp,Op.intCmp]<;>rfl) h
 all_goals exact h.elim
theorem binB_ok {op:BinOp} {x y:Bool} {T:TypeId} {ox oy:Operand} (hu:P.underlying T=some .bool) (h:binB op x y k):
 Pure1 P w bs A rows (do eqGuard op T ox oy (.bool x) (.bool y);binOp op T (.bool x) (.bool y)) k:=by
 cases op<;>simp only [binB] at h
 case eql=>exact spl_pure (fun w'=>by rw [Sem.run_bind];simp only [eqGuard];simp [run_eql_bool w' T x y hu];cases x<;>cases y<;>rfl) h
 case neq=>
  have e:∀w',(binOp .neq T (.bool x) (.bool y)).run P w'=.ok (.bool (!(x==y))) w':=fun w'=>by
   show (Sem.bind (Op.equal T (.bool x) (.bool y)) _).run P w'=_
   have:=run_equal_bool (P:=P) w' T x y hu
   rw [show (Sem.bind (Op.equal T (.bool x) (.bool y)) (fun b=>pure (Value.bool !b)))=(Op.equal T (.bool x) (.bool y)>>=(fun b=>pure (Value.bool !b))) from rfl,Sem.run_bind,this]
   simp
  exact spl_pure (fun w'=>by rw [Sem.run_bind];simp only [eqGuard];simp [e];cases x<;>cases y<;>rfl) h
 all_goals exact h.elim
theorem sz (x:List UInt8):(ByteArray.mk x.toArray).size=x.length:=by simp [ByteArray.size]
theorem app (x y:List UInt8):(ByteArray.mk x.toArray)++(ByteArray.mk y.toArray)=ByteArray.mk (x++y).toArray:=by
 apply ByteArray.ext
 simp
theorem binS_ok {op:BinOp} {x y:List UInt8} {T:TypeId} {ox oy:Operand} (h:binS op x y k):
 Pure1 P w bs A rows (do eqGuard op T ox oy (.string ⟨x.toArray⟩) (.string ⟨y.toArray⟩);binOp op T (.string ⟨x.toArray⟩) (.string ⟨y.toArray⟩)) k:=by
 cases op<;>simp only [binS] at h
 case add=>
  obtain ⟨hl,h⟩:=h
  refine pS (fun w'=>?_) h
  simp only [eqGuard,binOp,Op.stringOp,sz,app]
  simp
  omega
 case eql=>exact spl_pure (fun w'=>by simp [eqGuard,binOp,Op.stringOp];cases hxy:(x==y)<;>simp_all) h
 case neq=>exact spl_pure (fun w'=>by simp [eqGuard,binOp,Op.stringOp];cases hxy:(x==y)<;>simp_all) h
 case lss=>exact spl_pure (fun w'=>by simp [eqGuard,binOp,Op.stringOp]) h
 case geq=>exact spl_pure (fun w'=>by simp [eqGuard,binOp,Op.stringOp]) h
 case leq=>exact spl_pure (fun w'=>by simp [eqGuard,binOp,Op.stringOp];cases Op.bytesLess x y<;>cases hxy:(x==y)<;>simp_all) h
 case gtr=>exact spl_pure (fun w'=>by simp [eqGuard,binOp,Op.stringOp];cases Op.bytesLess x y<;>cases hxy:(x==y)<;>simp_all) h
 all_goals exact h.elim
theorem nilEq_ok (hτ:TyOk P τ) {op:BinOp} {T:TypeId} {ox oy:Operand} {a:Option Addr} {n c:Nat} {may sure:Prop} (h1:a=none->may) (h2:sure->a=none) (h:nilEq (τ T) op may sure k):
 Pure1 P w bs A rows (do eqGuard op T ox oy (.slice a n c) (.slice none 0 0);binOp op T (.slice a n c) (.slice none 0 0)) k:=by
 unfold nilEq at h
 split at h
 .rename_i t e hT
  obtain ⟨hu,_⟩:=(hτ.one _ _ _ hT).1
  have hr:∀w',(Op.equal T (.slice a n c) (.slice none 0 0)).run P w'=.ok a.isNone w':=fun w'=>run_equal_slice_nil w' T e a n c hu
  have hb:∀{b:Bool},(b=true->k (.d true .bool true))/\(b=false->k (.d true .bool false))->k (.d true .bool b):=fun {b} h=>by
   cases b
   .exact h.2 rfl
   .exact h.1 rfl
  split at h
  .refine pB (z:=a.isNone) (fun w'=>?_) (hb ⟨fun hn=>h.1 (h1 (by simpa using hn)),fun hn=>h.2 (fun hs=>by rw [h2 hs] at hn;cases hn)⟩)
   simp [eqGuard,binOp,hr]
  .refine pB (z:= !a.isNone) (fun w'=>?_) (hb ⟨fun hn=>h.2 (fun hs=>by rw [h2 hs] at hn;cases hn),fun hn=>h.1 (h1 (by simpa using hn))⟩)
   simp [eqGuard,binOp,hr]
  .exact h.elim
 .exact h.elim
theorem agg2 {cs:Array Value} {u v:Value} (h:cs.size=2) (h0:cs[0]? =some u) (h1:cs[1]? =some v):cs= #[u,v]:=by
 apply Array.ext
 .simpa using h
 .intro i hi hj
  match i,hi,hj with
  |0,hi,_=>rw [Array.getElem?_eq_getElem hi] at h0;simpa using h0
  |1,hi,_=>rw [Array.getElem?_eq_getElem hi] at h1;simpa using h1
  |i+2,hi,_=>omega
theorem agg3 {cs:Array Value} {u v x:Value} (h:cs.size=3) (h0:cs[0]? =some u) (h1:cs[1]? =some v) (h2:cs[2]? =some x):cs= #[u,v,x]:=by
 apply Array.ext
 .simpa using h
 .intro i hi hj
  match i,hi,hj with
  |0,hi,_=>rw [Array.getElem?_eq_getElem hi] at h0;simpa using h0
  |1,hi,_=>rw [Array.getElem?_eq_getElem hi] at h1;simpa using h1
  |2,hi,_=>rw [Array.getElem?_eq_getElem hi] at h2;simpa using h2
  |i+3,hi,_=>omega
theorem bytes_toList (l:List UInt8):(⟨l.toArray⟩:ByteArray).toList=l:=by
 rw [ByteArray.toList_eq]
theorem bin_ok (hτ:TyOk P τ) {op:BinOp} {T:TypeId} {ox oy:Operand} {x y:AV} {vx vy:Value} (hx:V w bs A rows x vx) (hy:V w bs A rows y vy) (h:bin (τ T) op k x y):
 Pure1 P w bs A rows (do eqGuard op T ox oy vx vy;binOp op T vx vy) k:=by
 unfold bin at h
 split at h
 .cases hx;cases hy;exact binI_ok h
 .cases hx;cases hy;exact binU_ok h
 .cases hx;cases hy;exact bin32_ok h
 .cases hx;cases hy;exact bin64_ok h
 .cases hx;cases hy
  split at h
  .rename_i e hT
   exact binB_ok (hτ.one _ _ _ hT).1 h
  .exact h.elim
 .cases hx;cases hy;exact binS_ok h
 .obtain ⟨a,cap,rfl,_,hnn,hx⟩:=hx
  cases hy
  refine nilEq_ok hτ (fun hn=>?_) (fun hs=>hs.elim) h
  rcases hx with hx|⟨b,o,ha,_⟩
  .exact hx
  .rw [ha] at hn;cases hn
 .obtain ⟨b,e,t,xs,cur,h1,h2,h3,rfl⟩:=hx
  cases hy
  exact nilEq_ok hτ (fun hn=>by cases hn) (fun hs=>hs.elim) h
 .cases hx;cases hy
  exact nilEq_ok hτ (fun _=>trivial) (fun _=>rfl) h
 .rename_i xs ys
  split at h
  .rename_i s0 n0 a x b y hT
   have hE:=hτ.eqv T
   rw [hT] at hE
   obtain ⟨cs,rfl,h1,h2⟩:=hx
   obtain ⟨ds,rfl,k1,k2⟩:=hy
   obtain ⟨c0,e0,r0⟩:=h2 0 (by simp)
   obtain ⟨c1,e1,r1⟩:=h2 1 (by simp)
   obtain ⟨d0,f0,t0⟩:=k2 0 (by simp)
   obtain ⟨d1,f1,t1⟩:=k2 1 (by simp)
   cases r0;cases r1;cases t0;cases t1
   have hc:=agg2 h1 e0 e1
   have hd:=agg2 k1 f0 f1
   subst hc;subst hd
   refine spl_pure (fun w'=>?_) h
   rw [hE]
   congr 2
   simp only [bytes_toList]
   by_cases h3:a=b<;>by_cases h4:x=y<;>simp [h3,h4]
  .exact h.elim
 .rename_i xs ys
  split at h
  .rename_i e0' x0 x1 x2 y0 y1 y2 hT
   have hE:=hτ.eqv T
   rw [hT] at hE
   obtain ⟨cs,rfl,h1,h2⟩:=hx
   obtain ⟨ds,rfl,k1,k2⟩:=hy
   obtain ⟨c0,e0,r0⟩:=h2 0 (by simp)
   obtain ⟨c1,e1,r1⟩:=h2 1 (by simp)
   obtain ⟨c2,e2,r2⟩:=h2 2 (by simp)
   obtain ⟨d0,f0,t0⟩:=k2 0 (by simp)
   obtain ⟨d1,f1,t1⟩:=k2 1 (by simp)
   obtain ⟨d2,f2,t2⟩:=k2 2 (by simp)
   cases r0;cases r1;cases r2;cases t0;cases t1;cases t2
   have hc:=agg3 h1 e0 e1 e2
   have hd:=agg3 k1 f0 f1 f2
   subst hc;subst hd
   refine spl_pure (fun w'=>?_) h
   rw [hE]
   congr 2
   by_cases h3:x0=y0<;>by_cases h4:x1=y1<;>by_cases h5:x2=y2<;>simp [h3,h4,h5]
  .exact h.elim
 .exact h.elim
theorem un_ok {op:UnOp} {x:AV} {vx:Value} (hx:V w bs A rows x vx) (h:un op k x):Pure1 P w bs A rows (Op.unary op vx) k:=by
 unfold un at h
 split at h
 .cases hx
  split at h
  .obtain ⟨z,rfl,h⟩:=h;exact pI (fun w'=>by simp [Op.unary,Op.intArith]<;>rfl) h
  .exact h.elim
 .cases hx
  split at h
  .exact pB (fun w'=>by simp [Op.unary]) h
  .exact h.elim
 .exact h.elim
theorem convS_ok (hτ:TyOk P τ) {s d:TypeId} {e:Nat} {x:AV} {vx:Value} (hs:τ s=.one (.sl .u8) e) (hx:V w bs A rows x vx) (h:convS (τ d) k x):Pure1 P w bs A rows (convert s d vx) k:=by
 have hus:=(hτ.one _ _ _ hs).1
 obtain ⟨hus,e',he⟩:=hus
 have hue:P.underlying e=some (.int .u8):=(hτ.one _ _ _ he).1
 unfold convS at h
 split at h
 .rename_i sh xs
  split at h
  .rename_i e2 hd
   have hud:P.underlying d=some .string:=(hτ.one _ _ _ hd).1
   refine Pure1.mk (.string ⟨(strOf xs).toArray⟩) (.d true .str (strOf xs)) (fun w' hw=>?_) (show _=_ from rfl) h
   obtain ⟨a,cap,rfl,hcap,hn,hc⟩:=hx
   rcases hc with rfl|⟨b,o,rfl,hS,hc⟩
   .cases a with
    |none=>exact run_convert_bytes_nil w' s e hus hue _ _ d hud
    |some ad=>
     rw [run_convert_bytes_string w' s d e _ _ _ hus hue hud]
     exact run_bytesToString w' ad 0 cap [] (run_loadCells_list (P:=P) w' ad [] (fun j v hj=>by simp at hj))
   .refine run_convert_bytes_arg w' s e hus hue b o _ cap xs rfl (fun i hi=>?_) d hud
    obtain ⟨cv,h1,h2⟩:=hc i hi
    rw [hw.cell h1]
    cases h2
    rw [getD_get _ _ _ hi]
  .exact h.elim
 .exact h.elim
theorem conv_ok (hτ:TyOk P τ) {s d:TypeId} {x:AV} {vx:Value} (hs:τ s≠.none) (hx:V w bs A rows x vx) (h:conv (τ d) k x):Pure1 P w bs A rows (convert s d vx) k:=by
 have hus:∃u,P.underlying s=some u:=by
  cases hT:τ s with
  |none=>exact (hs hT).elim
  |arr t n e=>exact ⟨_,(hτ.arr _ _ _ _ hT).1⟩
  |rc zs=>obtain ⟨f,hf,_⟩:=hτ.rc _ _ hT;exact ⟨_,hf⟩
  |tz e=>exact ⟨_,(hτ.tz _ _ hT).1⟩
  |xs t e=>exact ⟨_,(hτ.xs _ _ _ hT).1⟩
  |fn=>obtain ⟨d,hd,_⟩:=hτ.fn _ hT;exact ⟨d,hd⟩
  |one t e=>
   have:=(hτ.one _ _ _ hT).1
   cases t<;>first|exact this.elim|exact ⟨_,this⟩|exact ⟨_,this.1⟩
 obtain ⟨u,hu⟩:=hus
 unfold conv at h
 split at h
 .cases hx
  split at h<;>first|exact h.elim|(rename_i e hT;have hd:=(hτ.one _ _ _ hT).1;obtain ⟨z,rfl,h⟩:=h;first|exact pI (fun w'=>by simp [convert,run_underlying hu,run_underlying hd,Conv.intToInt]<;>rfl) h|exact pU (fun w'=>by simp [convert,run_underlying hu,run_underlying hd,Conv.intToInt]) h|exact p32 (fun w'=>by simp [convert,run_underlying hu,run_underlying hd,Conv.intToInt]) h|exact p64 (fun w'=>by simp [convert,run_underlying hu,run_underlying hd,Conv.intToInt]) h)
 .cases hx
  split at h<;>first|exact h.elim|(rename_i e hT;have hd:=(hτ.one _ _ _ hT).1;obtain ⟨z,rfl,h⟩:=h;first|exact pI (fun w'=>by simp [convert,run_underlying hu,run_underlying hd,Conv.intToInt]<;>rfl) h|exact pU (fun w'=>by simp [convert,run_underlying hu,run_underlying hd,Conv.intToInt]) h|exact p32 (fun w'=>by simp [convert,run_underlying hu,run_underlying hd,Conv.intToInt]) h)
 .cases hx
  split at h
  .rename_i e hT;have hd:=(hτ.one _ _ _ hT).1;obtain ⟨z,rfl,h⟩:=h
   exact pI (fun w'=>by simp [convert,run_underlying hu,run_underlying hd,Conv.intToInt]<;>rfl) h
  .exact h.elim
 .cases hx
  split at h
  .rename_i e hT;have hd:=(hτ.one _ _ _ hT).1;obtain ⟨z,rfl,h⟩:=h
   exact pS (fun w'=>by simp [convert,run_underlying hu,run_underlying hd,Conv.intToString]) h
  .rename_i e hT;have hd:=(hτ.one _ _ _ hT).1;obtain ⟨z,rfl,h⟩:=h
   exact pI (fun w'=>by simp [convert,run_underlying hu,run_underlying hd,Conv.intToInt]<;>rfl) h
  .exact h.elim
 .exact h.elim
end
section
variable {P:Program} {τ:Nat->TI} {w:World} {bs:List Nat} {A:Nat->Prop} {rows:List Row} {k:AV->Prop} {a:Act} {N:Nat} {st:St}
theorem run_info {T:TypeId} {i:TypeInfo} (hi:P.info? T=some i) (w':World):(typeInfo T).run P w'=.ok i w':=by simp [typeInfo,hi]
theorem run_sizeOf1 {T:TypeId} {i:TypeInfo} (hi:P.info? T=some i) (h1:i.size=1) (w':World):(sizeOf T).run P w'=.ok 1 w':=by
 simp [sizeOf,run_info hi,h1]
theorem OneOk.desc {T:TypeId} {e:Nat} {t:Ty} (h:OneOk P τ T e t):∃d,P.underlying T=some d/\(∀f,d≠.struct f)/\(∀n e,d≠.array n e):=by
 cases t<;>first|exact h.elim|exact ⟨_,h,by simp,by simp⟩|exact ⟨_,h.1,by simp,by simp⟩
theorem run_isAgg {T:TypeId} {e:Nat} {t:Ty} (h:OneOk P τ T e t) (w':World):(isAgg T).run P w'=.ok false w':=by
 obtain ⟨d,hd,h1,h2⟩:=h.desc
 simp only [isAgg,Sem.run_bind,run_underlying hd,Result.andThen_ok]
 cases d<;>simp_all
theorem run_loadOne (hτ:TyOk P τ) {T:TypeId} {e:Nat} {t:Ty} (hT:τ T=.one t e) {ad:Addr} {v:Value} {w':World} (hc:w'.cell? ad=some v):
 (Instr.loadAt T (.pointer (some ad))).run P w'=.ok v w':=by
 simp only [Instr.loadAt,Instr.sureAddr,loadVar,Sem.run_bind,Sem.run_pure,Result.andThen_ok,run_isAgg (hτ.one _ _ _ hT).1]
 simp [hc]
theorem kd_ok {s:Sem Value} {v:Value} {sh:Bool}:∀(t:Ty) (xs:List t.T) (j:Nat) (hj:j<xs.length),(∀w',Ext w w'->s.run P w'=.ok v w')->Rd w (SS bs A sh) t xs[j] v->kd sh k t xs j->Pure1 P w bs A rows s k
 |.int,xs,j,hj,hs,hv,h=>⟨v,.d true .int (List.getD xs j (0:Int)),hs,by rw [getD_get _ _ _ hj];exact hv,h⟩
 |.u8,xs,j,hj,hs,hv,h=>⟨v,.d true .u8 (List.getD xs j (0:Int)),hs,by rw [getD_get _ _ _ hj];exact hv,h⟩
 |.i32,xs,j,hj,hs,hv,h=>⟨v,.d true .i32 (List.getD xs j (0:Int)),hs,by rw [getD_get _ _ _ hj];exact hv,h⟩
 |.u64,xs,j,hj,hs,hv,h=>⟨v,.d true .u64 (List.getD xs j (0:Int)),hs,by rw [getD_get _ _ _ hj];exact hv,h⟩
 |.str,xs,j,hj,hs,hv,h=>⟨v,.d true .str (List.getD xs j ([]:List UInt8)),hs,by rw [getD_get _ _ _ hj];exact hv,h⟩
 |.mix,xs,j,hj,hs,hv,h=>by
  simp only [kd] at h
  rw [getD_get _ _ _ hj] at h
  have hv:RdM w (SS bs A sh) xs[j] v:=hv
  generalize xs[j]=m at*
  cases m with
  |int x=>exact ⟨v,.d true .int x,hs,hv,h⟩
  |str x=>exact ⟨v,.d true .str x,hs,hv,h⟩
  |bool x=>
   cases x
   .exact ⟨v,.d true .bool false,hs,hv,h.2 rfl⟩
   .exact ⟨v,.d true .bool true,hs,hv,h.1 rfl⟩
  |u8s x=>exact ⟨v,.d sh (.sl .u8) x,hs,hv,h⟩
  |ints x=>exact ⟨v,.d sh (.sl .int) x,hs,hv,h⟩
 |.sl t,xs,j,hj,hs,hv,h=>⟨v,.d sh (.sl t) (List.getD xs j ([]:List t.T)),hs,by rw [getD_get _ _ _ hj];exact hv,h⟩
 |.sw e d,xs,j,hj,hs,hv,h=>⟨v,.d sh (.sw e d) (List.getD xs j ([]:List Int)),hs,by rw [getD_get _ _ _ hj];exact hv,h⟩
 |.bool,xs,j,hj,hs,hv,h=>by
  replace h:(List.getD xs j false=true->k (.d true .bool true))/\(List.getD xs j false=false->k (.d true .bool false)):=h
  rw [getD_get _ _ _ hj] at h
  cases hx:xs[j] with
  |false=>rw [hx] at hv;exact ⟨v,.d true .bool false,hs,hv,h.2 hx⟩
  |true=>rw [hx] at hv;exact ⟨v,.d true .bool true,hs,hv,h.1 hx⟩
theorem addr_add (b o n:Nat):(⟨b,o,none⟩:Addr).add n=⟨b,o+n,none⟩:=by
 unfold Addr.add;split<;>simp_all
theorem Sat.pair (hs:Sat w bs A a N st) {i b e:Nat} {xs:List Tm} (hb:bs[i]? =some b) (hr:st.rows[i]? =some (.tz e xs)) {j:Nat} (hj:j<xs.length):
 ∃c1 c2,w.cell? ⟨b,2*j,none⟩=some c1/\w.cell? ⟨b,2*j+1,none⟩=some c2/\RdP w A xs[j] c1 c2:=by
 obtain ⟨_,cur,_,_,_,hc⟩:=hs.row i b _ hb hr
 simpa using hc j hj
theorem load_ok (hτ:TyOk P τ) (hs:Sat w bs A a N st) {T:TypeId} {e:Nat} {t:Ty} (hT:τ T=.one t e) {x:AV} {vx:Value} (hx:V w bs A st.rows x vx) (h:loadK st.rows k x):
 Pure1 P w bs A st.rows (Instr.loadAt T vx) k:=by
 unfold loadK at h
 split at h
 .rename_i sh t' xs j
  obtain ⟨hj,b,o,rfl,hS,hc⟩:=hx
  obtain ⟨cv,h1,h2⟩:=hc j hj
  exact kd_ok t' xs j hj (fun w' hw=>run_loadOne hτ hT (hw.cell h1)) h2 h
 .rename_i i j
  obtain ⟨b,r,hb,hr,hj,rfl⟩:=hx
  rw [hr] at h
  have hrow:=hs.row i b r hb hr
  cases r with
  |sl e' t' xs=>
   obtain ⟨_,cur,hcur,_,_,hcells⟩:=hrow
   have hj':j<xs.length:=hj
   obtain ⟨cv,h1,h2⟩:=hcells j hj'
   simp only at h
   have hcell:w.cell? ⟨b,j,none⟩=some cv:=by rw [cell_of_row w b j cur e' (0,0) hcur];exact h1
   exact kd_ok (sh:=true) t' xs j hj' (fun w' hw=>run_loadOne hτ hT (hw.cell hcell)) h2 h
  |box e' av=>
   obtain ⟨_,cv,hcur,hv⟩:=hrow
   obtain ⟨rfl,h⟩:=h
   have hcell:w.cell? ⟨b,0,none⟩=some cv:=by rw [cell_of_row w b 0 _ e' (0,0) hcur];rfl
   exact ⟨cv,av,fun w' hw=>run_loadOne hτ hT (hw.cell hcell),hv,h⟩
  |tz e' xs=>exact h.elim
  |dead=>exact h.elim
 .rename_i i j f
  obtain ⟨b,e',xs,hb,hr,hj,hf,rfl⟩:=hx
  rw [hr] at h
  obtain ⟨c1,c2,h1,h2,h3,h4⟩:=hs.pair hb hr hj
  have hg:List.getD xs j ([],0)=xs[j]:=getD_get _ _ _ hj
  simp only [hg] at h
  match f,hf,h with
  |0,_,h=>exact ⟨c1,.d true (.sl .int) (xs[j]).1,fun w' hw=>run_loadOne hτ hT (hw.cell h1),RdI_rd h3,h⟩
  |1,_,h=>exact ⟨c2,.d true .int (xs[j]).2,fun w' hw=>run_loadOne hτ hT (hw.cell h2),h4,h⟩
 .rename_i sh xs j f
  obtain ⟨hj,hf,b,o,rfl,hS,hc⟩:=hx
  obtain ⟨c1,c2,h1,h2,h3,h4⟩:=hc j hj
  have hg:List.getD xs j ([],0)=xs[j]:=getD_get _ _ _ hj
  simp only [hg] at h
  match f,hf,h with
  |0,_,h=>exact ⟨c1,.d sh (.sl .int) (xs[j]).1,fun w' hw=>run_loadOne hτ hT (hw.cell h1),RdI_rd h3,h⟩
  |1,_,h=>exact ⟨c2,.d true .int (xs[j]).2,fun w' hw=>run_loadOne hτ hT (hw.cell h2),h4,h⟩
 .exact h.elim
theorem loadT_ok (hτ:TyOk P τ) (hs:Sat w bs A a N st) {T:TypeId} {z1 z2:Mix} (hT:τ T=.rc [z1,z2]) {x:AV} {vx:Value} (hx:V w bs A st.rows x vx) (h:loadT st.rows k x):
 Pure1 P w bs A st.rows (Instr.loadAt T vx) k:=by
 obtain ⟨fields,hu,_,i,hi,h1,_⟩:=hτ.rc _ _ hT
 have key0:∀(b o:Nat) (c1 c2:Value) (av:AV),w.cell? ⟨b,o,none⟩=some c1->w.cell? ⟨b,o+1,none⟩=some c2->V w bs A st.rows av (.agg #[c1,c2])->k av->
  Pure1 P w bs A st.rows (Instr.loadAt T (.pointer (some ⟨b,o,none⟩))) k:=by
  intro b o c1 c2 av h1' h2' h3 h
  refine ⟨.agg #[c1,c2],av,fun w' hw=>?_,h3,h⟩
  .have hl:=run_loadCells_list (P:=P) w' ⟨b,o,none⟩ [c1,c2] (fun j v hv=>by
    rw [addr_add]
    match j,hv with
    |0,hv=>simp at hv;subst hv;exact hw.cell h1'
    |1,hv=>simp at hv;subst hv;exact hw.cell h2')
   have hszo:(sizeOf T).run P w'=.ok 2 w':=by simp only [sizeOf,Sem.run_bind,Sem.run_pure,run_info hi w',Result.andThen_ok,h1];rfl
   have hl:(loadCells ⟨b,o,none⟩ 2).run P w'=.ok #[c1,c2] w':=hl
   simp only [Instr.loadAt,Instr.sureAddr,loadVar,isAgg,Sem.run_bind,Sem.run_pure,Result.andThen_ok,run_underlying hu,if_true]
   rw [hszo]
   simp only [Result.andThen_ok]
   rw [hl]
   rfl
 have key:∀(b o:Nat) (x:Tm) (c1 c2:Value),w.cell? ⟨b,o,none⟩=some c1->w.cell? ⟨b,o+1,none⟩=some c2->RdP w A x c1 c2->k (.arr .mix [.ints x.1,.int x.2])->
  Pure1 P w bs A st.rows (Instr.loadAt T (.pointer (some ⟨b,o,none⟩))) k:=by
  intro b o x c1 c2 h1' h2' h3 h
  refine key0 b o c1 c2 (.arr .mix [.ints x.1,.int x.2]) h1' h2' ⟨#[c1,c2],rfl,rfl,fun j hj=>?_⟩ h
  match j,hj with
  |0,_=>exact ⟨c1,rfl,h3.1⟩
  |1,_=>exact ⟨c2,rfl,h3.2⟩
 unfold loadT at h
 split at h
 .rename_i i j
  split at h
  .rename_i e' xs hr2
   obtain ⟨b,e2,xs2,hb,hr,hj,hf,rfl⟩:=hx
   rw [hr] at hr2;cases hr2
   obtain ⟨c1,c2,g1,g2,g3⟩:=hs.pair hb hr hj
   rw [getD_get _ _ _ hj] at h
   exact key b (2*j+0) _ c1 c2 g1 g2 g3 h
  .exact h.elim
 .rename_i xs j
  obtain ⟨hj,hf,b,o,rfl,hS,hc⟩:=hx
  obtain ⟨c1,c2,g1,g2,g3⟩:=hc j hj
  rw [getD_get _ _ _ hj] at h
  exact key b (o+2*j+0) _ c1 c2 g1 g2 g3 h
 .rename_i i
  split at h
  .rename_i e' xs hr2
   obtain ⟨b,r,hb,hr,hj,rfl⟩:=hx
   rw [hr] at hr2;cases hr2
   obtain ⟨hl2,h⟩:=h
   obtain ⟨_,cur,hcur,_,_,hcells⟩:=hs.row i b _ hb hr
   obtain ⟨c1,g1,g2⟩:=hcells 0 (by omega)
   obtain ⟨c2,g3,g4⟩:=hcells 1 (by omega)
   refine key0 b 0 c1 c2 (.arr .mix xs) (by rw [cell_of_row w b 0 cur e' (0,0) hcur];exact g1) (by rw [cell_of_row w b (0+1) cur e' (0,0) hcur];exact g3) ⟨#[c1,c2],rfl,by rw [hl2];rfl,fun j hj=>?_⟩ h
   match j,hj with
   |0,_=>exact ⟨c1,rfl,g2⟩
   |1,_=>exact ⟨c2,rfl,g4⟩
   |j+2,hj=>omega
  .exact h.elim
 .exact h.elim
theorem loadA_ok (hτ:TyOk P τ) (hs:Sat w bs A a N st) {T:TypeId} {n e:Nat} (hT:τ T=.arr .int n e) {x:AV} {vx:Value} (hx:V w bs A st.rows x vx) (h:loadA n st.rows k x):
 Pure1 P w bs A st.rows (Instr.loadAt T vx) k:=by
 obtain ⟨hu,_,i,hi,h1,_⟩:=hτ.arr _ _ _ _ hT
 have key:∀(b o:Nat) (zs:List Int),zs.length=n->(∀j (hj:j<zs.length),w.cell? ⟨b,o+j,none⟩=some (.int .i64 zs[j]))->k (.arr .int zs)->Pure1 P w bs A st.rows (Instr.loadAt T (.pointer (some ⟨b,o,none⟩))) k:=by
  intro b o zs hz hc h
  refine ⟨.agg (zs.map (Value.int .i64)).toArray,.arr .int zs,fun w' hw=>?_,⟨_,rfl,by simp,fun j hj=>⟨.int .i64 zs[j],by simp [hj],rfl⟩⟩,h⟩
  have hl:=run_loadCells_list (P:=P) w' ⟨b,o,none⟩ (zs.map (Value.int .i64)) (fun j v hv=>by
   rw [addr_add]
   rw [List.getElem?_map] at hv
   cases hz:zs[j]? with
   |none=>rw [hz] at hv;cases hv
   |some z=>
    rw [hz] at hv;cases hv
    obtain ⟨h1,h2⟩:=List.getElem?_eq_some_iff.1 hz
    have:=hc j h1
    rw [h2] at this
    exact hw.cell this)
  have hszo:(sizeOf T).run P w'=.ok n w':=by simp only [sizeOf,Sem.run_bind,Sem.run_pure,run_info hi w',Result.andThen_ok,h1]
  rw [List.length_map,hz] at hl
  simp only [Instr.loadAt,Instr.sureAddr,loadVar,isAgg,Sem.run_bind,Sem.run_pure,Result.andThen_ok,run_underlying hu,if_true]
  rw [hszo]
  simp only [Result.andThen_ok]
  rw [hl]
  rfl
 unfold loadA at h
 split at h
 .rename_i xs j
  obtain ⟨rfl,h⟩:=h
  obtain ⟨hj,b,o,rfl,hS,hlt,hc⟩:=hx
  have hj:j<List.length xs:=hj
  have hg:List.getD xs j (0,0,0)=xs[j]:=getD_get _ _ _ hj
  rw [hg] at h
  refine key b _ _ rfl (fun q hq=>?_) h
  match q,hq with
  |0,_=>exact hc j hj 0 (by decide)
  |1,_=>exact hc j hj 1 (by decide)
  |2,_=>exact hc j hj 2 (by decide)
 .rename_i i
  split at h
  .rename_i e' xs hr2
   obtain ⟨b,r,hb,hr,hj,rfl⟩:=hx
   rw [hr] at hr2;cases hr2
   obtain ⟨hl2,h⟩:=h
   obtain ⟨_,cur,hcur,_,_,hcells⟩:=hs.row i b _ hb hr
   refine key b 0 xs hl2 (fun j hj=>?_) h
   obtain ⟨cv,g1,g2⟩:=hcells j hj
   rw [Nat.zero_add,cell_of_row w b j cur e' (0,0) hcur,g1]
   exact congrArg some g2
  .exact h.elim
 .exact h.elim
theorem loadF_ok (hτ:TyOk P τ) {T:TypeId} (hT:τ T=.fn) {x:AV} {vx:Value} (hx:V w bs A st.rows x vx) (h:loadF k x):
 Pure1 P w bs A st.rows (Instr.loadAt T vx) k:=by
 obtain ⟨d,hd,g1,g2⟩:=hτ.fn _ hT
 unfold loadF at h
 split at h
 .rename_i xs j
  obtain ⟨hj,b,o,rfl,hS,hlt,hc⟩:=hx
  have hj:j<List.length xs:=hj
  have hg:List.getD xs j 0=xs[j]:=getD_get _ _ _ hj
  rw [hg] at h
  have hc2:w.cell? ⟨b,o+1*j,none⟩=some (.func (.func xs[j]) #[] #[]):=hc j hj 0 (by decide)
  rw [Nat.one_mul] at hc2
  refine ⟨.func (.func xs[j]) #[] #[],.fn xs[j] [],fun w' hw=>?_,⟨[],rfl,rfl⟩,h⟩
  have hag:(isAgg T).run P w'=.ok false w':=by
   simp only [isAgg,Sem.run_bind,run_underlying hd,Result.andThen_ok]
   cases d<;>simp_all
  simp only [Instr.loadAt,Instr.sureAddr,loadVar,Sem.run_bind,Sem.run_pure,Result.andThen_ok,hag]
  have:=hw.cell hc2
  simp [XT.n,this]
 .exact h.elim
theorem run_idx_xs (hτ:TyOk P τ) {T:TypeId} {t:XT} {e:Nat} (hT:τ T=.xs t e) (b o len cap j:Nat) (hj:j<len) (w':World):
 (Instr.indexAt T (.slice (some ⟨b,o,none⟩) len cap) (.int .i64 (j:Int))).run P w'=.ok (.pointer (some ⟨b,o+t.n*j,none⟩)) w':=by
 obtain ⟨hu,i,z,hi,h1,_⟩:=hτ.xs _ _ _ hT
 simp only [Instr.indexAt,asIntOf,Sem.run_bind,Sem.run_pure,Result.andThen_ok,run_underlying hu]
 rw [if_pos ⟨by omega,by omega⟩]
 simp [sizeOf,run_info hi,h1,addr_add,Nat.mul_comm]
theorem run_idx_slice (hτ:TyOk P τ) {T:TypeId} {e:Nat} {t:Ty} (hT:τ T=.one (.sl t) e) (b o len cap j:Nat) (hj:j<len) (w':World):
 (Instr.indexAt T (.slice (some ⟨b,o,none⟩) len cap) (.int .i64 j)).run P w'=.ok (.pointer (some ⟨b,o+j,none⟩)) w':=by
 obtain ⟨⟨hu,e',he⟩,_⟩:=hτ.one _ _ _ hT
 obtain ⟨_,i,hi,h1,_⟩:=hτ.one _ _ _ he
 simp only [Instr.indexAt,asIntOf,Sem.run_bind,Sem.run_pure,Result.andThen_ok,run_underlying hu]
 simp [hj,run_sizeOf1 hi h1,addr_add]
theorem run_idx_pair (hτ:TyOk P τ) {T:TypeId} {e:Nat} (hT:τ T=.tz e) (b o len cap j:Nat) (hj:j<len) (w':World):
 (Instr.indexAt T (.slice (some ⟨b,o,none⟩) len cap) (.int .i64 (j:Int))).run P w'=.ok (.pointer (some ⟨b,o+2*j,none⟩)) w':=by
 obtain ⟨hu,_,i,hi,h1,_⟩:=hτ.tz _ _ hT
 simp only [Instr.indexAt,asIntOf,Sem.run_bind,Sem.run_pure,Result.andThen_ok,run_underlying hu]
 rw [if_pos ⟨by omega,by omega⟩]
 simp [sizeOf,run_info hi,h1,addr_add,Nat.mul_comm]
theorem run_idx_arr (hτ:TyOk P τ) {T:TypeId} {e m:Nat} {t:Ty} (hT:τ T=.arr t m e) (b j:Nat) (hj:j<m) (w':World):
 (Instr.indexAt T (.pointer (some ⟨b,0,none⟩)) (.int .i64 j)).run P w'=.ok (.pointer (some ⟨b,j,none⟩)) w':=by
 obtain ⟨hu,⟨e',he⟩,_⟩:=hτ.arr _ _ _ _ hT
 obtain ⟨_,i,hi,h1,_⟩:=hτ.one _ _ _ he
 simp only [Instr.indexAt,asIntOf,Sem.run_bind,Sem.run_pure,Result.andThen_ok,run_underlying hu,Instr.sureAddr]
 simp [hj,run_sizeOf1 hi h1,addr_add]
theorem idx_ok (hτ:TyOk P τ) {T:TypeId} {x i:AV} {vx vi:Value} (hx:V w bs A st.rows x vx) (hi:V w bs A st.rows i vi) (h:idxK (τ T) st.rows i k x):
 Pure1 P w bs A st.rows (Instr.indexAt T vx vi) k:=by
 unfold idxK at h
 split at h
 .rename_i sh t xs
  split at h
  .rename_i t' e n hT
   cases hi
   obtain ⟨j,rfl,hj,h⟩:=h
   obtain ⟨ad,cap,rfl,hcap,hnn,hx⟩:=hx
   rcases hx with rfl|⟨b,o,rfl,hS,hc⟩
   .simp at hj
   .exact ⟨_,.el sh t xs j,fun w' _=>run_idx_slice hτ hT b o _ cap j hj w',⟨hj,b,o,rfl,hS,hc⟩,h⟩
  .exact h.elim
 .rename_i r
  split at h
  .rename_i t' e e2 t xs _ n hT hr
   cases hi
   obtain ⟨j,rfl,hj,h⟩:=h
   obtain ⟨b,e3,t3,xs3,cur,hb,hr3,hcur,rfl⟩:=hx
   rw [hr] at hr3
   cases hr3
   exact ⟨_,.ptr r j,fun w' _=>run_idx_slice hτ hT b 0 _ _ j hj w',⟨b,_,hb,hr,hj,by simp⟩,h⟩
  .exact h.elim
 .rename_i r
  split at h
  .rename_i t' m e e2 t xs _ n hT hr
   cases hi
   obtain ⟨j,rfl,hj,hj2,h⟩:=h
   obtain ⟨b,r',hb,hr',_,rfl⟩:=hx
   rw [hr] at hr'
   cases hr'
   exact ⟨_,.ptr r j,fun w' _=>run_idx_arr hτ hT b j hj w',⟨b,_,hb,hr,hj2,rfl⟩,h⟩
  .exact h.elim
 .rename_i r
  split at h
  .rename_i e e2 xs _ n hT hr
   cases hi
   obtain ⟨j,rfl,hj,h⟩:=h
   obtain ⟨b,e3,xs3,cur,hb,hr3,hcur,rfl⟩:=hx
   rw [hr] at hr3
   cases hr3
   exact ⟨_,.x (.pf r j 0),fun w' _=>run_idx_pair hτ hT b 0 _ _ j hj w',⟨b,_,_,hb,hr,hj,by decide,by simp⟩,h⟩
  .exact h.elim
 .rename_i sh xs
  split at h
  .rename_i e _ n hT
   cases hi
   obtain ⟨j,rfl,hj,h⟩:=h
   obtain ⟨ad,cap,rfl,hcap,hnn,hx⟩:=hx
   rcases hx with rfl|⟨b,o,rfl,hS,hc⟩
   .simp at hj
   .exact ⟨_,.x (.ef sh xs j 0),fun w' _=>run_idx_pair hτ hT b o _ cap j hj w',⟨hj,by decide,b,o,by simp,hS,hc⟩,h⟩
  .exact h.elim
 .rename_i xs
  split at h
  .rename_i e _ n hT
   cases hi
   obtain ⟨j,rfl,hj,h⟩:=h
   obtain ⟨ad,cap,rfl,hcap,hx⟩:=hx
   rcases hx with rfl|⟨b,o,rfl,hS,hlt,hc⟩
   .simp at hj
   .exact ⟨_,.x (.xe .tr xs j),fun w' _=>run_idx_xs hτ hT b o _ cap j hj w',⟨hj,b,o,rfl,hS,hlt,hc⟩,h⟩
  .exact h.elim
 .rename_i xs
  split at h
  .rename_i e _ n hT
   cases hi
   obtain ⟨j,rfl,hj,h⟩:=h
   obtain ⟨ad,cap,rfl,hcap,hx⟩:=hx
   rcases hx with rfl|⟨b,o,rfl,hS,hlt,hc⟩
   .simp at hj
   .exact ⟨_,.x (.xe .fn xs j),fun w' _=>run_idx_xs hτ hT b o _ cap j hj w',⟨hj,b,o,rfl,hS,hlt,hc⟩,h⟩
  .exact h.elim
 .exact h.elim
theorem len_ok (hτ:TyOk P τ) {T ty:TypeId} {x:AV} {vx:Value} (hx:V w bs A rows x vx) (h:lenK (τ T) rows k x):
 Pure1 P w bs A rows (Builtin.len_ #[T] ty #[vx]) k:=by
 unfold lenK at h
 split at h
 .split at h
  .rename_i t' e hT
   obtain ⟨ad,cap,rfl,hcap,hnn,hx⟩:=hx
   obtain ⟨⟨hu,_⟩,_⟩:=hτ.one _ _ _ hT
   exact pI (fun w'=>by simp [Builtin.len_,run_underlying hu,goInt]) h
  .exact h.elim
 .split at h
  .rename_i e hT
   cases hx
   have hu:P.underlying T=some .string:=(hτ.one _ _ _ hT).1
   exact pI (fun w'=>by simp [Builtin.len_,run_underlying hu,goInt,sz]) h
  .exact h.elim
 .split at h
  .rename_i t' e e2 t xs hT hr
   obtain ⟨b,e3,t3,xs3,cur,hb,hr3,hcur,rfl⟩:=hx
   rw [hr] at hr3
   cases hr3
   obtain ⟨⟨hu,_⟩,_⟩:=hτ.one _ _ _ hT
   exact pI (fun w'=>by simp [Builtin.len_,run_underlying hu,goInt]) h
  .exact h.elim
 .split at h
  .rename_i t' e hT
   cases hx
   obtain ⟨⟨hu,_⟩,_⟩:=hτ.one _ _ _ hT
   exact pI (fun w'=>by simp [Builtin.len_,run_underlying hu,goInt]) h
  .rename_i e hT
   cases hx
   obtain ⟨hu,_⟩:=hτ.tz _ _ hT
   exact pI (fun w'=>by simp [Builtin.len_,run_underlying hu,goInt]) h
  .exact h.elim
 .split at h
  .rename_i t' e hT
   obtain ⟨ad,rfl⟩:=hx
   obtain ⟨⟨hu,_⟩,_⟩:=hτ.one _ _ _ hT
   exact pI (fun w'=>by simp [Builtin.len_,run_underlying hu,goInt]) h
  .exact h.elim
 .split at h
  .rename_i t' e hT
   obtain ⟨b,e3,t3,xs3,cur,o,hb,hr3,hcur,_,_,rfl,_⟩:=hx
   obtain ⟨⟨hu,_⟩,_⟩:=hτ.one _ _ _ hT
   exact pI (fun w'=>by simp [Builtin.len_,run_underlying hu,goInt]) h
  .exact h.elim
 .split at h
  .rename_i e e2 xs hT hr
   obtain ⟨b,e3,xs3,cur,hb,hr3,hcur,rfl⟩:=hx
   rw [hr] at hr3
   cases hr3
   obtain ⟨hu,_⟩:=hτ.tz _ _ hT
   exact pI (fun w'=>by simp [Builtin.len_,run_underlying hu,goInt]) h
  .exact h.elim
 .split at h
  .rename_i e hT
   obtain ⟨ad,cap,rfl,_⟩:=hx
   obtain ⟨hu,_⟩:=hτ.tz _ _ hT
   exact pI (fun w'=>by simp [Builtin.len_,run_underlying hu,goInt]) h
  .exact h.elim
 .split at h
  .rename_i t e hT
   obtain ⟨ad,cap,rfl,_⟩:=hx
   obtain ⟨hu,_⟩:=hτ.xs _ _ _ hT
   exact pI (fun w'=>by simp [Builtin.len_,run_underlying hu,goInt]) h
  .exact h.elim
 .exact h.elim
end
section
variable {P:Program} {τ:Nat->TI} {w:World} {bs:List Nat} {A:Nat->Prop} {rows:List Row} {k:AV->Prop} {a:Act} {N:Nat} {st:St}
theorem bound_ok {x:Option AV} {vx:Option Value} (hx:∀av,x=some av->∃v,vx=some v/\V w bs A rows av v) (hn:x=none->vx=none) {n:Nat} {kk:Nat->Prop} (h:bound x n kk):
 ∃j:Nat,kk j/\((vx=none/\j=n)\/vx=some (.int .i64 (j:Int))):=by
 unfold bound at h
 split at h
 .exact ⟨n,h,.inl ⟨hn rfl,rfl⟩⟩
 .obtain ⟨j,rfl,h⟩:=h
  obtain ⟨v,hv,hr⟩:=hx _ rfl
  cases hr
  exact ⟨j,h,.inr hv⟩
 .exact h.elim
theorem run_bounds (P:Program) (isS:Bool) (len cap l h:Nat) (vl vh:Option Value) (hl:(vl=none/\l=0)\/vl=some (.int .i64 (l:Int))) (hh:(vh=none/\h=len)\/vh=some (.int .i64 (h:Int)))
 (h1:l<=h) (h2:h<=cap) (w':World):(Instr.sliceBounds isS len cap vl vh none).run P w'=.ok (l,h,cap) w':=by
 have sb:∀(j y:Nat) c,j<=y->(Instr.sliceBound (.int .i64 (j:Int)) y c).run P w'=.ok j w':=fun j y c hj=>by
  simp [Instr.sliceBound,asIntOf,hj]
 rcases hl with ⟨rfl,rfl⟩|rfl<;>rcases hh with ⟨rfl,rfl⟩|rfl<;>simp [Instr.sliceBounds,sb _ _ _ h1,sb _ _ _ h2]
theorem slice_ok2 (hτ:TyOk P τ) {T:TypeId} {x:AV} {vx:Value} {lo hi:Option AV} {vl vh:Option Value} (hx:V w bs A rows x vx)
 (hlo:∀av,lo=some av->∃v,vl=some v/\V w bs A rows av v) (hlo':lo=none->vl=none) (hhi:∀av,hi=some av->∃v,vh=some v/\V w bs A rows av v) (hhi':hi=none->vh=none)
 (h:sliceK (τ T) lo hi k x):Pure2 P w bs A rows (Instr.sliceAt T vx vl vh none) k:=by
 unfold sliceK at h
 split at h
 .rename_i sh t xs
  split at h
  .rename_i t' e hT
   obtain ⟨l,h,hl⟩:=bound_ok hlo hlo' h
   obtain ⟨r,⟨h1,h2,h⟩,hr⟩:=bound_ok hhi hhi' h
   obtain ⟨ad,cap,rfl,hcap,hnn,hx⟩:=hx
   obtain ⟨⟨hu,e',he⟩,_⟩:=hτ.one _ _ _ hT
   obtain ⟨_,i,hi,hi1,_⟩:=hτ.one _ _ _ he
   refine ⟨.slice (if cap=l then ad else ad.map (·.add l)) (r-l) (cap-l),_,fun w'=>?_,?_,h⟩
   .simp only [Instr.sliceAt,Instr.slice,Sem.run_bind,run_underlying hu,Result.andThen_ok]
    simp [run_bounds P true xs.length cap l r vl vh hl hr h1 (Nat.le_trans h2 hcap),run_sizeOf1 hi hi1]
   .have hlen:(List.drop l (List.take r xs)).length=r-l:=by simp;omega
    refine ⟨_,cap-l,by rw [hlen],by rw [hlen];omega,fun hn=>?_,?_⟩
    .by_cases hc:cap=l
     .omega
     .rw [if_neg hc] at hn
      have:=hnn (by simpa using hn)
      omega
    by_cases hc:cap=l
    .left
     apply List.eq_nil_of_length_eq_zero
     omega
    .rcases hx with rfl|⟨b,o,rfl,hS,hcell⟩
     .left;simp
     .right
      refine ⟨b,o+l,by simp [hc,addr_add],hS,fun j hj=>?_⟩
      rw [hlen] at hj
      obtain ⟨cv,g1,g2⟩:=hcell (l+j) (by omega)
      refine ⟨cv,by rw [Nat.add_assoc];exact g1,?_⟩
      have:(List.drop l (List.take r xs))[j]'(by omega)=xs[l+j]'(by omega):=by simp
      rw [this];exact g2
  .exact h.elim
 .rename_i sh s
  split at h
  .rename_i e hT
   obtain ⟨l,h,hl⟩:=bound_ok hlo hlo' h
   obtain ⟨r,⟨h1,h2,h⟩,hr⟩:=bound_ok hhi hhi' h
   cases hx
   have hu:P.underlying T=some .string:=(hτ.one _ _ _ hT).1
   refine ⟨.string ((ByteArray.mk s.toArray).extract l r),_,fun w'=>?_,?_,h⟩
   .simp only [Instr.sliceAt,Instr.slice,Sem.run_bind,run_underlying hu,Result.andThen_ok]
    have hr':(vh=none/\r=(ByteArray.mk s.toArray).size)\/vh=some (.int .i64 (r:Int)):=by rw [sz];exact hr
    simp [run_bounds P false (ByteArray.mk s.toArray).size (ByteArray.mk s.toArray).size l r vl vh hl hr' h1 (by rw [sz];exact h2)]
   .show _=_
    congr 1
    apply ByteArray.ext
    simp [List.drop_take]
  .exact h.elim
 .split at h
  .rename_i t' e hT
   obtain ⟨l,h,hl⟩:=bound_ok hlo hlo' h
   obtain ⟨r,⟨h1,h2,h9⟩,hr⟩:=bound_ok hhi hhi' h
   cases hx
   obtain ⟨⟨hu,e',he⟩,_⟩:=hτ.one _ _ _ hT
   obtain ⟨_,i,hi,hi1,_⟩:=hτ.one _ _ _ he
   obtain rfl:r=0:=by omega
   obtain rfl:l=0:=by omega
   refine ⟨.slice none 0 0,.nil,fun w'=>?_,rfl,h9⟩
   simp only [Instr.sliceAt,Instr.slice,Sem.run_bind,run_underlying hu,Result.andThen_ok]
   simp [run_bounds P true 0 0 0 0 vl vh hl hr h1 h2,run_sizeOf1 hi hi1]
  .exact h.elim
 .exact h.elim
theorem slice_ok (hτ:TyOk P τ) {T:TypeId} {x:AV} {vx:Value} {lo hi:Option AV} {vl vh:Option Value} (hx:V w bs A rows x vx)
 (hlo:∀av,lo=some av->∃v,vl=some v/\V w bs A rows av v) (hlo':lo=none->vl=none) (hhi:∀av,hi=some av->∃v,vh=some v/\V w bs A rows av v) (hhi':hi=none->vh=none)
 (h:sliceK (τ T) lo hi k x):Pure1 P w bs A rows (Instr.sliceAt T vx vl vh none) k:=(slice_ok2 hτ hx hlo hlo' hhi hhi' h).p1
theorem sliceR_ok (hτ:TyOk P τ) (hs:Sat w bs A a N st) {T:TypeId} {x:AV} {vx:Value} {lo hi:Option AV} {vl vh:Option Value} (hx:V w bs A st.rows x vx)
 (hlo:∀av,lo=some av->∃v,vl=some v/\V w bs A st.rows av v) (hlo':lo=none->vl=none) (hhi:∀av,hi=some av->∃v,vh=some v/\V w bs A st.rows av v) (hhi':hi=none->vh=none)
 (h:sliceR (τ T) st.rows lo hi k x):Pure1 P w bs A st.rows (Instr.sliceAt T vx vl vh none) k:=by
 unfold sliceR at h
 split at h
 .rename_i r
  split at h
  .rename_i t' e e2 t xs hT hr
   obtain ⟨l,h,hl⟩:=bound_ok hlo hlo' h
   obtain ⟨u,⟨h1,h2,h⟩,hu'⟩:=bound_ok hhi hhi' h
   obtain ⟨b,e3,t3,xs3,cur,hb,hr3,hcur,rfl⟩:=hx
   rw [hr] at hr3;cases hr3
   obtain ⟨_,cur2,hcur2,hle,_⟩:=hs.row r b _ hb hr
   rw [hcur] at hcur2;cases hcur2
   obtain ⟨⟨hu,e',he⟩,_⟩:=hτ.one _ _ _ hT
   obtain ⟨_,i,hi,hi1,_⟩:=hτ.one _ _ _ he
   refine Pure2.p1 ⟨.slice (some (if cur.size=l then ⟨b,0,none⟩ else ⟨b,l,none⟩)) (u-l) (cur.size-l),.x (.sb r l u),fun w'=>?_,?_,h⟩
   .simp only [Instr.sliceAt,Instr.slice,Sem.run_bind,run_underlying hu,Result.andThen_ok]
    simp [run_bounds P true xs.length cur.size l u vl vh hl hu' h1 (Nat.le_trans h2 hle),run_sizeOf1 hi hi1]
    split<;>simp [addr_add]
   .refine ⟨b,e2,t,xs,cur,if cur.size=l then 0 else l,hb,hr,hcur,h1,h2,by split<;>rfl,?_⟩
    split
    .by_cases hl0:l=0
     .right;exact hl0.symm
     .left;omega
    .right;rfl
  .exact h.elim
 .rename_i r
  split at h
  .rename_i e e2 xs hT hr
   obtain ⟨l,h,hl⟩:=bound_ok hlo hlo' h
   obtain ⟨u,⟨h1,h2,h⟩,hu'⟩:=bound_ok hhi hhi' h
   obtain ⟨b,e3,xs3,cur,hb,hr3,hcur,rfl⟩:=hx
   rw [hr] at hr3;cases hr3
   obtain ⟨_,cur2,hcur2,hle,_⟩:=hs.row r b _ hb hr
   rw [hcur] at hcur2;cases hcur2
   obtain ⟨hu,_,i,hi,hi1,_⟩:=hτ.tz _ _ hT
   refine Pure2.p1 ⟨.slice (some (if cur.size / 2=l then ⟨b,0,none⟩ else ⟨b,2*l,none⟩)) (u-l) (cur.size / 2-l),.x (.sz r l u),fun w'=>?_,?_,h⟩
   .simp only [Instr.sliceAt,Instr.slice,Sem.run_bind,run_underlying hu,Result.andThen_ok]
    simp [run_bounds P true xs.length (cur.size / 2) l u vl vh hl hu' h1 (by omega),sizeOf,run_info hi,hi1]
    split<;>simp [addr_add,Nat.mul_comm]
   .refine ⟨b,e2,xs,cur,if cur.size / 2=l then 0 else 2*l,hb,hr,hcur,h1,h2,by split<;>rfl,?_⟩
    split
    .left;omega
    .right;rfl
  .exact h.elim
 .rename_i sh xs
  split at h
  .rename_i e hT
   obtain ⟨l,h,hl⟩:=bound_ok hlo hlo' h
   obtain ⟨u,⟨h1,h2,h⟩,hu'⟩:=bound_ok hhi hhi' h
   obtain ⟨ad,cap,rfl,hcap,hnn,hx⟩:=hx
   obtain ⟨hu,_,i,hi,hi1,_⟩:=hτ.tz _ _ hT
   refine Pure2.p1 ⟨.slice (if cap=l then ad else ad.map (·.add (l*2))) (u-l) (cap-l),.x (.dz sh ((xs.take u).drop l)),fun w'=>?_,?_,h⟩
   .simp only [Instr.sliceAt,Instr.slice,Sem.run_bind,run_underlying hu,Result.andThen_ok]
    simp [run_bounds P true xs.length cap l u vl vh hl hu' h1 (Nat.le_trans h2 hcap),sizeOf,run_info hi,hi1]
   .have hlen:(List.drop l (List.take u xs)).length=u-l:=by simp;omega
    refine ⟨_,cap-l,by rw [hlen],by rw [hlen];omega,fun hn=>?_,?_⟩
    .by_cases hc:cap=l
     .omega
     .rw [if_neg hc] at hn
      have:=hnn (by simpa using hn)
      omega
    by_cases hc:cap=l
    .left
     apply List.eq_nil_of_length_eq_zero
     omega
    .rcases hx with rfl|⟨b,o,rfl,hS,hcell⟩
     .left;simp
     .right
      refine ⟨b,o+l*2,by simp [hc,addr_add],hS,fun j hj=>?_⟩
      rw [hlen] at hj
      obtain ⟨c1,c2,g1,g2,g3⟩:=hcell (l+j) (by omega)
      have e1:(List.drop l (List.take u xs))[j]'(by omega)=xs[l+j]'(by omega):=by simp
      have e2:o+l*2+2*j=o+2*(l+j):=by omega
      exact ⟨c1,c2,by rw [e2];exact g1,by rw [e2];exact g2,by rw [e1];exact g3⟩
  .exact h.elim
 .rename_i xs
  split at h
  .rename_i e hT
   obtain ⟨l,h,hl⟩:=bound_ok hlo hlo' h
   obtain ⟨u,⟨h1,h2,h⟩,hu'⟩:=bound_ok hhi hhi' h
   obtain ⟨ad,cap,rfl,hcap,hx⟩:=hx
   obtain ⟨hu,i,z,hi,hi1,_⟩:=hτ.xs _ _ _ hT
   have h2:u<=List.length xs:=h2
   refine Pure2.p1 ⟨.slice (if cap=l then ad else ad.map (·.add (l*1))) (u-l) (cap-l),.x (.xd .fn ((List.take u xs).drop l)),fun w'=>?_,?_,h⟩
   .simp only [Instr.sliceAt,Instr.slice,Sem.run_bind,run_underlying hu,Result.andThen_ok]
    simp [run_bounds P true (List.length xs) cap l u vl vh hl hu' h1 (Nat.le_trans h2 hcap),sizeOf,run_info hi,hi1,XT.n]
   .have hlen:(List.drop l (List.take u xs)).length=u-l:=by simp;omega
    refine ⟨_,cap-l,by rw [hlen],by rw [hlen];omega,?_⟩
    by_cases hc:cap=l
    .left
     apply List.eq_nil_of_length_eq_zero
     rw [hlen];omega
    .rcases hx with rfl|⟨b,o,rfl,hS,hlt,hcell⟩
     .left;simp
     .right
      refine ⟨b,o+l*1,by simp [hc,addr_add],hS,hlt,fun j hj q hq=>?_⟩
      rw [hlen] at hj
      have g:=hcell (l+j) (show l+j<List.length xs by omega) q hq
      have e1:(List.drop l (List.take u xs))[j]'(by rw [hlen];exact hj)=xs[l+j]'(by omega):=by simp
      have e2:o+l*1+1*j+q=o+1*(l+j)+q:=by omega
      rw [e1]
      show w.cell? ⟨b,o+l*1+1*j+q,none⟩=_
      rw [e2]
      exact g
  .exact h.elim
 .exact slice_ok hτ hx hlo hlo' hhi hhi' h
theorem index_ok (hτ:TyOk P τ) {T:TypeId} {x i:AV} {vx vi:Value} (hx:V w bs A rows x vx) (hi:V w bs A rows i vi) (h:indexK (τ T) i k x):
 Pure1 P w bs A rows (Instr.index T vx vi) k:=by
 unfold indexK at h
 split at h
 .rename_i sh s
  split at h
  .rename_i e _ n hT
   cases hx;cases hi
   obtain ⟨j,rfl,hj,h⟩:=h
   have hu:P.underlying T=some .string:=(hτ.one _ _ _ hT).1
   refine pU (fun w'=>?_) h
   have e1:(ByteArray.mk s.toArray)[j]? =some (s.getD j 0):=by
    have hj2:j<(ByteArray.mk s.toArray).size:=by rw [sz];exact hj
    rw [getElem?_pos _ j hj2]
    have hj3:j<List.length s:=hj
    simp [List.getD,hj3]
    rfl
   simp only [Instr.index,asIntOf,Sem.run_bind,Sem.run_pure,Result.andThen_ok,run_underlying hu]
   simp [e1]
  .exact h.elim
 .exact h.elim
theorem Vs_get:∀{l:List AV} {vs:List Value} {i:Nat} {av:AV},Vs w bs A rows l vs->l[i]? =some av->∃v,vs[i]? =some v/\V w bs A rows av v
 |[],_,_,_,_,h2=>by simp at h2
 |x::l,_,0,_,h,h2=>by
  obtain ⟨v,r,rfl,hv,_⟩:=h
  simp at h2;subst h2
  exact ⟨v,rfl,hv⟩
 |x::l,_,i+1,_,h,h2=>by
  obtain ⟨v,r,rfl,_,hr⟩:=h
  exact Vs_get (i:=i) hr (by simpa using h2)
theorem extr_ok {x:AV} {vx:Value} {i:Nat} (hx:V w bs A rows x vx) (h:extrK x i k):Pure1 P w bs A rows (Instr.extract vx i) k:=by
 unfold extrK at h
 split at h
 .split at h
  .rename_i l _ av hl
   obtain ⟨vs,rfl,hvs⟩:=hx
   obtain ⟨v,hv,hr⟩:=Vs_get hvs hl
   obtain ⟨av2,hr2,h⟩:=splB_ok hr h
   exact ⟨v,av2,fun w' _=>by simp [Instr.extract,hv],hr2,h⟩
  .exact h.elim
 .exact h.elim
theorem pick_ok {c x y:AV} {vc vx vy:Value} (hc:V w bs A rows c vc) (hx:V w bs A rows x vx) (hy:V w bs A rows y vy) (h:pickK c x y k):
 Pure1 P w bs A rows (do pure (if <-asBool vc then vx else vy)) k:=by
 unfold pickK at h
 split at h
 .rename_i sh b
  cases hc
  cases b
  .exact ⟨vy,y,fun w' _=>by simp [asBool],hy,h⟩
  .exact ⟨vx,x,fun w' _=>by simp [asBool],hx,h⟩
 .exact h.elim
theorem max_ok {l:List AV} {vs:List Value} {ty:TypeId} {ts:Array TypeId} (hl:Vs w bs A rows l vs) (h:mmK true k l):Pure1 P w bs A rows (Builtin.max_ ts ty vs.toArray) k:=by
 unfold mmK at h
 split at h
 .rename_i x _ y
  obtain ⟨v1,r1,rfl,h1,v2,r2,rfl,h2,rfl⟩:=hl
  cases h1;cases h2
  exact pI (fun w'=>by simp [Builtin.max_,Builtin.max2]) h
 .exact h.elim
theorem min_ok {l:List AV} {vs:List Value} {ty:TypeId} {ts:Array TypeId} (hl:Vs w bs A rows l vs) (h:mmK false k l):Pure1 P w bs A rows (Builtin.min_ ts ty vs.toArray) k:=by
 unfold mmK at h
 split at h
 .rename_i x _ y
  obtain ⟨v1,r1,rfl,h1,v2,r2,rfl,h2,rfl⟩:=hl
  cases h1;cases h2
  exact pI (fun w'=>by simp [Builtin.min_,Builtin.min2]) h
 .exact h.elim
theorem evls_ok (hs:Sat w bs A a N st):∀(l:List Operand),Vs w bs A st.rows (l.map (evl st.env)) (l.map a.eval)
 |[]=>rfl
 |x::l=>⟨_,_,rfl,evl_ok hs x,evls_ok hs l⟩
def PureO (P:Program) (w:World) (bs:List Nat) (A:Nat->Prop) (rows:List Row) (s:Sem Next) (k:AV->Prop):Prop:=
 ∃v av,(∀w',Ext w w'->s.run P w'=.ok (.value v) w')/\V w bs A rows av v/\k av
theorem Pure1.next {s:Sem Value} (h:Pure1 P w bs A rows s k):PureO P w bs A rows (do pure (.value (<-s))) k:=by
 obtain ⟨v,av,h1,h2,h3⟩:=h
 exact ⟨v,av,fun w' hw=>by rw [Sem.run_bind,h1 w' hw];rfl,h2,h3⟩
theorem run_field (hτ:TyOk P τ) {T:TypeId} {zs:List Mix} (hT:τ T=.rc zs) {f:Nat} (hf:f<zs.length) (b o:Nat) (w':World):
 (Instr.fieldAt T (.pointer (some ⟨b,o,none⟩)) f).run P w'=.ok (.pointer (some ⟨b,o+f,none⟩)) w':=by
 obtain ⟨fields,hu,hpl,_⟩:=hτ.rc _ _ hT
 obtain ⟨hsz,hfs⟩:=mapM_get hpl
 have hfl:f<fields.size:=by simpa using (by rw [hsz];simpa using hf:f<fields.toList.length)
 have hfi:fields[f]? =some (fields[f]'hfl):=Array.getElem?_eq_getElem hfl
 obtain ⟨p,hp1,hp2⟩:=hfs f (fields[f]'hfl) (by rw [<-hfi];simp)
 have hp3:p=(f,1):=by
  rw [List.getElem?_map,List.getElem?_range (by simpa using hf)] at hp2
  simpa using hp2.symm
 subst hp3
 obtain ⟨i,hi,hp4⟩:∃i,P.info? (fields[f]'hfl).type=some i/\((fields[f]'hfl).offset,i.size)=(f,1):=by
  cases hi:P.info? (fields[f]'hfl).type with
  |none=>rw [hi] at hp1;cases hp1
  |some i=>rw [hi] at hp1;exact ⟨i,rfl,by simpa using hp1⟩
 have h1:(fields[f]'hfl).offset=f:=(Prod.mk.inj hp4).1
 have h2:i.size=1:=(Prod.mk.inj hp4).2
 simp only [Instr.fieldAt,Sem.run_bind,run_underlying hu,Result.andThen_ok,hfi,Instr.sureAddr,fieldPlace,Sem.run_pure,sizeOf,run_info hi,h2,h1]
 rw [if_neg (by decide)]
 simp [addr_add]
theorem pOp_ok (hτ:TyOk P τ) (hs:Sat w bs A a N st) {o:Oper} (h:pOp τ st o.op k):PureO P w bs A st.rows (execOp a.eval o) k:=by
 unfold pOp at h
 split at h
 .rename_i x ho
  simp only [execOp,ho]
  exact ⟨_,_,fun w' _=>rfl,evl_ok hs x,h⟩
 .rename_i x ho
  simp only [execOp,ho]
  exact ⟨_,_,fun w' _=>rfl,evl_ok hs x,h⟩
 .rename_i c x y ho
  simp only [execOp,ho]
  obtain ⟨v,av,h1,h2,h3⟩:=pick_ok (P:=P) (evl_ok hs c) (evl_ok hs x) (evl_ok hs y) h
  exact ⟨v,av,fun w' hw=>by have:=h1 w' hw;simp only [Sem.run_bind] at this ⊢;revert this;cases (asBool (a.eval c)).run P w'<;>simp,h2,h3⟩
 .rename_i op T x y T' ho
  simp only [execOp,ho]
  split at h
  .rename_i n hsh
   unfold shc at hsh
   split at hsh
   .cases hsh
    have hx:=evl_ok hs x
    unfold shrK at h
    split at h
    .rename_i sh x' he
     rw [he] at hx
     obtain ⟨hn,z,rfl,h⟩:=h
     refine (pI (fun w'=>?_) h).next
     have hx':a.eval x=.int .i64 x':=hx
     rw [hx']
     simp [Act.eval,eqGuard,binOp,Op.shift,show ¬n<0 by omega,IntKind.bits]<;>rfl
    .rename_i sh x' he
     rw [he] at hx
     obtain ⟨hn,z,rfl,h⟩:=h
     refine (p64 (fun w'=>?_) h).next
     have hx':a.eval x=.int .u64 x':=hx
     rw [hx']
     simp [Act.eval,eqGuard,binOp,Op.shift,show ¬n<0 by omega,IntKind.bits]<;>rfl
    .exact h.elim
   .cases hsh
  .exact (bin_ok hτ (evl_ok hs x) (evl_ok hs y) h).next
 .rename_i op T x ho
  simp only [execOp,ho]
  exact (un_ok (evl_ok hs x) h).next
 .rename_i s d x ho
  simp only [execOp,ho]
  split at h
  .exact h.elim
  .rename_i e hT
   exact (convS_ok hτ hT (evl_ok hs x) h).next
  .rename_i hn _
   exact (conv_ok hτ hn (evl_ok hs x) h).next
 .rename_i T x ho
  simp only [execOp,ho]
  split at h
  .rename_i t e hT
   exact (load_ok hτ hs hT (evl_ok hs x) h).next
  .rename_i l0 n0 hT
   exact (loadT_ok hτ hs hT (evl_ok hs x) h).next
  .rename_i n0 e0 hT
   exact (loadA_ok hτ hs hT (evl_ok hs x) h).next
  .rename_i hT
   exact (loadF_ok hτ hT (evl_ok hs x) h).next
  .exact h.elim
 .rename_i x ho
  have hx:=evl_ok hs x
  unfold nilK at h
  split at h
  .rename_i i j he
   rw [he] at hx
   obtain ⟨b,r,hb,hr,hj,hv⟩:=hx
   refine ⟨_,.ptr i j,fun w' _=>?_,⟨b,r,hb,hr,hj,rfl⟩,h⟩
   simp only [execOp,ho,hv]
   rfl
  .exact h.elim
 .rename_i T x f ho
  simp only [execOp,ho]
  refine Pure1.next ?_
  have hx:=evl_ok hs x
  unfold fldK at h
  split at h
  .rename_i r he
   rw [he] at hx
   split at h
   .rename_i zs e xs hT hrow
    obtain ⟨hf,hf2,h⟩:=h
    obtain ⟨fields,hu,hpl,_⟩:=hτ.rc _ _ hT
    obtain ⟨b,r',hb,hr,hj,hv⟩:=hx
    rw [hrow] at hr;cases hr
    obtain ⟨hsz,hfs⟩:=mapM_get hpl
    have hfl:f<fields.size:=by simpa using (by rw [hsz];simpa using hf:f<fields.toList.length)
    have hfi:fields[f]? =some (fields[f]'hfl):=Array.getElem?_eq_getElem hfl
    obtain ⟨p,hp1,hp2⟩:=hfs f (fields[f]'hfl) (by rw [<-hfi];simp)
    have hp3:p=(f,1):=by
     rw [List.getElem?_map,List.getElem?_range (by simpa using hf)] at hp2
     simpa using hp2.symm
    subst hp3
    obtain ⟨i,hi,hp4⟩:∃i,P.info? (fields[f]'hfl).type=some i/\((fields[f]'hfl).offset,i.size)=(f,1):=by
     cases hi:P.info? (fields[f]'hfl).type with
     |none=>rw [hi] at hp1;cases hp1
     |some i=>rw [hi] at hp1;exact ⟨i,rfl,by simpa using hp1⟩
    have h1:(fields[f]'hfl).offset=f:=(Prod.mk.inj hp4).1
    have h2:i.size=1:=(Prod.mk.inj hp4).2
    refine ⟨.pointer (some ⟨b,f,none⟩),.ptr r f,fun w' _=>?_,⟨b,_,hb,hrow,hf2,rfl⟩,h⟩
    rw [hv]
    simp only [Instr.fieldAt,Sem.run_bind,run_underlying hu,Result.andThen_ok,hfi,Instr.sureAddr,fieldPlace,Sem.run_pure,sizeOf,run_info hi,h2,h1]
    rw [if_neg (by decide)]
    simp [addr_add]
   .exact h.elim
  .rename_i r j he
   rw [he] at hx
   split at h
   .rename_i zs hT
    obtain ⟨hz,hf,h⟩:=h
    obtain ⟨b,e,xs,hb,hr,hj,_,hv⟩:=hx
    refine ⟨.pointer (some ⟨b,2*j+0+f,none⟩),.x (.pf r j f),fun w' _=>by rw [hv];exact run_field hτ hT (by omega) b _ w',⟨b,e,xs,hb,hr,hj,hf,by simp⟩,h⟩
   .exact h.elim
  .rename_i sh xs j he
   rw [he] at hx
   split at h
   .rename_i zs hT
    obtain ⟨hz,hf,h⟩:=h
    obtain ⟨hj,_,b,o,hv,hS,hc⟩:=hx
    refine ⟨.pointer (some ⟨b,o+2*j+0+f,none⟩),.x (.ef sh xs j f),fun w' _=>by rw [hv];exact run_field hτ hT (by omega) b _ w',⟨hj,hf,b,o,by simp,hS,hc⟩,h⟩
   .exact h.elim
  .exact h.elim
 .rename_i T x i ho
  simp only [execOp,ho]
  exact (idx_ok hτ (evl_ok hs x) (evl_ok hs i) h).next
 .rename_i T x i ho
  simp only [execOp,ho]
  exact (index_ok hτ (evl_ok hs x) (evl_ok hs i) h).next
 .rename_i T x lo hi ho
  simp only [execOp,ho]
  refine (sliceR_ok hτ hs (evl_ok hs x) ?_ ?_ ?_ ?_ h).next
  .intro av hav
   cases lo with
   |none=>simp at hav
   |some y=>simp at hav;subst hav;exact ⟨_,rfl,evl_ok hs y⟩
  .intro hn;cases lo with
   |none=>rfl
   |some y=>simp at hn
  .intro av hav
   cases hi with
   |none=>simp at hav
   |some y=>simp at hav;subst hav;exact ⟨_,rfl,evl_ok hs y⟩
  .intro hn;cases hi with
   |none=>rfl
   |some y=>simp at hn
 .rename_i x i ho
  simp only [execOp,ho]
  exact (extr_ok (evl_ok hs x) h).next
 .rename_i f first c ho
  obtain ⟨h0,h⟩:=h
  simp only [execOp,ho]
  have hf:first.map a.eval= #[]:=Array.eq_empty_of_size_eq_zero (by simp [h0])
  exact Pure1.next ⟨.func (.func f) #[] (c.map a.eval),.fn f (c.toList.map (evl st.env)),fun w' _=>by rw [hf];rfl,⟨c.toList.map a.eval,by rw [<-Array.toList_map,Array.toArray_toList],evls_ok hs c.toList⟩,h⟩
 .rename_i c ho
  split at h
  .rename_i hc
   split at h
   .rename_i x T hx hT
    obtain ⟨v,av,h1,h2,h3⟩:=len_ok (P:=P) (ty:=o.type) hτ (evl_ok hs x) h
    refine ⟨v,av,fun w' hw=>?_,h2,h3⟩
    have ha:c.args= #[x]:=by rw [<-Array.toArray_toList (xs:=c.args),hx]
    have ht:c.argTypes= #[T]:=by rw [<-Array.toArray_toList (xs:=c.argTypes),hT]
    simp only [execOp,ho,resolve,hc,invoke,builtin,ha,ht]
    simp [h1 w' hw]
   .exact h.elim
  .rename_i hc
   split at h
   .rename_i x T hx hT
    split at h
    .rename_i t e hTT hxe
     have hv:=evl_ok hs x
     rw [hxe] at hv
     have hv:a.eval x=.slice none 0 0:=hv
     obtain ⟨⟨hu,_⟩,_⟩:=hτ.one _ _ _ hTT
     have ha:c.args= #[x]:=by rw [<-Array.toArray_toList (xs:=c.args),hx]
     have ht:c.argTypes= #[T]:=by rw [<-Array.toArray_toList (xs:=c.argTypes),hT]
     refine ⟨.int .i64 0,.d true .int 0,fun w' hw=>?_,rfl,h⟩
     simp only [execOp,ho,resolve,hc,invoke,builtin,ha,ht]
     simp [Builtin.cap_,run_underlying hu,hv,goInt]
    .exact h.elim
   .exact h.elim
  .rename_i hc
   obtain ⟨v,av,h1,h2,h3⟩:=max_ok (P:=P) (ty:=o.type) (ts:=c.argTypes) (evls_ok hs c.args.toList) h
   refine ⟨v,av,fun w' hw=>?_,h2,h3⟩
   have:=h1 w' hw
   simp only [execOp,ho,resolve,hc,invoke,builtin]
   have e:(List.map a.eval c.args.toList).toArray=c.args.map a.eval:=by rw [<-Array.toList_map,Array.toArray_toList]
   rw [e] at this
   simp [this]
  .rename_i hc
   obtain ⟨v,av,h1,h2,h3⟩:=min_ok (P:=P) (ty:=o.type) (ts:=c.argTypes) (evls_ok hs c.args.toList) h
   refine ⟨v,av,fun w' hw=>?_,h2,h3⟩
   have:=h1 w' hw
   simp only [execOp,ho,resolve,hc,invoke,builtin]
   have e:(List.map a.eval c.args.toList).toArray=c.args.map a.eval:=by rw [<-Array.toList_map,Array.toArray_toList]
   rw [e] at this
   simp [this]
  .exact h.elim
 .exact h.elim
end
structure ROk (w:World) (bs:List Nat) (A:Nat->Prop) (rows:List Row):Prop where
 len:bs.length=rows.length
 nodup:bs.Nodup
 lt:∀b∈bs,b<w.heap.size
 old:∀b,A b->b<w.heap.size
 row:∀(i b:Nat) (r:Row),bs[i]? =some b->rows[i]? =some r->RowR w bs A rows b r
def VRes (w:World) (bs:List Nat) (A:Nat->Prop) (rows:List Row) (res:List AV) (rv:Value):Prop:=
 match res with
 |[r]=>V w bs A rows r rv
 |l=>∃vs:List Value,rv=.tuple vs.toArray/\Vs w bs A rows l vs
def Stay (w:World) (bs:List Nat) (w':World):Prop:=
 ∀b∈bs,∀cur e,w.heap[b]? =some (.cells cur e (0,0))->∃cur',w'.heap[b]? =some (.cells cur' e (0,0))/\cur'.size=cur.size
def rowsLike:List Row->List Row->Prop
 |[],_=>True
 |r::l,r'::l'=>(r'.len=r.len/\(match r,r' with|.sl e t _,.sl e' t' _=>e'=e/\t'=t|.box _ _,.box _ _=>True|.tz e _,.tz e' _=>e'=e|.dead,.dead=>True|_,_=>False))/\rowsLike l l'
 |_::_,[]=>False
def Runs (P:Program) (f:FuncId):Prop:=∃fn c,P.funcs[f]? =some fn∧fn.body=some c∧(fn.name== "runtime.NumGoroutine")=false
def AC (P:Program) (f:FuncId) (args:List AV) (rows:List Row) (res:List AV) (rows':List Row):Prop:=
 Runs P f/\∀(w:World) (bs:List Nat) (A:Nat->Prop) (vs:List Value),ROk w bs A rows->Vs w bs A rows args vs->
  Calls P f vs.toArray w fun e w'=>∃rv bs' A',e=.returned rv/\ROk w' bs' A' rows'/\VRes w' bs' A' rows' res rv/\Step w bs A w' bs' A'/\
   (∃new,bs'=bs++new)/\Stay w bs w'/\(∀b,A b->A' b)
def XC (P:Program) (m N:Nat) (F:FuncId) (args:List AV) (st st':St) (r:AV):Prop:=
 Runs P F/\∀(w:World) (bs:List Nat) (A:Nat->Prop) (a:Act) (vs:List Value),Sat w bs A a N st->m<=bs.length->Vs w bs A st.rows args vs->
  Calls P F vs.toArray w fun e w'=>∃rv bs' A',e=.returned rv/\Sat w' bs' A' a N st'/\V w' bs' A' st'.rows r rv/\Step w bs A w' bs' A'/\
   bs'.take m=bs.take m/\Stay w (bs.take m) w'/\(∀b,A b->A' b)
def asT:(t:Ty)->AV->Option t.T
 |.int,.d _ .int x=>some x
 |.u8,.d _ .u8 x=>some x
 |.i32,.d _ .i32 x=>some x
 |.u64,.d _ .u64 x=>some x
 |.bool,.d _ .bool x=>some x
 |.str,.d _ .str x=>some x
 |.mix,.d _ .int x=>some (Mix.int x)
 |.mix,.d _ .bool x=>some (Mix.bool x)
 |.mix,.d _ .str x=>some (Mix.str x)
 |.mix,.d true (.sl .u8) x=>some (Mix.u8s x)
 |.mix,.d true (.sl .int) x=>some (Mix.ints x)
 |.sl _,.nil=>some []
 |.sl _,.x .emp=>some []
 |.sl t,.d true (.sl t') xs=>if h:t'=t then some (h ▸ xs) else none
 |.sw _ _,.nil=>some []
 |.sw _ _,.x .emp=>some []
 |.sw e _,.d true (.sw e' _) xs=>match Nat.beq e e' with|true=>some xs|false=>none
 |_,_=>none
def zav:Ty->AV
 |.sl _=>.nil
 |.sw _ _=>.nil
 |t=>.d true t t.dflt
def killH (i:Nat) (av:AV):AV:=match av.hs.contains i with|true=>.any|false=>av
def killE (i:Nat):List (Nat × AV)->List (Nat × AV)
 |[]=>[]
 |(t,v)::l=>(t,killH i v)::killE i l
def boxFree (i:Nat):List Row->Bool
 |[]=>true
 |.box _ v::l=>(!v.hs.contains i) && boxFree i l
 |_::l=>boxFree i l
def fXV (k:XV->Prop):XV->Prop
 |.emp=>k .emp
 |.sb i lo hi=>k (.sb i lo hi)
 |.oz i=>k (.oz i)
 |.sz i lo hi=>k (.sz i lo hi)
 |.pf i j f=>k (.pf i j f)
 |.dz sh xs=>k (.dz sh xs)
 |.ef sh xs j f=>k (.ef sh xs j f)
 |.xd t xs=>k (.xd t xs)
 |.xe t xs j=>k (.xe t xs j)
 |.oa i=>k (.oa i)
 |.lo i=>k (.lo i)
theorem fXV_eq (k:XV->Prop) (x:XV):fXV k x=k x:=by cases x<;>rfl
def fAV (k:AV->Prop):AV->Prop
 |.x y=>fXV (fun y'=>k (.x y')) y
 |.d sh t x=>k (.d sh t x)
 |.el sh t xs j=>k (.el sh t xs j)
 |.ow i=>k (.ow i)
 |.ptr i j=>k (.ptr i j)
 |.nil=>k .nil
 |.arr t xs=>k (.arr t xs)
 |.fn f caps=>k (.fn f caps)
 |.tup l=>k (.tup l)
 |.any=>k .any
theorem fAV_eq (k:AV->Prop) (x:AV):fAV k x=k x:=by
 cases x with
 |x y=>exact fXV_eq (fun y'=>k (.x y')) y
 |_=>rfl
def fRow (k:Row->Prop):Row->Prop
 |.sl e t xs=>k (.sl e t xs)
 |.box e v=>fAV (fun v'=>k (.box e v')) v
 |.tz e xs=>k (.tz e xs)
 |.dead=>k .dead
theorem fRow_eq (k:Row->Prop) (x:Row):fRow k x=k x:=by
 cases x with
 |box e v=>exact fAV_eq (fun v'=>k (.box e v')) v
 |_=>rfl
def fRows:List Row->(List Row->Prop)->Prop
 |[],k=>k []
 |r::l,k=>fRow (fun r'=>fRows l (fun l'=>k (r'::l'))) r
theorem fRows_eq:∀(l:List Row) (k:List Row->Prop),fRows l k=k l
 |[],_=>rfl
 |r::l,k=>by rw [fRows,fRow_eq,fRows_eq l]
def fEnv:List (Nat × AV)->(List (Nat × AV)->Prop)->Prop
 |[],k=>k []
 |(t,v)::l,k=>fAV (fun v'=>fEnv l (fun l'=>k ((t,v')::l'))) v
theorem fEnv_eq:∀(l:List (Nat × AV)) (k:List (Nat × AV)->Prop),fEnv l k=k l
 |[],_=>rfl
 |(t,v)::l,k=>by rw [fEnv,fAV_eq,fEnv_eq l]
def putK (N:Nat) (dst:Option Nat) (av:AV) (st:St) (K:St->Prop):Prop:=
 match st with
 |⟨env,rows⟩=>fAV (fun av'=>fRows rows fun rows'=>match dst with
  |none=>K ⟨env,rows'⟩
  |some d=>match Nat.blt d N with|true=>K ⟨(d,av')::env,rows'⟩|false=>False) av
def coll (t:Ty) (env:List (Nat × AV)):Nat->List (Nat × Operand)->Option (List t.T)
 |_,[]=>some []
 |i,(j,x)::l=>match Nat.beq i j,asT t (evl env x),coll t env (i+1) l with
  |true,some a,some r=>some (a::r)
  |_,_,_=>none
def fillM (env:List (Nat × AV)):List Mix->List (Nat × Operand)->Option (List Mix)
 |zs,[]=>some zs
 |zs,(j,x)::l=>match Nat.blt j zs.length,asT .mix (evl env x) with
  |true,some m=>fillM env (zs.set j m) l
  |_,_=>none
def elems (t:Ty) (rows:List Row):AV->Option (List t.T)
 |.nil=>some []
 |.x .emp=>some []
 |.x (.sb j lo hi)=>match rows[j]? with|some (.sl _ t' ys)=>if h:t'=t then some (h ▸ ((List.take hi ys).drop lo)) else none|_=>none
 |.d sh (.sl t') ys=>match t.flat||sh with|true=>if h:t'=t then some (h ▸ ys) else none|false=>none
 |.ow j=>match rows[j]? with|some (.sl _ t' ys)=>if h:t'=t then some (h ▸ ys) else none|_=>none
 |_=>none
def elemsT (rows:List Row):AV->Option (List Tm)
 |.x (.dz true ys)=>some ys
 |.x (.oz j)=>match rows[j]? with|some (.tz _ ys)=>some ys|_=>none
 |.x (.sz j lo hi)=>match rows[j]? with|some (.tz _ ys)=>some ((List.take hi ys).drop lo)|_=>none
 |_=>none
def gsw (t:Ty) (X:Prop):Prop:=match t with
 |.sw _ true=>False
 |_=>X
theorem gsw_ok {t:Ty} {X:Prop} (h:gsw t X):t.dsw=false/\X:=by
 unfold gsw at h
 split at h
 .exact h.elim
 .rename_i hn
  refine ⟨?_,h⟩
  unfold Ty.dsw
  split
  .rename_i e;exact (hn e rfl).elim
  .rfl
def dsg (t:Ty) (n:Nat) (X:Prop):Prop:=match t with
 |.sw _ true=>n<=1/\X
 |_=>X
theorem dsg_ok {t:Ty} {n:Nat} {X:Prop} (h:dsg t n X):(t.dsw=false\/n<=1)/\X:=by
 unfold dsg at h
 split at h
 .exact ⟨.inr h.1,h.2⟩
 .rename_i hn
  refine ⟨.inl ?_,h⟩
  unfold Ty.dsw
  split
  .rename_i e;exact (hn e rfl).elim
  .rfl
def ApW (xs ys:List (List Int)):Prop:=ys.length<=1/\∀x∈xs,∀y∈ys,y=[]\/x.length=y.length/\x≠y
def apW:(t:Ty)->List t.T->List t.T->Prop->Prop
 |.sw _ true,xs,ys,X=>ApW xs ys/\X
 |_,_,_,X=>X
def storeP (rows:List Row) (v:AV) (K:List Row->Prop) (T:TI):AV->Prop
 |.ptr i j=>match T,rows[i]? with
  |.one _ _,some (.sl e t xs)=>match asT t v with|some x=>gsw t (K (rows.set i (.sl e t (xs.set j x))))|none=>False
  |.one _ _,some (.box e _)=>(match v with|.d true t x=>j=0/\K (rows.set i (.box e (.d true t x)))|.nil=>j=0/\K (rows.set i (.box e .nil))|_=>False)
  |.arr _ n _,some (.sl e t xs)=>match v with|.arr t' ys=>∃h:t'=t,j=0/\List.length ys=n/\List.length xs=n/\gsw t (K (rows.set i (.sl e t (h ▸ ys))))|_=>False
  |.rc zs,some (.sl e t xs)=>match v with|.arr t' ys=>∃h:t'=t,j=0/\List.length ys=zs.length/\List.length xs=zs.length/\gsw t (K (rows.set i (.sl e t (h ▸ ys))))|_=>False
  |_,_=>False
 |.x (.pf i j 1)=>match T,rows[i]?,v with
  |.one _ _,some (.tz e xs),.d _ .int z=>K (rows.set i (.tz e (xs.set j ((List.getD xs j ([],0)).1,z))))
  |_,_,_=>False
 |_=>False
def cvtX (rows:List Row) (is:List Nat):XV->AV
 |.emp=>.x .emp
 |.sb i lo hi=>match is.idxOf? i with|some j=>.x (.sb j lo hi)|none=>(match rows[i]? with|some (.sl _ t xs)=>.d false (.sl t) ((List.take hi xs).drop lo)|_=>.any)
 |.oz i=>match is.idxOf? i with|some j=>.x (.oz j)|none=>(match rows[i]? with|some (.tz _ xs)=>.x (.dz false xs)|_=>.any)
 |.sz i lo hi=>match is.idxOf? i with|some j=>.x (.sz j lo hi)|none=>(match rows[i]? with|some (.tz _ xs)=>.x (.dz false ((List.take hi xs).drop lo))|_=>.any)
 |.dz sh xs=>.x (.dz sh xs)
 |.xd t xs=>.x (.xd t xs)
 |_=>.any
def cvt (rows:List Row) (is:List Nat):AV->AV
 |.x y=>cvtX rows is y
 |.ow i=>match is.idxOf? i with|some j=>.ow j|none=>(match rows[i]? with|some (.sl _ (.sw _ _) xs)=>.d false (.sl (.sl .int)) xs|some (.sl _ t xs)=>.d false (.sl t) xs|_=>.any)
 |.d sh (.sw _ _) xs=>.d sh (.sl .int) xs
 |.d sh (.sl (.sw _ _)) xs=>.d sh (.sl (.sl .int)) xs
 |.ptr i n=>match is.idxOf? i with|some j=>.ptr j n|none=>.any
 |.fn f caps=>.fn f (cl rows is caps)
 |.tup _=>.any
 |x=>x
where cl (rows:List Row) (is:List Nat):List AV->List AV
 |[]=>[]
 |x::l=>cvt rows is x::cl rows is l
def ren (m:Nat) (is:List Nat):AV->AV
 |.x .emp=>.x .emp
 |.x (.dz true xs)=>.x (.dz true xs)
 |.x (.xd t xs)=>.x (.xd t xs)
 |.x (.oz j)=>match is[j]? with|some i=>.x (.oz i)|none=>.x (.oz (m+(j-is.length)))
 |.x (.sb j lo hi)=>match is[j]? with|some i=>.x (.sb i lo hi)|none=>.x (.sb (m+(j-is.length)) lo hi)
 |.ow j=>match is[j]? with|some i=>.ow i|none=>.ow (m+(j-is.length))
 |.ptr j n=>match is[j]? with|some i=>.ptr i n|none=>.ptr (m+(j-is.length)) n
 |.d true t x=>.d true t x
 |.nil=>.nil
 |.arr t xs=>.arr t xs
 |_=>.any
def renF (rows':List Row) (is:List Nat):AV->AV
 |.x .emp=>.x .emp
 |.x (.dz true xs)=>.x (.dz true xs)
 |.x (.xd t xs)=>.x (.xd t xs)
 |.x (.oz j)=>match is[j]? with|some i=>.x (.oz i)|none=>(match rows'[j]? with|some (.tz _ xs)=>.x (.dz true xs)|_=>.any)
 |.x (.sb j lo hi)=>match is[j]? with|some i=>.x (.sb i lo hi)|none=>.any
 |.ow j=>match is[j]? with|some i=>.ow i|none=>(match rows'[j]? with|some (.sl _ t xs)=>.d true (.sl t) xs|_=>.any)
 |.d true t x=>.d true t x
 |.nil=>.nil
 |.arr t xs=>.arr t xs
 |_=>.any
def rowPlain:Row->Bool
 |.sl _ _ _=>true
 |.box _ (.d true _ _)=>true
 |.box _ .nil=>true
 |.tz _ _=>true
 |_=>false
def setRows (rows:List Row):List Nat->List Row->List Row
 |i::is,r::rs=>setRows (rows.set i r) is rs
 |_,_=>rows
def one1:List AV->AV
 |[x]=>x
 |l=>.tup l
def cnt:List Row->Nat
 |[]=>0
 |[_]=>1
 |[_,_]=>2
 |[_,_,_]=>3
 |[_,_,_,_]=>4
 |[_,_,_,_,_]=>5
 |[_,_,_,_,_,_]=>6
 |[_,_,_,_,_,_,_]=>7
 |[_,_,_,_,_,_,_,_]=>8
 |l=>l.length
theorem cnt_eq (l:List Row):cnt l=l.length:=by
 unfold cnt;split<;>rfl
def callA (P:Program) (N:Nat) (dst:Option Nat) (st:St) (F:Nat) (args caps:List AV) (K:St->Prop) (is:List Nat) (fz:Bool) (res:List AV) (rows':List Row):Prop:=
 AC P F (cvt.cl st.rows is (args++caps)) (is.map fun i=>(st.rows[i]?).getD .dead) res rows'/\
 is.Nodup/\is.all (fun i=>match st.rows[i]? with|some r=>rowPlain r|none=>false)=true/\rows'.all rowPlain=true/\rowsLike (is.map fun i=>(st.rows[i]?).getD .dead) rows'/\
 (match fz with
  |false=>splB (fun av=>putK N dst av ⟨st.env,setRows st.rows is (rows'.take is.length)++rows'.drop is.length⟩ K) (one1 (res.map (ren (cnt st.rows) is)))
  |true=>splB (fun av=>putK N dst av ⟨st.env,setRows st.rows is (rows'.take is.length)⟩ K) (one1 (res.map (renF rows' is))))
def callK (P:Program) (N m:Nat) (dst:Option Nat) (st:St) (f:AV) (args:List AV) (K:St->Prop):Prop:=
 match f with
 |.fn F caps=>∃(is:List Nat) (fz:Bool) (res:List AV) (rows':List Row),match is with
  |[]=>callA P N dst st F args caps K [] fz res rows'
  |i::is=>match Nat.beq i 1000000 with
   |true=>∃(st':St) (r:AV),XC P m N F (args++caps) st st' r/\putK N dst r st' K
   |false=>callA P N dst st F args caps K (i::is) fz res rows'
 |_=>False
def frzV (i:Nat) (t:Ty) (xs:List t.T):AV->AV
 |.ow j=>match Nat.beq i j with|true=>.d true (.sl t) xs|false=>.ow j
 |v=>killH i v
def frzE (i:Nat) (t:Ty) (xs:List t.T):List (Nat × AV)->List (Nat × AV)
 |[]=>[]
 |(u,v)::l=>(u,frzV i t xs v)::frzE i t xs l
def frzP (st:St):List (Nat × Operand)->(St->Prop)->Prop
 |[],K=>K st
 |(_,x)::l,K=>match evl st.env x with
  |.ow i=>match st.rows[i]? with
   |some (.sl _ t xs)=>boxFree i st.rows=true/\fEnv (frzE i t xs st.env) fun env'=>frzP ⟨env',st.rows.set i .dead⟩ l K
   |_=>False
  |_=>frzP st l K
def frzU (i:Nat) (e:Nat) (d:Bool) (xs:List Int):AV->AV
 |.ow j=>match Nat.beq i j with|true=>.d true (.sw e d) xs|false=>.ow j
 |v=>killH i v
def frzF (i:Nat) (e:Nat) (d:Bool) (xs:List Int):List (Nat × AV)->List (Nat × AV)
 |[]=>[]
 |(u,v)::l=>(u,frzU i e d xs v)::frzF i e d xs l
def frzW (e:Nat) (d:Bool) (st:St):List (Nat × Operand)->(St->Prop)->Prop
 |[],K=>K st
 |(_,x)::l,K=>match evl st.env x with
  |.ow i=>match st.rows[i]? with
   |some (.sl e' .int xs)=>Nat.beq e e'=true/\boxFree i st.rows=true/\fEnv (frzF i e d xs st.env) fun env'=>frzW e d ⟨env',st.rows.set i .dead⟩ l K
   |_=>False
  |_=>frzW e d st l K
def storeF (N:Nat) (dst:Option Nat) (st:St) (v:Operand) (x:AV) (K:St->Prop):Prop:=
 match x,evl st.env v with
 |.ptr r j,.ow i=>match st.rows[r]?,st.rows[i]? with
  |some (.sl E (.sw e true) xss),some (.sl e' .int ys)=>Nat.beq e e'=true/\Nat.beq r i=false/\boxFree i st.rows=true/\fEnv (frzF i e true ys st.env) fun env'=>fRows ((st.rows.set i .dead).set r (.sl E (.sw e true) (xss.set j ys))) fun rows'=>putK N dst .any ⟨env',rows'⟩ K
  |_,_=>False
 |_,_=>False
inductive Own where
 |o (b:Bool)
 |e
instance :Coe Bool Own:=⟨Own.o⟩
def buildS (N:Nat) (dst:Option Nat) (t:Ty) (e n:Nat) (parts:List (Nat × Operand)) (K:St->Prop) (st:St):Prop:=
 match coll t st.env 0 parts with
 |some xs=>xs.length=n/\n<=1000/\∃own:Own,(match own with
  |.o true=>dsg t n (putK N dst (.ow (cnt st.rows)) ⟨st.env,st.rows++[.sl e t xs]⟩ K)
  |.o false=>putK N dst (.d true (.sl t) xs) st K
  |.e=>n=0/\putK N dst (.x .emp) st K)
 |none=>False
def buildT (N:Nat) (dst:Option Nat) (e n:Nat) (parts:List (Nat × Operand)) (K:St->Prop) (st:St):Prop:=
 match parts with
 |[]=>n=0/\putK N dst (.x (.oz (cnt st.rows))) ⟨st.env,st.rows++[.tz e []]⟩ K
 |[(0,x)]=>n=1/\(match evl st.env x with
  |.arr .mix [.ints l,.int c]=>putK N dst (.x (.dz true [(l,c)])) st K
  |_=>False)
 |_=>False
def collX (env:List (Nat × AV)):(t:XT)->Nat->List (Nat × Operand)->Option (List t.T)
 |_,_,[]=>some []
 |.tr,i,(j,x)::l=>match Nat.beq i j,evl env x,collX env .tr (i+1) l with
  |true,.arr .int [a,b,c],some r=>some ((a,b,c)::r)
  |_,_,_=>none
 |.fn,i,(j,x)::l=>match Nat.beq i j,evl env x,collX env .fn (i+1) l with
  |true,.fn f [],some r=>some (f::r)
  |_,_,_=>none
def buildX (N:Nat) (dst:Option Nat) (t:XT) (e n:Nat) (parts:List (Nat × Operand)) (K:St->Prop) (st:St):Prop:=
 match parts with
 |[]=>(match t with
  |.tr=>n=0/\putK N dst (.x (.oa (cnt st.rows))) ⟨st.env,st.rows++[.sl e .mix []]⟩ K
  |.fn=>False)
 |p::parts=>match collX st.env t 0 (p::parts) with
  |some xs=>xs.length=n/\n<=1000/\putK N dst (.x (.xd t xs)) st K
  |none=>False
def flat3:List (Int × Int × Int)->List Mix
 |[]=>[]
 |x::l=>.int x.1::.int x.2.1::.int x.2.2::flat3 l
def appX (N m:Nat) (st:St) (dst:Option Nat) (e:Nat) (K:St->Prop):AV->AV->Prop
 |.x (.xd .tr ys),.x (.oa i)=>match st.rows[i]? with
  |some (.sl e' .mix xs)=>m<=i/\e'=e/\0<List.length ys/\List.length xs+3*List.length ys<=1099511627776/\boxFree i st.rows=true/\fEnv (killE i st.env) fun env'=>putK N dst (.x (.oa i)) ⟨env',st.rows.set i (.sl e' .mix (List.append xs (flat3 ys)))⟩ K
  |_=>False
 |_,_=>False
def swR (i j:Nat) (rows:List Row):List Row:=match rows[i]?,rows[j]? with
 |some x,some y=>(rows.set i y).set j x
 |_,_=>rows
def swV (i j:Nat):AV->AV
 |.x (.oz k)=>.x (.oz (match Nat.beq k i with|true=>j|false=>match Nat.beq k j with|true=>i|false=>k))
 |v=>killH i (killH j v)
def swE (i j:Nat):List (Nat × AV)->List (Nat × AV)
 |[]=>[]
 |(t,v)::l=>(t,swV i j v)::swE i j l
def cpyL {α:Type} (xs:List α) (lo:Nat) (ys:List α):List α:=List.take lo xs++ys++List.drop (lo+ys.length) xs
def killB (i:Nat):List Row->List Row
 |[]=>[]
 |.box e v::l=>.box e (killH i v)::killB i l
 |r::l=>r::killB i l
def appR (N m:Nat) (st:St) (dst:Option Nat) (i e e':Nat) (t t':Ty) (xs:List t'.T) (ys:List t.T) (K:St->Prop):Prop:=
 match boxFree i st.rows with
 |true=>∃h:t'=t,m<=i/\e'=e/\xs.length+ys.length<=1099511627776/\boxFree i st.rows=true/\apW t' xs (h ▸ ys) (fEnv (killE i st.env) fun env'=>putK N dst (.ow i) ⟨env',st.rows.set i (.sl e' t' (xs++(h ▸ ys)))⟩ K)
 |false=>∃h:t'=t,m<=i/\e'=e/\xs.length+ys.length<=1099511627776/\apW t' xs (h ▸ ys) (fEnv (killE i st.env) fun env'=>fRows ((killB i st.rows).set i (.sl e' t' (xs++(h ▸ ys)))) fun rows'=>putK N dst (.ow i) ⟨env',rows'⟩ K)
def litS (N:Nat) (dst:Option Nat) (st:St) (e0 e n:Nat) (K:St->Prop):List (Nat × Operand)->Prop
 |[(0,x)]=>match evl st.env x with
  |.ow k=>match st.rows[k]? with
   |some (.sl e' .int _)=>Nat.beq e0 e'=true/\n=1/\putK N dst (.x (.lo k)) st K
   |_=>False
  |_=>frzW e0 true st [(0,x)] (buildS N dst (.sw e0 true) e n [(0,x)] K)
 |l=>frzW e0 true st l (buildS N dst (.sw e0 true) e n l K)
def appL (N m:Nat) (st:St) (dst:Option Nat) (T T2:Nat) (k:Nat) (K:St->Prop):TI->AV->Prop
 |.one (.sl (.sw e0 true)) e,.ow i=>match st.rows[i]?,st.rows[k]? with
  |some (.sl e' (.sw e1 true) xs),some (.sl e2 .int ys)=>Nat.beq T T2=true/\m<=i/\e'=e/\e2=e1/\Nat.beq i k=false/\boxFree i st.rows=true/\boxFree k st.rows=true/\List.length xs+1<=1099511627776/\fEnv (killE i (frzF k e1 true ys st.env)) fun env'=>fRows ((st.rows.set k .dead).set i (.sl e' (.sw e1 true) (List.append xs [ys]))) fun rows'=>putK N dst (.ow i) ⟨env',rows'⟩ K
  |_,_=>False
 |_,_=>False
def wpOp (P:Program) (τ:Nat->TI) (N m:Nat) (st:St) (o:Oper) (K:St->Prop):Prop:=
 match o.op with
 |.store T x v=>match τ T,evl st.env v with
  |.one (.sl (.sl .int)) _,.ow k=>match evl st.env x with
   |.ptr r j=>match st.rows[r]? with
    |some (.box e _)=>putK N o.dst .any ⟨st.env,st.rows.set r (.box e (.ow k))⟩ K
    |_=>frzP st [(0,v)] fun st=>storeP st.rows (evl st.env v) (fun rows=>putK N o.dst .any ⟨st.env,rows⟩ K) (τ T) (evl st.env x)
   |_=>frzP st [(0,v)] fun st=>storeP st.rows (evl st.env v) (fun rows=>putK N o.dst .any ⟨st.env,rows⟩ K) (τ T) (evl st.env x)
  |.one (.sl .int) _,.ow _=>match evl st.env x with
   |.ptr r _=>match st.rows[r]? with
    |some (.sl E (.sw e true) xss)=>storeF N o.dst st v (evl st.env x) K
    |some (.sl _ (.sw e d) _)=>frzW e d st [(0,v)] fun st=>storeP st.rows (evl st.env v) (fun rows=>putK N o.dst .any ⟨st.env,rows⟩ K) (τ T) (evl st.env x)
    |_=>frzP st [(0,v)] fun st=>storeP st.rows (evl st.env v) (fun rows=>putK N o.dst .any ⟨st.env,rows⟩ K) (τ T) (evl st.env x)
   |_=>frzP st [(0,v)] fun st=>storeP st.rows (evl st.env v) (fun rows=>putK N o.dst .any ⟨st.env,rows⟩ K) (τ T) (evl st.env x)
  |.one (.sl _) _,.ow _=>frzP st [(0,v)] fun st=>storeP st.rows (evl st.env v) (fun rows=>putK N o.dst .any ⟨st.env,rows⟩ K) (τ T) (evl st.env x)
  |_,_=>storeP st.rows (evl st.env v) (fun rows=>putK N o.dst .any ⟨st.env,rows⟩ K) (τ T) (evl st.env x)
 |.box T x=>match evl st.env x with
  |.d true t y=>putK N o.dst (.ptr (cnt st.rows) 0) ⟨st.env,st.rows++[.box T (.d true t y)]⟩ K
  |.nil=>putK N o.dst (.ptr (cnt st.rows) 0) ⟨st.env,st.rows++[.box T .nil]⟩ K
  |.arr t ys=>0<ys.length/\ys.length<=1000/\gsw t (putK N o.dst (.ptr (cnt st.rows) 0) ⟨st.env,st.rows++[.sl T t ys]⟩ K)
  |_=>False
 |.alloc T=>match τ T with
  |.arr t n _=>0<n/\n<=1000/\putK N o.dst (.ptr (cnt st.rows) 0) ⟨st.env,st.rows++[.sl T t (List.replicate n t.dflt)]⟩ K
  |.one t _=>putK N o.dst (.ptr (cnt st.rows) 0) ⟨st.env,st.rows++[.box T (zav t)]⟩ K
  |.rc zs=>0<zs.length/\zs.length<=1000/\putK N o.dst (.ptr (cnt st.rows) 0) ⟨st.env,st.rows++[.sl T .mix (zs.map Mix.z0)]⟩ K
  |_=>False
 |.build T parts=>match τ T,parts.toList with
  |.arr t n _,[]=>putK N o.dst (.arr t (List.replicate n t.dflt)) st K
  |.arr .int n _,p::ps=>(match coll .int st.env 0 (p::ps) with
   |some fs=>List.length fs=n/\putK N o.dst (.arr .int fs) st K
   |none=>False)
  |.rc zs,ps=>match fillM st.env (zs.map Mix.z0) ps with
   |some fs=>putK N o.dst (.arr .mix fs) st K
   |none=>False
  |_,_=>False
 |.buildSlice T n parts=>match τ T with
  |.one (.sl (.sw e0 true)) e=>litS N o.dst st e0 e n K parts.toList
  |.one (.sl (.sw e0 d)) e=>frzW e0 d st parts.toList (buildS N o.dst (.sw e0 d) e n parts.toList K)
  |.one (.sl (.sl t)) e=>frzP st parts.toList (buildS N o.dst (.sl t) e n parts.toList K)
  |.one (.sl t) e=>buildS N o.dst t e n parts.toList K st
  |.tz e=>buildT N o.dst e n parts.toList K st
  |.xs t e=>buildX N o.dst t e n parts.toList K st
  |_=>False
 |.makeSlice T l c=>match τ T,evl st.env l,evl st.env c with
  |.one (.sl t) e,.d _ .int x,.d _ .int y=>∃l n:Nat,x=(l:Int)/\y=(n:Int)/\l<=n/\n<=1099511627776/\putK N o.dst (.ow (cnt st.rows)) ⟨st.env,st.rows++[.sl e t (List.replicate l t.dflt)]⟩ K
  |_,_,_=>False
 |.call c=>match c.callee with
  |.value f=>callK P N m o.dst st (evl st.env f) (c.args.toList.map (evl st.env)) K
  |.builtin .append=>match c.args.toList,c.argTypes.toList with
   |[x,y],[T,T2]=>match evl st.env y with
    |.x (.lo k)=>appL N m st o.dst T T2 k K (τ T) (evl st.env x)
    |_=>match Nat.beq T T2,τ T with
     |true,.one (.sl t) e=>match elems t st.rows (evl st.env y),evl st.env x with
      |some ys,.nil=>0<ys.length/\ys.length<=1099511627776/\gsw t (putK N o.dst (.ow (cnt st.rows)) ⟨st.env,st.rows++[.sl e t ys]⟩ K)
      |some ys,.x .emp=>(match ys with
       |[]=>putK N o.dst (.x .emp) st K
       |y::ys'=>(y::ys').length<=1099511627776/\gsw t (putK N o.dst (.ow (cnt st.rows)) ⟨st.env,st.rows++[.sl e t (y::ys')]⟩ K))
      |some ys,.ow i=>match st.rows[i]? with
       |some (.sl e' t' xs)=>appR N m st o.dst i e e' t t' xs ys K
       |_=>False
      |_,_=>False
     |false,.one (.sl t) e=>match τ T2,evl st.env x,evl st.env y with
      |.one .int _,.nil,.d _ .int z=>∃n:Nat,z=(n:Int)/\0<n/\n<=1099511627776/\gsw t (putK N o.dst (.ow (cnt st.rows)) ⟨st.env,st.rows++[.sl e t (List.replicate n t.dflt)]⟩ K)
      |_,_,_=>False
     |true,.xs .tr e=>appX N m st o.dst e K (evl st.env y) (evl st.env x)
     |true,.tz e=>match elemsT st.rows (evl st.env y),evl st.env x with
      |some ys,.x (.oz i)=>match st.rows[i]? with
       |some (.tz e' xs)=>m<=i/\e'=e/\xs.length+ys.length<=1099511627776/\boxFree i st.rows=true/\fEnv (killE i st.env) fun env'=>putK N o.dst (.x (.oz i)) ⟨env',st.rows.set i (.tz e' (xs++ys))⟩ K
       |_=>False
      |_,_=>False
     |_,_=>False
   |_,_=>False
  |.builtin .copy=>match c.args.toList,c.argTypes.toList with
   |[x,y],[T,_]=>match τ T with
    |.one (.sl t) e=>match elems t st.rows (evl st.env y),evl st.env x with
     |some ys,.ow r=>(match st.rows[r]? with
      |some (.sl e' t' xs)=>∃h:t'=t,e'=e/\gsw t (putK N o.dst (.d true .int ((min ys.length xs.length:Nat):Int)) ⟨st.env,st.rows.set r (.sl e' t' (cpyL xs 0 ((h ▸ ys).take (min ys.length xs.length))))⟩ K)
      |_=>False)
     |some ys,.x (.sb r lo hi)=>(match st.rows[r]? with
      |some (.sl e' t' xs)=>∃h:t'=t,e'=e/\lo<hi/\gsw t (putK N o.dst (.d true .int ((min ys.length (hi-lo):Nat):Int)) ⟨st.env,st.rows.set r (.sl e' t' (cpyL xs lo ((h ▸ ys).take (min ys.length (hi-lo)))))⟩ K)
      |_=>False)
     |_,_=>False
    |_=>False
   |_,_=>False
  |.builtin .clear=>match c.args.toList,c.argTypes.toList with
   |[x],[T]=>match τ T,evl st.env x with
    |.one (.sl t) e,.x (.sb r lo hi)=>(match st.rows[r]? with
     |some (.sl e' t' xs)=>e'=e/\t'=t/\gsw t' (putK N o.dst (.tup []) ⟨st.env,st.rows.set r (.sl e' t' (List.take lo xs++List.replicate (hi-lo) t'.dflt++List.drop hi xs))⟩ K)
     |_=>False)
    |_,_=>False
   |_,_=>False
  |_=>pOp τ st o.op fun av=>putK N o.dst av st K
 |.assign x=>match evl st.env x,o.dst.map (look st.env) with
  |.x (.oz i),some (.x (.oz j))=>(match Nat.beq i j with
   |true=>putK N o.dst (.x (.oz i)) st K
   |false=>m<=i/\m<=j/\boxFree i st.rows=true/\boxFree j st.rows=true/\fEnv (swE i j st.env) fun env'=>fRows (swR i j st.rows) fun rows'=>putK N o.dst (.x (.oz j)) ⟨env',rows'⟩ K)
  |av,_=>putK N o.dst av st K
 |_=>pOp τ st o.op fun av=>putK N o.dst av st K
structure Stp (m:Nat) (w:World) (bs:List Nat) (A:Nat->Prop) (w':World) (bs':List Nat) (A':Nat->Prop):Prop extends Step w bs A w' bs' A' where
 tk:bs'.take m=bs.take m
 st:Stay w (bs.take m) w'
 up:∀b,A b->A' b
theorem Stp.refl (m:Nat) (w:World) (bs:List Nat) (A:Nat->Prop):Stp m w bs A w bs A:=
 {Step.refl w bs A with tk:=rfl,st:=fun _ _ cur _ h=>⟨cur,h,rfl⟩,up:=fun _ h=>h}
theorem Stp.trans {m:Nat} {w w1 w2:World} {bs bs1 bs2:List Nat} {A A1 A2:Nat->Prop} (h:Stp m w bs A w1 bs1 A1) (k:Stp m w1 bs1 A1 w2 bs2 A2):Stp m w bs A w2 bs2 A2:=
 {Step.trans h.toStep k.toStep with
  tk:=k.tk.trans h.tk
  st:=fun b hb cur e hc=>by
   obtain ⟨c1,h1,h2⟩:=h.st b hb cur e hc
   obtain ⟨c2,h3,h4⟩:=k.st b (by rw [h.tk];exact hb) c1 e h1
   exact ⟨c2,h3,h4.trans h2⟩
  up:=fun b hb=>k.up b (h.up b hb)}
theorem Sat.rok {w:World} {bs:List Nat} {A:Nat->Prop} {a:Act} {N:Nat} {st:St} (h:Sat w bs A a N st):ROk w bs A st.rows:=⟨h.len,h.nodup,h.lt,h.old,h.row⟩
theorem XVal.hs_lt {w:World} {bs:List Nat} {A:Nat->Prop} {rows:List Row}:∀(y:XV) (v:Value),XVal w bs A rows y v->∀i∈y.hs,i<bs.length
 |.emp,_,_,i,hi=>by simp [XV.hs] at hi
 |.dz _ _,_,_,i,hi=>by simp [XV.hs] at hi
 |.ef _ _ _ _,_,_,i,hi=>by simp [XV.hs] at hi
 |.xd _ _,_,_,i,hi=>by simp [XV.hs] at hi
 |.xe _ _ _,_,_,i,hi=>by simp [XV.hs] at hi
 |.oa j,_,h,i,hi=>by
  simp [XV.hs] at hi;subst hi
  obtain ⟨b,_,_,_,hb,_⟩:=h
  exact (List.getElem?_eq_some_iff.1 hb).1
 |.lo j,_,h,i,hi=>by
  simp [XV.hs] at hi;subst hi
  obtain ⟨_,_,_,_,_,_,_,_,_,b,_,_,_,_,hb,_⟩:=h
  exact (List.getElem?_eq_some_iff.1 hb).1
 |.sb j _ _,_,h,i,hi=>by
  simp [XV.hs] at hi;subst hi
  obtain ⟨b,_,_,_,_,_,hb,_⟩:=h
  exact (List.getElem?_eq_some_iff.1 hb).1
 |.oz j,_,h,i,hi=>by
  simp [XV.hs] at hi;subst hi
  obtain ⟨b,_,_,_,hb,_⟩:=h
  exact (List.getElem?_eq_some_iff.1 hb).1
 |.sz j _ _,_,h,i,hi=>by
  simp [XV.hs] at hi;subst hi
  obtain ⟨b,_,_,_,_,hb,_⟩:=h
  exact (List.getElem?_eq_some_iff.1 hb).1
 |.pf j _ _,_,h,i,hi=>by
  simp [XV.hs] at hi;subst hi
  obtain ⟨b,_,_,hb,_⟩:=h
  exact (List.getElem?_eq_some_iff.1 hb).1
mutual
theorem V.hs_lt {w:World} {bs:List Nat} {A:Nat->Prop} {rows:List Row}:∀(av:AV) (v:Value),V w bs A rows av v->∀i∈av.hs,i<bs.length
 |.d _ _ _,_,_,i,hi=>by simp [AV.hs] at hi
 |.el _ _ _ _,_,_,i,hi=>by simp [AV.hs] at hi
 |.ow j,_,h,i,hi=>by
  simp [AV.hs] at hi;subst hi
  obtain ⟨b,_,_,_,_,hb,_⟩:=h
  exact (List.getElem?_eq_some_iff.1 hb).1
 |.ptr j _,_,h,i,hi=>by
  simp [AV.hs] at hi;subst hi
  obtain ⟨b,_,hb,_⟩:=h
  exact (List.getElem?_eq_some_iff.1 hb).1
 |.nil,_,_,i,hi=>by simp [AV.hs] at hi
 |.arr _ _,_,_,i,hi=>by simp [AV.hs] at hi
 |.fn _ caps,_,h,i,hi=>by obtain ⟨vs,_,h⟩:=h;exact Vs.hs_lt caps vs h i (by simpa [AV.hs] using hi)
 |.tup l,_,h,i,hi=>by obtain ⟨vs,_,h⟩:=h;exact Vs.hs_lt l vs h i (by simpa [AV.hs] using hi)
 |.x y,v,h,i,hi=>XVal.hs_lt y v h i (by simpa [AV.hs] using hi)
 |.any,_,_,i,hi=>by simp [AV.hs] at hi
theorem Vs.hs_lt {w:World} {bs:List Nat} {A:Nat->Prop} {rows:List Row}:∀(l:List AV) (vs:List Value),Vs w bs A rows l vs->∀i∈AV.hs.hsl l,i<bs.length
 |[],_,_,i,hi=>by simp [AV.hs.hsl] at hi
 |x::l,_,h,i,hi=>by
  obtain ⟨v,r,rfl,h1,h2⟩:=h
  simp only [AV.hs.hsl,List.mem_append] at hi
  rcases hi with hi|hi
  .exact V.hs_lt x v h1 i hi
  .exact Vs.hs_lt l r h2 i hi
end
theorem RowR.keep {w w':World} {bs bs':List Nat} {A A':Nat->Prop} {rows rows':List Row} {H:Nat->Prop} (k:Kp w bs A rows w' bs' A' rows' H) {b:Nat} {r:Row}
 (hb:w'.heap[b]? =w.heap[b]?) (hA:¬A b->¬A' b) (hH:∀e av,r=.box e av->∀i∈av.hs,H i) (h:RowR w bs A rows b r):RowR w' bs' A' rows' b r:=by
 cases r with
 |dead=>trivial
 |sl e t xs=>
  obtain ⟨h0,cur,h1,h2,h3,h4⟩:=h
  refine ⟨hA h0,cur,hb.trans h1,h2,h3,fun j hj=>?_,h4.d⟩
  obtain ⟨cv,h5,h6⟩:=h4 j hj
  exact ⟨cv,h5,Rd.ext (k.ss true) t _ _ h6⟩
 |box e av=>
  obtain ⟨h0,cv,h1,h2⟩:=h
  exact ⟨hA h0,cv,hb.trans h1,V.keep k av cv (hH e av rfl) h2⟩
 |tz e xs=>
  obtain ⟨h0,cur,h1,h2,h3,h4⟩:=h
  exact ⟨hA h0,cur,hb.trans h1,h2,h3,h4.ext (k.ss true) hb⟩
theorem RowR.nA {w:World} {bs:List Nat} {A:Nat->Prop} {rows:List Row} {b:Nat} {r:Row} (h:RowR w bs A rows b r) (hd:r≠.dead):¬A b:=by
 cases r with
 |dead=>exact (hd rfl).elim
 |sl e t xs=>exact h.1
 |box e av=>exact h.1
 |tz e xs=>exact h.1
theorem Sat.change {w w':World} {bs bs':List Nat} {A A':Nat->Prop} {a:Act} {N:Nat} {st:St} {rows':List Row} {env':List (Nat × AV)} {H:Nat->Prop} (h:Sat w bs A a N st)
 (k:Kp w bs A st.rows w' bs' A' rows' H) (hr:ROk w' bs' A' rows') (he:∀t,look env' t=.any\/(look env' t=look st.env t/\∀i∈(look st.env t).hs,i<bs.length->H i)):Sat w' bs' A' a N ⟨env',rows'⟩:=
 ⟨hr.len,hr.nodup,hr.lt,hr.old,hr.row,fun t=>by
  rcases he t with e|⟨e,hH⟩
  .show V _ _ _ _ (look env' t) _
   rw [e];trivial
  .show V _ _ _ _ (look env' t) _
   rw [e]
   exact V.keep k _ _ (fun i hi=>hH i hi (V.hs_lt _ _ (h.env t) i hi)) (h.env t),h.size,h.dfs⟩
theorem look_cons (d:Nat) (av:AV) (env:List (Nat × AV)) (t:Nat):look ((d,av)::env) t=if d=t then av else look env t:=by
 by_cases h:d=t
 .subst h;simp [look]
 .have:Nat.beq d t=false:=by
   cases hb:Nat.beq d t
   .rfl
   .exact (h (Nat.eq_of_beq_eq_true hb)).elim
  simp [look,this,h]
theorem putK_ok {w:World} {bs:List Nat} {A:Nat->Prop} {a:Act} {N:Nat} {st:St} {av:AV} {v:Value} {dst:Option Nat} {K:St->Prop} (hs:Sat w bs A a N st) (hv:V w bs A st.rows av v)
 (h:putK N dst av st K):∃st',Sat w bs A (a.put dst v) N st'/\K st':=by
 unfold putK at h
 simp only [fAV_eq,fRows_eq] at h
 split at h
 .exact ⟨st,hs,h⟩
 .rename_i d
  split at h
  .rename_i hd
   have hd':d<N:=by
    have:Nat.ble (d+1) N=true:=hd
    exact Nat.le_of_ble_eq_true this
   refine ⟨⟨(d,av)::st.env,st.rows⟩,⟨hs.len,hs.nodup,hs.lt,hs.old,hs.row,fun t=>?_,by simp [Act.put,hs.size],hs.dfs⟩,h⟩
   show V w bs A st.rows (look ((d,av)::st.env) t) _
   rw [look_cons]
   have hsz:=hs.size
   by_cases e:d=t
   .subst e
    rw [if_pos rfl]
    have:(a.put (some d) v).tmps.getD d undef=v:=by
     simp [Act.put,Array.getD,hsz,hd']
    rw [this];exact hv
   .rw [if_neg e]
    have:(a.put (some d) v).tmps.getD t undef=a.tmps.getD t undef:=by
     simp only [Act.put,Array.getD_eq_getD_getElem?,Array.getElem?_setIfInBounds]
     rw [if_neg e]
    rw [this];exact hs.env t
  .exact h.elim
structure Plus (w w':World) (o:Obj):Prop where
 os:w'.os=w.os
 tape:w'.tape=w.tape
 output:w'.output=w.output
 size:w'.heap.size=w.heap.size+1
 old:∀k,k<w.heap.size->w'.heap[k]? =w.heap[k]?
 new:w'.heap[w.heap.size]? =some o
theorem Plus.alloc (w:World) (o:Obj):Plus w (w.alloc o) o:=⟨rfl,rfl,rfl,by simp,fun k hk=>Below.heap_alloc w o k hk,heap_alloc_new w o⟩
theorem Plus.drew {w w':World} {o:Obj} (h:Plus w.drew w' o):Plus w w' o:=⟨h.os,h.tape,h.output,h.size,h.old,h.new⟩
section
variable {m N:Nat} {w w':World} {bs:List Nat} {A:Nat->Prop} {a:Act} {st:St}
theorem Kp.push {A':Nat->Prop} {rows:List Row} {r:Row} {o:Obj} (hl:bs.length=rows.length) (hlt:∀b∈bs,b<w.heap.size) (hp:Plus w w' o) (hA:∀b,A b->A' b):
 Kp w bs A rows w' (bs++[w.heap.size]) A' (rows++[r]) (fun i=>i<bs.length) where
 a:=fun b hb hlt=>⟨hp.old b hlt,hA b hb⟩
 n:=fun b hb hlt=>⟨hp.old b hlt,by simp [hb];omega⟩
 h:=fun i hi=>⟨by rw [List.getElem?_append_left hi],fun r' hr=>⟨r',by rw [List.getElem?_append_left (by omega)];exact hr,rfl,(fun e t xs hx=>⟨xs,hx⟩),fun e xs hx=>⟨xs,hx⟩⟩,
  fun b cur e hb hc=>⟨cur,by rw [hp.old b (hlt b (List.mem_of_getElem? hb))];exact hc,rfl⟩⟩
theorem Kp.same {A':Nat->Prop} {rows:List Row} {o:Obj} (hlt:∀b∈bs,b<w.heap.size) (hp:Plus w w' o) (hA:∀b,A b->A' b):
 Kp w bs A rows w' bs A' rows (fun i=>i<bs.length) where
 a:=fun b hb hlt=>⟨hp.old b hlt,hA b hb⟩
 n:=fun b hb hlt=>⟨hp.old b hlt,hb⟩
 h:=fun i hi=>⟨rfl,fun r' hr=>⟨r',hr,rfl,(fun e t xs hx=>⟨xs,hx⟩),fun e xs hx=>⟨xs,hx⟩⟩,
  fun b cur e hb hc=>⟨cur,by rw [hp.old b (hlt b (List.mem_of_getElem? hb))];exact hc,rfl⟩⟩
theorem Sat.boxlt (hs:Sat w bs A a N st) {i b:Nat} {r:Row} (hb:bs[i]? =some b) (hr:st.rows[i]? =some r):∀e av,r=.box e av->∀j∈av.hs,j<bs.length:=by
 intro e av e1 j hj
 subst e1
 obtain ⟨_,cv,_,hv⟩:=hs.row i b _ hb hr
 exact V.hs_lt av cv hv j hj
theorem Sat.push (hs:Sat w bs A a N st) {r:Row} {o:Obj} (hm:m<=bs.length) (hp:Plus w w' o) (hr:RowR w' (bs++[w.heap.size]) A (st.rows++[r]) w.heap.size r):
 Sat w' (bs++[w.heap.size]) A a N ⟨st.env,st.rows++[r]⟩/\Stp m w bs A w' (bs++[w.heap.size]) A:=by
 have k:=Kp.push (A':=A) (rows:=st.rows) (r:=r) hs.len hs.lt hp (fun _ h=>h)
 constructor
 .refine hs.change k ⟨by simp [hs.len],?_,?_,fun b hb=>by have:=hs.old b hb;have:=hp.size;omega,?_⟩ (fun t=>.inr ⟨rfl,fun i _ hi=>hi⟩)
  .rw [List.nodup_append]
   refine ⟨hs.nodup,by simp,fun x hx y hy=>?_⟩
   have:=hs.lt x hx
   simp at hy
   omega
  .intro b hb
   have:=hp.size
   simp at hb
   rcases hb with hb|hb
   .have:=hs.lt b hb;omega
   .omega
  .intro i b r' hb hr'
   by_cases hi:i<bs.length
   .rw [List.getElem?_append_left hi] at hb
    rw [List.getElem?_append_left (by have:=hs.len;omega)] at hr'
    exact RowR.keep k (hp.old b (hs.lt b (List.mem_of_getElem? hb))) (fun h=>h) (fun e av e1 j hj=>hs.boxlt hb hr' e av e1 j hj) (hs.row i b r' hb hr')
   .have hi2:i=bs.length:=by
     have:=(List.getElem?_eq_some_iff.1 hb).1
     simp at this;omega
    subst hi2
    rw [List.getElem?_append_right (Nat.le_refl _)] at hb
    rw [List.getElem?_append_right (by rw [hs.len];exact Nat.le_refl _)] at hr'
    simp at hb
    rw [hs.len] at hr'
    simp at hr'
    subst hb hr'
    exact hr
 .exact {
   os:=hp.os,tape:=hp.tape,output:=hp.output,size:=by have:=hp.size;omega,block:=fun k hk _=>hp.old k hk,
   sbs:=fun b hb=>by simp at hb;rcases hb with hb|hb;exact .inl hb;exact .inr (by omega),
   sA:=fun b hb=>.inl hb,tk:=by rw [List.take_append_of_le_length hm],
   st:=fun b hb cur e hc=>⟨cur,by rw [hp.old b (hs.lt b (List.mem_of_mem_take hb))];exact hc,rfl⟩,up:=fun _ h=>h}
theorem Sat.pushA (hs:Sat w bs A a N st) {o:Obj} (hp:Plus w w' o):
 Sat w' bs (fun b=>A b\/b=w.heap.size) a N st/\Stp m w bs A w' bs (fun b=>A b\/b=w.heap.size):=by
 have k:=Kp.same (A':=fun b=>A b\/b=w.heap.size) (rows:=st.rows) hs.lt hp (fun b h=>.inl h)
 constructor
 .refine hs.change k ⟨hs.len,hs.nodup,fun b hb=>by have:=hs.lt b hb;have:=hp.size;omega,?_,?_⟩ (fun t=>.inr ⟨rfl,fun i _ hi=>hi⟩)
  .intro b hb
   have:=hp.size
   rcases hb with hb|hb
   .have:=hs.old b hb;omega
   .omega
  .intro i b r' hb hr'
   have hbl:=hs.lt b (List.mem_of_getElem? hb)
   refine RowR.keep k (hp.old b hbl) (fun h h2=>?_) (fun e av e1 j hj=>hs.boxlt hb hr' e av e1 j hj) (hs.row i b r' hb hr')
   rcases h2 with h2|h2
   .exact h h2
   .omega
 .exact {
   os:=hp.os,tape:=hp.tape,output:=hp.output,size:=by have:=hp.size;omega,block:=fun k hk _=>hp.old k hk,
   sbs:=fun b hb=>.inl hb,sA:=fun b hb=>by rcases hb with hb|hb;exact .inl hb;exact .inr (.inl (by omega)),tk:=rfl,
   st:=fun b hb cur e hc=>⟨cur,by rw [hp.old b (hs.lt b (List.mem_of_mem_take hb))];exact hc,rfl⟩,up:=fun _ h=>.inl h}
structure Upd (w:World) (b:Nat) (w':World):Prop where
 os:w'.os=w.os
 tape:w'.tape=w.tape
 output:w'.output=w.output
 size:w'.heap.size=w.heap.size
 old:∀k,k≠b->w'.heap[k]? =w.heap[k]?
 here:∀(cur:Array Value) (e:TypeId),w.heap[b]? =some (.cells cur e (0,0))->∃cur',w'.heap[b]? =some (.cells cur' e (0,0))/\cur'.size=cur.size
theorem Upd.setCell (w:World) (b j:Nat) (v:Value):Upd w b (w.setCell ⟨b,j,none⟩ v):=
 ⟨rfl,rfl,rfl,by simp,fun k hk=>heap_setCell_other w ⟨b,j,none⟩ k v hk,fun cur e hc=>⟨cur.setIfInBounds j v,heap_setCell_same w b j cur e v hc,by simp⟩⟩
theorem Sat.store (hs:Sat w bs A a N st) {i b:Nat} {r r':Row} (hb:bs[i]? =some b) (hr:st.rows[i]? =some r) (hdead:r≠.dead)
 (hlen:r'.len=r.len) (hsl:(∀e t xs,r=.sl e t xs->∃xs',r'=.sl e t xs')/\∀e xs,r=.tz e xs->∃xs',r'=.tz e xs') (hu:Upd w b w') (hr':RowR w' bs A (st.rows.set i r') b r'):
 Sat w' bs A a N ⟨st.env,st.rows.set i r'⟩/\Stp m w bs A w' bs A:=by
 have hbA:¬A b:=by
  exact (hs.row i b r hb hr).nA hdead
 have hoth:=hu.old
 have hcells:∀(b':Nat) (cur:Array Value) (e:TypeId),w.heap[b']? =some (.cells cur e (0,0))->∃cur',w'.heap[b']? =some (.cells cur' e (0,0))/\cur'.size=cur.size:=by
  intro b' cur e hc
  by_cases e1:b'=b
  .subst e1
   exact hu.here cur e hc
  .exact ⟨cur,by rw [hoth b' e1];exact hc,rfl⟩
 have hil:i<st.rows.length:=(List.getElem?_eq_some_iff.1 hr).1
 have k:Kp w bs A st.rows w' bs A (st.rows.set i r') (fun i=>i<bs.length):=
  {a:=fun b' hb' _=>⟨hoth b' (fun e=>hbA (e ▸ hb')),hb'⟩
   n:=fun b' hb' _=>⟨hoth b' (fun e=>hb' (e ▸ List.mem_of_getElem? hb)),hb'⟩
   h:=fun i' hi'=>⟨rfl,fun r1 hr1=>by
    by_cases e1:i=i'
    .subst e1
     rw [hr] at hr1;cases hr1
     exact ⟨r',by simp [hil],hlen,hsl⟩
    .exact ⟨r1,by rw [List.getElem?_set_ne e1];exact hr1,rfl,(fun e t xs hx=>⟨xs,hx⟩),fun e xs hx=>⟨xs,hx⟩⟩,
    fun b' cur e _ hc=>hcells b' cur e hc⟩}
 constructor
 .refine hs.change k ⟨by simp [hs.len],hs.nodup,fun b' hb'=>by rw [hu.size];exact hs.lt b' hb',fun b' hb'=>by rw [hu.size];exact hs.old b' hb',?_⟩ (fun t=>.inr ⟨rfl,fun i _ hi=>hi⟩)
  intro i' b' r1 hb' hr1
  by_cases e1:i=i'
  .subst e1
   rw [hb] at hb';cases hb'
   rw [List.getElem?_set] at hr1
   simp [hil] at hr1
   subst hr1
   exact hr'
  .rw [List.getElem?_set_ne e1] at hr1
   have hne:b'≠b:=by
    intro e2
    subst e2
    have h1:=List.getElem?_eq_some_iff.1 hb
    have h2:=List.getElem?_eq_some_iff.1 hb'
    exact e1 ((List.getElem_inj (h₀:=h1.1) (h₁:=h2.1) hs.nodup).1 (by rw [h1.2,h2.2]))
   exact RowR.keep k (hoth b' hne) (fun h=>h) (fun e av e1 j hj=>hs.boxlt hb' hr1 e av e1 j hj) (hs.row i' b' r1 hb' hr1)
 .exact {
   os:=hu.os,tape:=hu.tape,output:=hu.output,size:=Nat.le_of_eq hu.size.symm,block:=fun k hk hn=>hoth k (fun e=>hn (e ▸ List.mem_of_getElem? hb)),
   sbs:=fun b hb=>.inl hb,sA:=fun b hb=>.inl hb,tk:=rfl,st:=fun b' _ cur e hc=>hcells b' cur e hc,up:=fun _ h=>h}
end
def Src (w:World) (src:Value) (news:List Value):Prop:=
 (∃a c,src=.slice (some a) news.length c/\∀j v,news[j]? =some v->w.cell? (a.add j)=some v)\/(src=.slice none 0 0/\news=[])
structure Apd (M:Nat) (w:World) (b n:Nat) (cur:Array Value) (e:TypeId) (news:List Value) (w':World) (b':Nat) (cur':Array Value):Prop where
 os:w'.os=w.os
 tape:w'.tape=w.tape
 output:w'.output=w.output
 size:w.heap.size<=w'.heap.size
 lt:b'<w'.heap.size
 old:∀k,k<w.heap.size->k≠b->w'.heap[k]? =w.heap[k]?
 new:w'.heap[b']? =some (.cells cur' e (0,0))
 which:b'=b\/b'=w.heap.size
 len:n+news.length<=cur'.size
 max:cur'.size<=M
 take:cur'.toList.take (n+news.length)=cur.toList.take n++news
theorem mx_of {P:Program} {τ:Nat->TI} (hτ:TyOk P τ) {T e:Nat} {t:Ty} (hT:τ T=.one (.sl t) e):t.mx=maxLen:=by
 obtain ⟨⟨_,e',he⟩,_⟩:=hτ.one _ _ _ hT
 have h:=(hτ.one _ _ _ he).1
 cases t<;>first|rfl|exact h.elim
theorem Ty.by_le (t:Ty):t.by<=24:=by cases t<;>simp [Ty.by]
section
variable {P:Program} {τ:Nat->TI} {w:World}
theorem run_app (hτ:TyOk P τ) {T ty:TypeId} {e:Nat} {t:Ty} (hT:τ T=.one (.sl t) e) {b n:Nat} {cur:Array Value} (hc:w.heap[b]? =some (.cells cur e (0,0))) (hn:n<=cur.size) (hcm:cur.size<=maxLen)
 {src:Value} {news:List Value} (hsrc:Src w src news) (hone:∀u∈news,u.oneCell'=true) (hbd:n+news.length<=2199023255552):
 ∃w' b' cur',(Builtin.append_ #[T,T] ty #[.slice (some ⟨b,0,none⟩) n cur.size,src]).run P w=.ok (.slice (some ⟨b',0,none⟩) (n+news.length) cur'.size) w'/\Apd maxLen w b n cur e news w' b' cur':=by
 obtain ⟨⟨hu,e',he⟩,_⟩:=hτ.one _ _ _ hT
 obtain ⟨_,i,hi,h1,hz,hby⟩:=hτ.one _ _ _ he
 rw [Ty.base_zv] at hz
 rw [Ty.base_by] at hby
 have hbl:b<w.heap.size:=(Array.getElem?_eq_some_iff.1 hc).1
 have hby2:=t.by_le
 rcases hsrc with ⟨a,c,rfl,hnews⟩|⟨rfl,rfl⟩
 .by_cases hroom:n+news.length<=cur.size
  .have hr:=run_append_room (P:=P) w T ty e i hu hi b n cur.size cur hc a news.length c news (by rw [h1];omega) hnews hone hroom (by rw [h1];omega)
   rw [h1] at hr
   refine ⟨w.setRow b (cur.toList.take (n*1)++news++cur.toList.drop (n*1+news.length)).toArray,b,(cur.toList.take (n*1)++news++cur.toList.drop (n*1+news.length)).toArray,?_,?_⟩
   .rw [hr]
    congr 2
    simp
    omega
   .exact {
     os:=rfl,tape:=rfl,output:=rfl,size:=by simp,lt:=by simpa using hbl,old:=fun k _ hk=>setRow_other w b k _ hk,new:=setRow_heap w b cur _ e _ hc,which:=.inl rfl,
     len:=by simp;omega,max:=by simp;omega,take:=by simp [List.take_append,hn,List.take_take,Nat.min_eq_right (Nat.le_add_right n news.length)]}
  .have holds:∀j v,(cur.toList.take n)[j]? =some v->w.cell? ((⟨b,0,none⟩:Addr).add j)=some v:=by
    intro j v hv
    rw [addr_add,cell_of_row w b _ cur e (0,0) hc]
    rw [List.getElem?_take] at hv
    split at hv
    .simpa using hv
    .cases hv
   have hfit:Builtin.nextslicecap (n+news.length) cur.size*i.bytes<=281474976710656:=growslice_fits (by omega) (by
    rw [hby]
    calc (n+news.length)*t.by<=(n+news.length)*24:=Nat.mul_le_mul_left _ hby2
     _<=140737488355328:=by omega)
   have hr:=run_append_grow (P:=P) w T ty e i t.zv hu hi hz ⟨b,0,none⟩ n cur.size (cur.toList.take n) (by rw [h1];simp;omega) holds a news.length c news (by rw [h1];omega) hnews (by omega) (by omega) hfit
   have hzs:t.zv.cells.size=1:=by cases t<;>rfl
   have hge:=grownCap_ge w (n+news.length) cur.size e
   have hle:=grownCap_le_maxLen w (n+news.length) cur.size e (by simp only [maxLen];omega)
   have hsz:((cur.toList.take n).toArray++news.toArray++Builtin.zeroCells t.zv.cells (grownCap w (n+news.length) cur.size e-(n+news.length))).size=grownCap w (n+news.length) cur.size e:=by
    simp only [Array.size_append,List.size_toArray,size_zeroCells,hzs,List.length_take,Array.length_toList]
    omega
   refine ⟨w.drew.alloc (.cells ((cur.toList.take n).toArray++news.toArray++Builtin.zeroCells t.zv.cells (grownCap w (n+news.length) cur.size e-(n+news.length))) e),w.heap.size,(cur.toList.take n).toArray++news.toArray++Builtin.zeroCells t.zv.cells (grownCap w (n+news.length) cur.size e-(n+news.length)),?_,?_⟩
   .rw [hr,hsz]
   .exact {
     os:=rfl,tape:=rfl,output:=rfl,size:=by simp,lt:=by simp,old:=fun k hk _=>Below.heap_alloc w.drew _ k hk,new:=heap_alloc_new w.drew _,which:=.inr rfl,
     len:=by rw [hsz];exact hge,max:=by rw [hsz];exact hle,take:=by
      simp only [Array.toList_append,List.append_assoc]
      rw [<-List.append_assoc]
      apply List.take_left'
      simp;omega}
 .have hown:w.ownsRow 0 e 1 (.slice (some ⟨b,0,none⟩) n cur.size) n (cur.toList.take n):=
   ⟨by simp;omega,.inr ⟨b,cur.size,cur,rfl,Nat.zero_le _,hc,hn,hcm,by simp,by simp⟩⟩
  have hr:=run_append_owned_none (P:=P) (w:=w) 0 T ty e i 1 hu hi _ n _ hown
  exact ⟨w,b,cur,by simpa using hr,{os:=rfl,tape:=rfl,output:=rfl,size:=Nat.le_refl _,lt:=hbl,old:=fun _ _ _=>rfl,new:=hc,which:=.inl rfl,len:=by simpa using hn,max:=hcm,take:=by simp}⟩
theorem run_app_nil (hτ:TyOk P τ) {T ty:TypeId} {e:Nat} {t:Ty} (hT:τ T=.one (.sl t) e)
 {src:Value} {news:List Value} (hsrc:Src w src news) (hpos:0<news.length) (hbd:news.length<=2199023255552):
 ∃w' cur',(Builtin.append_ #[T,T] ty #[.slice none 0 0,src]).run P w=.ok (.slice (some ⟨w.heap.size,0,none⟩) news.length cur'.size) w'/\Plus w w' (.cells cur' e (0,0))/\
  news.length<=cur'.size/\cur'.size<=maxLen/\cur'.toList.take news.length=news:=by
 obtain ⟨⟨hu,e',he⟩,_⟩:=hτ.one _ _ _ hT
 obtain ⟨_,i,hi,h1,hz,hby⟩:=hτ.one _ _ _ he
 rw [Ty.base_zv] at hz
 rw [Ty.base_by] at hby
 have hby2:=t.by_le
 rcases hsrc with ⟨a,c,rfl,hnews⟩|⟨rfl,rfl⟩
 .have hr:=run_append_nil (P:=P) w T ty e i t.zv hu hi hz a news.length c news (by rw [h1];omega) hnews hpos (by omega) (by
   rw [hby]
   calc news.length*t.by<=news.length*24:=Nat.mul_le_mul_left _ hby2
    _<=281474976710656:=by omega)
  have hzs:t.zv.cells.size=1:=by cases t<;>rfl
  have hge:=grownCap_ge w news.length 0 e
  have hle:=grownCap_le_maxLen w news.length 0 e (by simp only [maxLen];omega)
  have hsz:(news.toArray++Builtin.zeroCells t.zv.cells (grownCap w news.length 0 e-news.length)).size=grownCap w news.length 0 e:=by
   simp only [Array.size_append,List.size_toArray,size_zeroCells,hzs]
   omega
  refine ⟨w.drew.alloc (.cells (news.toArray++Builtin.zeroCells t.zv.cells (grownCap w news.length 0 e-news.length)) e),news.toArray++Builtin.zeroCells t.zv.cells (grownCap w news.length 0 e-news.length),?_,(Plus.alloc w.drew _).drew,by rw [hsz];exact hge,by rw [hsz];exact hle,by simp⟩
  rw [hr,hsz]
 .simp at hpos
end
section
variable {P:Program} {τ:Nat->TI} {w:World}
theorem run_app_zero (hτ:TyOk P τ) {T T2 ty:TypeId} {e e2:Nat} {t:Ty} (hT:τ T=.one (.sl t) e) (hT2:τ T2=.one .int e2) (n:Nat) (hpos:0<n) (hbd:n<=1099511627776):
 ∃w' cur',(Builtin.append_ #[T,T2] ty #[.slice none 0 0,.int .i64 (n:Int)]).run P w=.ok (.slice (some ⟨w.heap.size,0,none⟩) n cur'.size) w'/\Plus w w' (.cells cur' e (0,0))/\
  n<=cur'.size/\cur'.size<=maxLen/\∀j,j<n->cur'[j]? =some t.zv:=by
 obtain ⟨⟨hu,e',he⟩,_⟩:=hτ.one _ _ _ hT
 obtain ⟨_,i,hi,h1,hz,hby⟩:=hτ.one _ _ _ he
 have hu2:P.underlying T2=some (.int .i64):=(hτ.one _ _ _ hT2).1
 rw [Ty.base_zv] at hz
 rw [Ty.base_by] at hby
 have hby2:=t.by_le
 have hge:=grownCap_ge w n 0 e
 have hle:=grownCap_le_maxLen w n 0 e (by simp only [maxLen];omega)
 have hmul:n*i.bytes<=281474976710656:=by
  rw [hby]
  calc n*t.by<=n*24:=Nat.mul_le_mul_left _ hby2
   _<=281474976710656:=by omega
 have hzs:t.zv.cells= #[t.zv]:=by cases t<;>rfl
 have hw:IntKind.i64.wrap (n:Int)=(n:Int):=IntWalk.i64_in _ ⟨by omega,by omega⟩
 have hsz:∀k,(Builtin.zeroCells t.zv.cells k).size=k:=fun k=>by rw [size_zeroCells,hzs];simp
 have hg:∀k j,j<k->(Builtin.zeroCells t.zv.cells k)[j]? =some t.zv:=fun k j hj=>by
  rw [hzs]
  simp [Builtin.zeroCells,hj]
  rw [show j % 1=0 by omega];rfl
 have hneg:¬((n:Int)<0):=by omega
 have hn:n≠0:=by omega
 have h63':¬(9223372036854775807<(n:Int)):=by omega
 have h48':¬(281474976710656<Builtin.nextslicecap n 0*i.bytes):=by rw [nextslicecap_zero hpos];omega
 have h48:¬((281474976710656:Int)<(n:Int)*(i.bytes:Int)):=by
  have:(n:Int)*(i.bytes:Int)=((n*i.bytes:Nat):Int):=(Int.natCast_mul _ _).symm
  rw [this];omega
 refine ⟨w.drew.alloc (.cells (Builtin.zeroCells t.zv.cells n++Builtin.zeroCells t.zv.cells (grownCap w n 0 e-n)) e),Builtin.zeroCells t.zv.cells n++Builtin.zeroCells t.zv.cells (grownCap w n 0 e-n),?_,(Plus.alloc w.drew _).drew,by rw [Array.size_append,hsz];omega,by rw [Array.size_append,hsz,hsz];omega,fun j hj=>?_⟩
 .have hs2:(Builtin.zeroCells t.zv.cells n++Builtin.zeroCells t.zv.cells (grownCap w n 0 e-n)).size=grownCap w n 0 e:=by rw [Array.size_append,hsz,hsz];omega
  rw [hs2]
  simp [Builtin.append_,run_underlying hu,run_underlying hu2,sizeOf,typeInfo,zeroValue,hi,hz,h1,hn,hneg,hw,asInt,asIntOf,h63',h48',h48,Question.forced,run_firstCells_none,newRow,grownCap]
 .rw [Array.getElem?_append_left (by rw [hsz];exact hj)];exact hg n j hj
theorem run_app_emp (hτ:TyOk P τ) {T ty:TypeId} {e:Nat} {t:Ty} (hT:τ T=.one (.sl t) e) (ad:Option Addr) {src:Value} (hsrc:Src w src []):
 (Builtin.append_ #[T,T] ty #[.slice ad 0 0,src]).run P w=.ok (.slice ad 0 0) w:=by
 obtain ⟨⟨hu,e',he⟩,_⟩:=hτ.one _ _ _ hT
 obtain ⟨_,i,hi,h1,hz,hby⟩:=hτ.one _ _ _ he
 rw [Ty.base_zv] at hz
 rw [Ty.base_by] at hby
 have hl0:∀x:Addr,(loadCells x 0).run P w=.ok #[] w:=fun x=>by simpa using run_loadCells_list (P:=P) w x [] (by simp)
 rcases hsrc with ⟨a,c,rfl,_⟩|⟨rfl,_⟩
 .cases ad<;>simp [Builtin.append_,run_underlying hu,sizeOf,typeInfo,hi,Builtin.lenOf,Builtin.firstCells,storeCells,hl0]
 .cases ad<;>simp [Builtin.append_,run_underlying hu,sizeOf,typeInfo,hi,Builtin.lenOf,Builtin.firstCells,storeCells]
theorem run_app_emp2 (hτ:TyOk P τ) {T ty:TypeId} {e:Nat} {t:Ty} (hT:τ T=.one (.sl t) e) (ad:Option Addr)
 {src:Value} {news:List Value} (hsrc:Src w src news) (hpos:0<news.length) (hbd:news.length<=2199023255552):
 ∃w' cur',(Builtin.append_ #[T,T] ty #[.slice ad 0 0,src]).run P w=.ok (.slice (some ⟨w.heap.size,0,none⟩) news.length cur'.size) w'/\Plus w w' (.cells cur' e (0,0))/\
  news.length<=cur'.size/\cur'.size<=maxLen/\cur'.toList.take news.length=news:=by
 cases ad with
 |none=>exact run_app_nil hτ hT hsrc hpos hbd
 |some ad=>
  obtain ⟨⟨hu,e',he⟩,_⟩:=hτ.one _ _ _ hT
  obtain ⟨_,i,hi,h1,hz,hby⟩:=hτ.one _ _ _ he
  rw [Ty.base_zv] at hz
  rw [Ty.base_by] at hby
  have hby2:=t.by_le
  rcases hsrc with ⟨a,c,rfl,hnews⟩|⟨rfl,rfl⟩
  .have hr:=run_append_grow (P:=P) w T ty e i t.zv hu hi hz ad 0 0 [] (by simp) (fun j v hv=>by simp at hv) a news.length c news (by rw [h1];omega) hnews (by omega) (by omega) (growslice_fits (by omega) (by
    rw [hby]
    calc (0+news.length)*t.by<=(0+news.length)*24:=Nat.mul_le_mul_left _ hby2
     _<=140737488355328:=by omega))
   have hzs:t.zv.cells.size=1:=by cases t<;>rfl
   simp only [Nat.zero_add] at hr
   have hge:=grownCap_ge w news.length 0 e
   have hle:=grownCap_le_maxLen w news.length 0 e (by simp only [maxLen];omega)
   have hsz:(#[]++news.toArray++Builtin.zeroCells t.zv.cells (grownCap w news.length 0 e-news.length)).size=grownCap w news.length 0 e:=by
    simp only [Array.size_append,List.size_toArray,size_zeroCells,hzs,List.length_nil]
    omega
   refine ⟨w.drew.alloc (.cells (#[]++news.toArray++Builtin.zeroCells t.zv.cells (grownCap w news.length 0 e-news.length)) e),#[]++news.toArray++Builtin.zeroCells t.zv.cells (grownCap w news.length 0 e-news.length),?_,(Plus.alloc w.drew _).drew,by rw [hsz];exact hge,by rw [hsz];exact hle,by simp⟩
   rw [hr,hsz]
  .simp at hpos
structure Src2 (w:World) (A:Nat->Prop) (src:Value) (ys:List Tm) (news:List Value):Prop where
 src:(∃a c,src=.slice (some a) ys.length c/\∀j v,news[j]? =some v->w.cell? (a.add j)=some v)\/(src=.slice none 0 0/\ys=[])
theorem run_app2 (hτ:TyOk P τ) {T ty:TypeId} {e:Nat} (hT:τ T=.tz e) {b n:Nat} {cur:Array Value} (hc:w.heap[b]? =some (.cells cur e (0,0))) (hn:2*n<=cur.size) (hpar:cur.size % 2=0)
 {A:Nat->Prop} {src:Value} {ys:List Tm} {news:List Value} (hsrc:Src2 w A src ys news) (hnl:news.length=2*ys.length)
 (hnews:∀j (hj:j<ys.length),∃c1 c2,news[2*j]? =some c1/\news[2*j+1]? =some c2/\RdP w A ys[j] c1 c2) (hbd:n+ys.length<=1099511627776):
 ∃w' b' cur',(Builtin.append_ #[T,T] ty #[.slice (some ⟨b,0,none⟩) n (cur.size / 2),src]).run P w=.ok (.slice (some ⟨b',0,none⟩) (n+ys.length) (cur'.size / 2)) w'/\cur'.size % 2=0/\
  w'.os=w.os/\w'.tape=w.tape/\w'.output=w.output/\w.heap.size<=w'.heap.size/\b'<w'.heap.size/\(∀k,k<w.heap.size->k≠b->w'.heap[k]? =w.heap[k]?)/\w'.heap[b']? =some (.cells cur' e (0,0))/\(b'=b\/b'=w.heap.size)/\
  2*n+news.length<=cur'.size/\cur'.toList.take (2*n+news.length)=cur.toList.take (2*n)++news:=by
 obtain ⟨hu,_,i,hi,h1,hz,hby⟩:=hτ.tz _ _ hT
 have hbl:b<w.heap.size:=(Array.getElem?_eq_some_iff.1 hc).1
 have hone:∀u∈news,u.oneCell'=true:=by
  intro u hu
  obtain ⟨j,hj,hju⟩:=List.getElem_of_mem hu
  have hj2:news[j]? =some u:=by rw [<-hju];simp
  obtain ⟨c1,c2,k1,k2,k3,k4⟩:=hnews (j / 2) (by omega)
  have hm:j=2*(j / 2)\/j=2*(j / 2)+1:=by omega
  rcases hm with e1|e1
  .rw [e1,k1] at hj2;cases hj2;exact (RdI_rd k3).one
  .rw [e1,k2] at hj2;cases hj2;rw [k4];rfl
 rcases hsrc.src with ⟨a,c,rfl,hnc⟩|⟨rfl,rfl⟩
 .by_cases hroom:n+ys.length<=cur.size / 2
  .have hr:=run_append_room (P:=P) w T ty e i hu hi b n (cur.size / 2) cur hc a ys.length c news (by rw [h1];omega) hnc hone hroom (by rw [h1];omega)
   rw [h1,show n*2=2*n by omega] at hr
   have hsz:(cur.toList.take (2*n)++news++cur.toList.drop (2*n+news.length)).toArray.size=cur.size:=by simp;omega
   refine ⟨w.setRow b (cur.toList.take (2*n)++news++cur.toList.drop (2*n+news.length)).toArray,b,(cur.toList.take (2*n)++news++cur.toList.drop (2*n+news.length)).toArray,?_,?_,rfl,rfl,rfl,by simp,by simpa using hbl,fun k _ hk=>setRow_other w b k _ hk,setRow_heap w b cur _ e _ hc,.inl rfl,?_,?_⟩
   .rw [hr,hsz]
   .rw [hsz];exact hpar
   .rw [hsz];omega
   .simp [List.take_append,List.take_take,Nat.min_eq_right (Nat.le_add_right (2*n) news.length),Nat.min_eq_left hn]
  .have holds:∀j v,(cur.toList.take (2*n))[j]? =some v->w.cell? ((⟨b,0,none⟩:Addr).add j)=some v:=by
    intro j v hv
    rw [addr_add,cell_of_row w b _ cur e (0,0) hc]
    rw [List.getElem?_take] at hv
    split at hv
    .simpa using hv
    .cases hv
   have hr:=run_append_grow (P:=P) w T ty e i _ hu hi hz ⟨b,0,none⟩ n (cur.size / 2) (cur.toList.take (2*n)) (by rw [h1];simp;omega) holds a ys.length c news (by rw [h1];omega) hnc (by omega) (by omega) (growslice_fits (by omega) (by rw [hby];omega))
   have hzs:(Value.agg #[.slice none 0 0,.int .i64 0]).cells.size=2:=rfl
   have hge:=grownCap_ge w (n+ys.length) (cur.size / 2) e
   have hsz:((cur.toList.take (2*n)).toArray++news.toArray++Builtin.zeroCells (Value.agg #[.slice none 0 0,.int .i64 0]).cells (grownCap w (n+ys.length) (cur.size / 2) e-(n+ys.length))).size=2*grownCap w (n+ys.length) (cur.size / 2) e:=by
    simp only [Array.size_append,List.size_toArray,size_zeroCells,hzs,List.length_take,Array.length_toList]
    omega
   refine ⟨w.drew.alloc (.cells ((cur.toList.take (2*n)).toArray++news.toArray++Builtin.zeroCells (Value.agg #[.slice none 0 0,.int .i64 0]).cells (grownCap w (n+ys.length) (cur.size / 2) e-(n+ys.length))) e),w.heap.size,_,?_,?_,rfl,rfl,rfl,by simp,by simp,fun k hk _=>Below.heap_alloc w.drew _ k hk,heap_alloc_new w.drew _,.inr rfl,?_,?_⟩
   .rw [hr,hsz,Nat.mul_div_cancel_left _ (by decide)]
   .rw [hsz];omega
   .rw [hsz];omega
   .simp only [Array.toList_append,List.append_assoc]
    rw [<-List.append_assoc]
    apply List.take_left'
    simp;omega
 .have hn0:news=[]:=List.length_eq_zero_iff.1 (by simpa using hnl)
  subst hn0
  refine ⟨w,b,cur,?_,hpar,rfl,rfl,rfl,Nat.le_refl _,hbl,fun _ _ _=>rfl,hc,.inl rfl,by simpa using hn,by simp⟩
  have hnc:n<=cur.size / 2:=by omega
  simp [Builtin.append_,run_underlying hu,sizeOf,typeInfo,hi,Builtin.lenOf,Builtin.firstCells,hnc,storeCells]
end
end Go.Proofs.YtacjiemkbhhhoaaGreatDoor.Ow
