/- What the proof stands on, part 0: what functions of the program compute, and plain facts about it. -/
import Derived.Still
import Derived.Laws.World
import Derived.Laws.Sem
import Derived.Laws.Cells
import Derived.Laws.Tables
import Derived.Laws.Small
import Derived.WalkKit
import Derived.Laws.MakeOwn
import Derived.MapKept
import Derived.Laws.BytesString
import Derived.Lib.AppendStr
import Derived.Lib.UnsafeStr
import Derived.Lib.Builder
import Derived.Laws.Externs
set_option linter.all false
set_option maxHeartbeats 64000000
set_option maxRecDepth 100000
namespace Go.Mq
open Go
theorem _root_.Go.ifn {c:Prop} [Decidable c]{α:Sort _}{a b:α}(h:¬c:=by omega):ite c a b=b:=if_neg h
theorem _root_.Go.ifp {c:Prop} [Decidable c]{α:Sort _}{a b:α}(h:c:=by omega):ite c a b=a:=if_pos h
theorem _root_.Go.lb {a b:Nat}(h:Nat.ble a b=true:=by exact rfl):a≤b:=Nat.le_of_ble_eq_true h
structure Side (p q:Prop):Prop where
 l:p
 r:q
structure Split (b:Bool)(p q:Prop):Prop where
 t:b=true→p
 f:b=false→q
structure Hyp (p q:Prop):Prop where
 h:p→q
theorem Split.ct {p q:Prop}(h:p):Split true p q:=⟨fun _=>h,fun h=>(by cases h)⟩
theorem Split.cf {p q:Prop}(h:q):Split false p q:=⟨fun h=>(by cases h),fun _=>h⟩
theorem Split.of_true {b:Bool}{p q:Prop}(e:b=true)(h:p):Split b p q:=⟨fun _=>h,fun h=>(by rw[e]at h;cases h)⟩
theorem Split.of_false {b:Bool}{p q:Prop}(e:b=false)(h:q):Split b p q:=⟨fun h=>(by rw[e]at h;cases h),fun _=>h⟩
inductive Tree where
 | nil
 | node (kind n:Int) (name mark:ByteArray) (kids:List Tree)
instance:Inhabited Tree:=⟨.nil⟩
def Tree.isNil:Tree→Bool
 | .nil=>true
 | _=>false
def Tree.kind:Tree→Int
 | .node k _ _ _ _=>k
 | _=>0
def Tree.n:Tree→Int
 | .node _ n _ _ _=>n
 | _=>0
def Tree.name:Tree→ByteArray
 | .node _ _ s _ _=>s
 | _=>ByteArray.empty
def Tree.mark:Tree→ByteArray
 | .node _ _ _ s _=>s
 | _=>ByteArray.empty
def Tree.kids:Tree→List Tree
 | .node _ _ _ _ l=>l
 | _=>[]
def maxN:Nat:=17592186044416
abbrev Imm:=Nat→Option (Array Value×TypeId×(Nat×Nat))
def Imm.cell (I:Imm)(b o:Nat):Option Value:=(I b).bind (·.1[o]?)
def Imm.le (I I':Imm):Prop:=∀b c,I b=some c→I' b=some c
theorem Imm.le_refl (I:Imm):I.le I:=fun _ _ h=>h
theorem Imm.le_trans {I J K:Imm}(h:I.le J)(h':J.le K):I.le K:=fun b c e=>h' b c (h b c e)
theorem Imm.le_cell {I J:Imm}(h:I.le J){b o:Nat}{v:Value}(e:I.cell b o=some v):J.cell b o=some v:=by
 unfold Imm.cell at *
 cases hb:I b with
 | none=>simp[hb]at e
 | some c=>rw[h b c hb];simpa [hb] using e
inductive TrI (I:Imm):Tree→Value→Prop
 | nil:TrI I .nil (.pointer none)
 | node0 {k n:Int} {nm mk:ByteArray} {b o:Nat} (h0:I.cell b o=some (.int .i64 k)) (h1:I.cell b (o+1)=some (.int .i64 n))
   (h2:I.cell b (o+2)=some (.string nm)) (h3:I.cell b (o+3)=some (.string mk)) (h4:I.cell b (o+4)=some (.slice none 0 0)) :
   TrI I (.node k n nm mk []) (.pointer (some ⟨b,o,none⟩))
 | node1 {k n:Int} {nm mk:ByteArray} {kids:List Tree} {b o bk ok cap:Nat} {cs:Nat→Value} (h0:I.cell b o=some (.int .i64 k)) (h1:I.cell b (o+1)=some (.int .i64 n))
   (h2:I.cell b (o+2)=some (.string nm)) (h3:I.cell b (o+3)=some (.string mk)) (h4:I.cell b (o+4)=some (.slice (some ⟨bk,ok,none⟩) kids.length cap))
   (hl:kids.length≤cap) (hm:kids.length≤maxN) (hc:∀i,i < kids.length→I.cell bk (ok+i)=some (cs i)) (ht:∀i (h:i < kids.length),TrI I kids[i] (cs i)) :
   TrI I (.node k n nm mk kids) (.pointer (some ⟨b,o,none⟩))
def TrsI (I:Imm)(l:List Tree)(v:Value):Prop :=
 (l=[]∧v=.slice none 0 0) ∨
 ∃(b o cap:Nat) (cs:Nat→Value),v=.slice (some ⟨b,o,none⟩) l.length cap∧l.length≤cap∧l.length≤maxN ∧
  (∀i,i < l.length→I.cell b (o+i)=some (cs i))∧∀i (h:i < l.length),TrI I l[i] (cs i)
theorem TrI.mono {I J:Imm}(h:I.le J){t:Tree}{v:Value}(e:TrI I t v):TrI J t v:=by
 induction e with
 | nil=>exact .nil
 | node0 h0 h1 h2 h3 h4=>exact .node0 (I.le_cell h h0) (I.le_cell h h1) (I.le_cell h h2) (I.le_cell h h3) (I.le_cell h h4)
 | node1 h0 h1 h2 h3 h4 hl hm hc ht ih=>exact .node1 (I.le_cell h h0) (I.le_cell h h1) (I.le_cell h h2) (I.le_cell h h3) (I.le_cell h h4) hl hm (fun i hi=>I.le_cell h (hc i hi)) ih
theorem TrsI.mono {I J:Imm}(h:I.le J){l:List Tree}{v:Value}(e:TrsI I l v):TrsI J l v:=by
 rcases e with e|⟨b,o,cap,cs,h1,h2,h3,h4,h5⟩
 ·exact .inl e
 ·exact .inr ⟨b,o,cap,cs,h1,h2,h3,fun i hi=>I.le_cell h (h4 i hi),fun i hi=>(h5 i hi).mono h⟩
theorem TrI.open {I:Imm}{t:Tree}{b o:Nat}{sp:Option Nat}(e:TrI I t (.pointer (some ⟨b,o,sp⟩))) :
  t≠.nil∧sp=none∧I.cell b o=some (.int .i64 t.kind)∧I.cell b (o+1)=some (.int .i64 t.n)∧I.cell b (o+2)=some (.string t.name) ∧
   I.cell b (o+3)=some (.string t.mark)∧∃kv,I.cell b (o+4)=some kv∧TrsI I t.kids kv:=by
 cases e with
 | node0 h0 h1 h2 h3 h4=>exact⟨by simp,rfl,h0,h1,h2,h3,_,h4,.inl ⟨rfl,rfl⟩⟩
 | node1 h0 h1 h2 h3 h4 hl hm hc ht=>exact⟨by simp,rfl,h0,h1,h2,h3,_,h4,.inr ⟨_,_,_,_,rfl,hl,hm,hc,ht⟩⟩
theorem TrI.shut {I:Imm}{k n:Int}{nm mk:ByteArray}{kids:List Tree}{b o:Nat}{kv:Value}(h0:I.cell b o=some (.int .i64 k))(h1:I.cell b (o+1)=some (.int .i64 n))
  (h2:I.cell b (o+2)=some (.string nm)) (h3:I.cell b (o+3)=some (.string mk)) (h4:I.cell b (o+4)=some kv) (h5:TrsI I kids kv) :
  TrI I (.node k n nm mk kids) (.pointer (some ⟨b,o,none⟩)):=by
 rcases h5 with⟨rfl,rfl⟩|⟨bk,ok,cap,cs,rfl,hl,hm,hc,ht⟩
 ·exact .node0 h0 h1 h2 h3 h4
 ·exact .node1 h0 h1 h2 h3 h4 hl hm hc ht
theorem TrI.ptr {I:Imm}{t:Tree}{v:Value}(e:TrI I t v)(h:t≠.nil):∃b o,v=.pointer (some ⟨b,o,none⟩):=by
 cases e with
 | nil=>exact absurd rfl h
 | node0=>exact⟨_,_,rfl⟩
 | node1=>exact⟨_,_,rfl⟩
theorem TrI.isNil {I:Imm}{t:Tree}{a:Option Addr}(e:TrI I t (.pointer a)):a.isNone=t.isNil:=by
 cases e<;>rfl
theorem TrI.form {I:Imm}{t:Tree}{v:Value}(e:TrI I t v):∃a,v=.pointer a:=by
 cases e<;>exact⟨_,rfl⟩
inductive Data where
 | bool (b:Bool)
 | int (k:IntKind) (n:Int)
 | str (s:ByteArray)
 | tree (t:Tree)
 | tfield (t:Tree) (j:Nat)
 | trees (l:List Tree)
 | tkid (l:List Tree) (i:Nat)
 | nils
 | ptr (n:Nat) (f:Nat→Data) (off:Nat)
 | slice (n sz:Nat) (f:Nat→Nat→Data)
 | tight (n sz:Nat) (f:Nat→Nat→Data)
 | iface (t:TypeId) (x:Data)
 | agg (n:Nat) (f:Nat→Data)
 | nilI
inductive Cd (I:Imm):Data→Value→Prop
 | bool {b:Bool}:Cd I (.bool b) (.bool b)
 | int {k:IntKind} {n:Int}:Cd I (.int k n) (.int k n)
 | str {s:ByteArray}:Cd I (.str s) (.string s)
 | tree {t:Tree} {v:Value} (h:TrI I t v):Cd I (.tree t) v
 | tfield {t:Tree} {j b o:Nat} (h:TrI I t (.pointer (some ⟨b,o,none⟩))):Cd I (.tfield t j) (.pointer (some ⟨b,o+j,none⟩))
 | trees {l:List Tree} {v:Value} (h:TrsI I l v):Cd I (.trees l) v
 | tkid {l:List Tree} {i b o n cap:Nat} (h:TrsI I l (.slice (some ⟨b,o,none⟩) n cap)) (hi:i < l.length):Cd I (.tkid l i) (.pointer (some ⟨b,o+i,none⟩))
 | nils:Cd I .nils (.slice none 0 0)
 | ptr {n off b o:Nat} {f:Nat→Data} {cs:Nat→Value} (hc:∀i,i < n→I.cell b (o+i)=some (cs i)) (ht:∀i,i < n→Cd I (f i) (cs i)) :
   Cd I (.ptr n f off) (.pointer (some ⟨b,o+off,none⟩))
 | slice {n sz b o cap:Nat} {f:Nat→Nat→Data} {cs:Nat→Nat→Value} (hl:n≤cap) (hm:n≤maxN) (hc:∀i j,i < n→j < sz→I.cell b (o+i*sz+j)=some (cs i j))
   (ht:∀i j,i < n→j < sz→Cd I (f i j) (cs i j)):Cd I (.slice n sz f) (.slice (some ⟨b,o,none⟩) n cap)
 | slice0 {sz:Nat} {f:Nat→Nat→Data}:Cd I (.slice 0 sz f) (.slice none 0 0)
 | sliceE {sz:Nat} {f:Nat→Nat→Data} {a:Addr}:Cd I (.slice 0 sz f) (.slice (some a) 0 0)
 | tight {n sz b o:Nat} {f:Nat→Nat→Data} {cs:Nat→Nat→Value} (hm:n≤maxN) (hc:∀i j,i < n→j < sz→I.cell b (o+i*sz+j)=some (cs i j))
   (ht:∀i j,i < n→j < sz→Cd I (f i j) (cs i j)):Cd I (.tight n sz f) (.slice (some ⟨b,o,none⟩) n n)
 | tight0 {sz:Nat} {f:Nat→Nat→Data}:Cd I (.tight 0 sz f) (.slice none 0 0)
 | tightE {sz:Nat} {f:Nat→Nat→Data} {a:Addr}:Cd I (.tight 0 sz f) (.slice (some a) 0 0)
 | iface {t:TypeId} {x:Data} {v:Value} (h:Cd I x v):Cd I (.iface t x) (.iface t v)
 | agg {n:Nat} {f:Nat→Data} {cs:Array Value} (hl:cs.size=n) (h:∀i,i < n→Cd I (f i) (cs.getD i undef)):Cd I (.agg n f) (.agg cs)
 | nilI:Cd I .nilI .nilIface
theorem Cd.mono {I J:Imm}(h:I.le J){x:Data}{v:Value}(e:Cd I x v):Cd J x v:=by
 induction e with
 | bool=>exact .bool
 | int=>exact .int
 | str=>exact .str
 | tree ht=>exact .tree (ht.mono h)
 | tfield ht=>exact .tfield (ht.mono h)
 | trees ht=>exact .trees (ht.mono h)
 | tkid ht hi=>exact .tkid (ht.mono h) hi
 | nils=>exact .nils
 | ptr hc ht ih=>exact .ptr (fun i hi=>I.le_cell h (hc i hi)) ih
 | slice hl hm hc ht ih=>exact .slice hl hm (fun i j hi hj=>I.le_cell h (hc i j hi hj)) ih
 | slice0=>exact .slice0
 | sliceE=>exact .sliceE
 | tight hm hc ht ih=>exact .tight hm (fun i j hi hj=>I.le_cell h (hc i j hi hj)) ih
 | tight0=>exact .tight0
 | tightE=>exact .tightE
 | iface _ ih=>exact .iface ih
 | agg hl _ ih=>exact .agg hl ih
 | nilI=>exact .nilI
inductive AVal where
 | d (x:Data)
 | und
 | any
 | ref (id off:Nat)
 | row (id n:Nat)
 | mp (id:Nat)
 | fn (f:FuncId) (caps:List AVal)
 | agg (l:List AVal)
 | tuple (l:List AVal)
 | val (v:Value)
 | iface (t:TypeId) (x:AVal)
instance:Inhabited AVal:=⟨.any⟩
structure RB where
 blk:Nat
 cap:Nat
 isnil:Bool
inductive CA (I:Imm)(ρ:Nat→RB)(D:Nat→Prop):AVal→Value→Prop
 | d {x:Data} {v:Value} (h:Cd I x v):CA I ρ D (.d x) v
 | und:CA I ρ D .und undef
 | any {v:Value}:CA I ρ D .any v
 | ref {id off:Nat} (h:D id):CA I ρ D (.ref id off) (.pointer (some ⟨(ρ id).blk,off,none⟩))
 | row {id n:Nat} (h:D id) (hn:(ρ id).isnil=false) (hc:n≤(ρ id).cap) (hm:n≤maxN):CA I ρ D (.row id n) (.slice (some ⟨(ρ id).blk,0,none⟩) n (ρ id).cap)
 | row0 {id:Nat} (h:D id) (hn:(ρ id).isnil=true):CA I ρ D (.row id 0) (.slice none 0 0)
 | mp {id:Nat} (h:D id):CA I ρ D (.mp id) (.map (some (ρ id).blk))
 | fn {f:FuncId} {l:List AVal} {cs:Array Value} (hl:cs.size=l.length) (h:∀i (hi:i < l.length),CA I ρ D l[i] (cs.getD i undef)):CA I ρ D (.fn f l) (.func (.func f) #[] cs)
 | agg {l:List AVal} {cs:Array Value} (hl:cs.size=l.length) (h:∀i (hi:i < l.length),CA I ρ D l[i] (cs.getD i undef)):CA I ρ D (.agg l) (.agg cs)
 | tuple {l:List AVal} {cs:Array Value} (hl:cs.size=l.length) (h:∀i (hi:i < l.length),CA I ρ D l[i] (cs.getD i undef)):CA I ρ D (.tuple l) (.tuple cs)
 | val {v:Value}:CA I ρ D (.val v) v
 | iface {t:TypeId} {x:AVal} {v:Value} (h:CA I ρ D x v):CA I ρ D (.iface t x) (.iface t v)
theorem CA.mono {I J:Imm}(h:I.le J){ρ ρ':Nat→RB}{D D':Nat→Prop}(hn:∀id,D id→D' id)(hρ:∀id,D id→ρ' id=ρ id){x:AVal}{v:Value}(e:CA I ρ D x v):CA J ρ' D' x v:=by
 induction e with
 | d hd=>exact .d (hd.mono h)
 | und=>exact .und
 | any=>exact .any
 | ref hi=>rw[←hρ _ hi];exact .ref (hn _ hi)
 | row hi h1 h2 h3=>rw[←hρ _ hi];exact .row (hn _ hi) (by rw[hρ _ hi];exact h1) (by rw[hρ _ hi];exact h2) h3
 | row0 hi h1=>exact .row0 (hn _ hi) (by rw[hρ _ hi];exact h1)
 | mp hi=>rw[←hρ _ hi];exact .mp (hn _ hi)
 | fn hl _ ih=>exact .fn hl ih
 | agg hl _ ih=>exact .agg hl ih
 | tuple hl _ ih=>exact .tuple hl ih
 | val=>exact .val
 | iface _ ih=>exact .iface ih
inductive RowC where
 | trees (l:List Tree)
 | strs (l:List ByteArray)
 | ints (k:IntKind) (l:List Int)
 | bools (l:List Bool)
 | gen (n sz:Nat) (f:Nat→AVal)
def RowC.len:RowC→Nat
 | .trees l=>l.length
 | .strs l=>l.length
 | .ints _ l=>l.length
 | .bools l=>l.length
 | .gen n _ _=>n
def RowC.sz:RowC→Nat
 | .gen _ sz _=>sz
 | _=>1
def RowC.cell:RowC→Nat→AVal
 | .trees l,i=>.d (.tree (l.getD i .nil))
 | .strs l,i=>.d (.str (l.getD i ByteArray.empty))
 | .ints k l,i=>.d (.int k (l.getD i 0))
 | .bools l,i=>.d (.bool (l.getD i false))
 | .gen _ _ f,i=>f i
def memB (s:ByteArray)(l:List ByteArray):Bool:=l.any fun x=>decide (x=s)
theorem memB_iff {s:ByteArray}{l:List ByteArray}:memB s l=true↔s∈l:=by
 unfold memB
 rw[List.any_eq_true]
 constructor
 ·rintro⟨x,h1,h2⟩;have:=of_decide_eq_true h2;subst this;exact h1
 ·intro h;exact⟨s,h,by simp⟩
def uniqB:List ByteArray→List ByteArray
 | []=>[]
 | s::l=>if memB s l=true then uniqB l else uniqB l++[s]
theorem uniqB_mem {x:ByteArray}:∀{l:List ByteArray},x∈uniqB l↔x∈l
 | []=>by simp[uniqB]
 | s::l=>by
  rw[uniqB]
  split
  ·rename_i h
   have h:=memB_iff.1 h
   rw[uniqB_mem,List.mem_cons]
   constructor
   ·exact .inr
   ·rintro (rfl|h')
    ·exact h
    ·exact h'
  ·rw[List.mem_append,uniqB_mem,List.mem_singleton,List.mem_cons]
   exact Or.comm
def entsB:Nat→List ByteArray→List MapEntry
 | _,[]=>[]
 | k,s::l=>⟨.string s,.bool true,k⟩::entsB (k+1) l
theorem entsB_app:∀(a:List ByteArray) (k:Nat) (s:ByteArray),entsB k (a++[s])=entsB k a++[⟨.string s,.bool true,k+a.length⟩]
 | [],k,s=>rfl
 | x::a,k,s=>by
  simp only[List.cons_append,entsB,entsB_app a (k+1) s,List.length_cons]
  rw[show k+1+a.length=k+(a.length+1) by omega]
theorem entsB_mem:∀{l:List ByteArray} {k:Nat} {e:MapEntry},e∈entsB k l→∃s,e.key=.string s∧e.val=.bool true∧s∈l∧k≤e.born∧e.born < k+l.length
 | [],_,_,h=>by cases h
 | s::l,k,e,h=>by
  rw[entsB,List.mem_cons]at h
  rcases h with rfl|h
  ·exact⟨s,rfl,rfl,by simp,Nat.le_refl _,by simp⟩
  ·obtain⟨s',h1,h2,h3,h4,h5⟩:=entsB_mem h
   exact⟨s',h1,h2,by simp[h3],by omega,by simp only[List.length_cons];omega⟩
theorem entsB_of:∀{l:List ByteArray} {k:Nat} {s:ByteArray},s∈l→∃e∈entsB k l,e.key=.string s
 | [],_,_,h=>by cases h
 | x::l,k,s,h=>by
  rw[entsB]
  rcases List.mem_cons.1 h with rfl|h
  ·exact⟨_,List.mem_cons_self,rfl⟩
  ·obtain⟨e,h1,h2⟩:=entsB_of (k:=k+1) h
   exact⟨e,by simp[h1],h2⟩
theorem entsB_len:∀(l:List ByteArray) (k:Nat),(entsB k l).length=l.length
 | [],_=>rfl
 | _::l,k=>by simp[entsB,entsB_len l]
def setA (l:List ByteArray):Array MapEntry:=(entsB 0 (uniqB l)).toArray
inductive AObj where
 | cellsT (ty:Option TypeId) (vs:List AVal)
 | row (e:TypeId) (r:RowC)
 | set (l:List ByteArray)
 | setp (l:List ByteArray) (s:ByteArray)
@[match_pattern,reducible] def AObj.cells (vs:List AVal):AObj:=.cellsT none vs
def ORel (I:Imm)(ρ:Nat→RB)(D:Nat→Prop)(h:Nat→Option Obj)(id:Nat):AObj→Prop
 | .cellsT ty vs=>(ρ id).isnil=false∧∃cs T,h (ρ id).blk=some (.cells cs (ty.getD T) (0,0))∧cs.size=vs.length∧∀i (hi:i < vs.length),CA I ρ D vs[i] (cs.getD i undef)
 | .row el r=>((ρ id).isnil=true∧r.len=0) ∨
   ((ρ id).isnil=false∧r.len≤(ρ id).cap∧(r.len≤maxN∧(ρ id).cap≤9223372036854775807)∧∃cs,h (ρ id).blk=some (.cells cs el (0,0))∧cs.size=(ρ id).cap*r.sz∧∀i,i < r.len*r.sz→CA I ρ D (r.cell i) (cs.getD i undef))
 | .set l=>(ρ id).isnil=false∧h (ρ id).blk=some (.map (setA l) (uniqB l).length)
 | .setp l s=>(ρ id).isnil=false∧memB s l=false∧h (ρ id).blk=some (.map ((setA l).push ⟨.string s,.bool false,(uniqB l).length⟩) ((uniqB l).length+1))
theorem ORel.mono {I J:Imm}(hI:I.le J){ρ ρ':Nat→RB}{D D':Nat→Prop}(hn:∀id,D id→D' id)(hρ:∀id,D id→ρ' id=ρ id){h h':Nat→Option Obj}{id:Nat}(hid:D id)
  (hh:(ρ id).isnil=false→h' (ρ id).blk=h (ρ id).blk) {o:AObj} (e:ORel I ρ D h id o):ORel J ρ' D' h' id o:=by
 cases o with
 | cellsT ty vs =>
  obtain⟨h1,cs,T,h2,h3,h4⟩:=e
  exact⟨by rw[hρ _ hid];exact h1,cs,T,by rw[hρ _ hid,hh h1];exact h2,h3,fun i hi=>(h4 i hi).mono hI hn hρ⟩
 | row el r =>
  rcases e with⟨h1,h2⟩|⟨h1,h2,h3,cs,h4,h5,h6⟩
  ·exact .inl ⟨by rw[hρ _ hid];exact h1,h2⟩
  ·exact .inr ⟨by rw[hρ _ hid];exact h1,by rw[hρ _ hid];exact h2,⟨h3.1,by rw[hρ _ hid];exact h3.2⟩,cs,by rw[hρ _ hid,hh h1];exact h4,by rw[hρ _ hid];exact h5,fun i hi=>(h6 i hi).mono hI hn hρ⟩
 | set l =>
  obtain⟨h1,h2⟩:=e
  exact⟨by rw[hρ _ hid];exact h1,by rw[hρ _ hid,hh h1];exact h2⟩
 | setp l s =>
  obtain⟨h1,h3,h2⟩:=e
  exact⟨by rw[hρ _ hid];exact h1,h3,by rw[hρ _ hid,hh h1];exact h2⟩
structure Ghost where
 P:Imm→(Nat→Option Obj)→Prop
 mono:∀I J h,I.le J→P I h→P J h
inductive Own where
 | free|imm|obj (id:Nat)|gst
abbrev Objs:=Nat→Option AObj
def Objs.upd (G:Objs)(id:Nat)(o:AObj):Objs:=fun i=>if i=id then some o else G i
structure Env0 where
 os:Os
 output:Array (Nat×ByteArray)
 tape:Nat→Question→Nat
def World.env (w:World):Env0:=⟨w.os,w.output,w.tape⟩
structure Env where
 base:Env0
 nb:Nat
 ρb:Nat→RB
def gheap (own:Nat→Own)(w:World):Nat→Option Obj:=fun b=>match own b with
 | .gst=>w.heap[b]?
 | _=>none
structure RelO (E:Env)(I:Imm)(ρ:Nat→RB)(D:Nat→Prop)(G:Objs)(g:Ghost)(w:World)(own:Nat→Own):Prop where
 env:World.env w=E.base
 lt:∀b,own b≠.free→b < w.heap.size
 imm:∀b c,I b=some c→own b=.imm∧w.heap[b]?=some (.cells c.1 c.2.1 c.2.2)
 key:∀id o,G id=some o→D id
 obj:∀id o,G id=some o→ORel I ρ D (fun b=>w.heap[b]?) id o
 ownd:∀id o,G id=some o→(ρ id).isnil=false→own (ρ id).blk=.obj id
 gst:g.P I (gheap own w)
def Rel (E:Env)(I:Imm)(ρ:Nat→RB)(D:Nat→Prop)(G:Objs)(g:Ghost)(w:World):Prop:=∃own,RelO E I ρ D G g w own
section
variable {E : Env} {I : Imm} {ρ : Nat → RB} {D : Nat → Prop} {G : Objs} {g : Ghost} {w w' : World}
theorem Imm.cell_world (h:Rel E I ρ D G g w){b o:Nat}{v:Value}(e:I.cell b o=some v):w.cell? ⟨b,o,none⟩=some v:=by
 obtain⟨own,h⟩:=h
 unfold Imm.cell at e
 cases hb:I b with
 | none=>simp[hb]at e
 | some c =>
  obtain⟨_,hw⟩:=h.imm b c hb
  simp only[World.cell?,hw]
  simpa [hb] using e
theorem Rel.drew (h:Rel E I ρ D G g w):Rel E I ρ D G g w.drew:=by
 obtain⟨own,h⟩:=h
 exact⟨own,⟨h.env,h.lt,h.imm,h.key,h.obj,h.ownd,h.gst⟩⟩
theorem Rel.drawn (h:Rel E I ρ D G g w)(n:Nat):Rel E I ρ D G g { w with drawn:=n }:=by
 obtain⟨own,h⟩:=h
 exact⟨own,⟨h.env,h.lt,h.imm,h.key,h.obj,h.ownd,h.gst⟩⟩
def upd (ρ:Nat→RB)(id:Nat)(r:RB):Nat→RB:=fun i=>if i=id then r else ρ i
theorem upd_ne {id:Nat}(hd:¬D id){r:RB}:∀i,D i→upd ρ id r i=ρ i:=fun i h=>by unfold upd;rw[if_neg (by intro e;subst e;exact hd h)]
theorem upd_same {id:Nat}{r:RB}:upd ρ id r id=r:=by unfold upd;rw[if_pos rfl]
def dom (D:Nat→Prop)(id:Nat):Nat→Prop:=fun i=>i=id∨D i
theorem heap_alloc_lt {o:Obj}{b:Nat}(h:b < w.heap.size):(w.alloc o).heap[b]?=w.heap[b]?:=by
 show (w.heap.push o)[b]?=_
 rw[Array.getElem?_push,ifn]
theorem heap_alloc_new {o:Obj}:(w.alloc o).heap[w.heap.size]?=some o:=by
 show (w.heap.push o)[w.heap.size]?=_
 rw[Array.getElem?_push,if_pos rfl]
theorem Rel.alloc (h:Rel E I ρ D G g w){id:Nat}(hd:¬D id){ob:Obj}{o:AObj}{cap:Nat}
  (ho:∀r,r=RB.mk w.heap.size cap false→ORel I (upd ρ id r) (dom D id) (fun b=>(w.alloc ob).heap[b]?) id o) :
  Rel E I (upd ρ id ⟨w.heap.size,cap,false⟩) (dom D id) (G.upd id o) g (w.alloc ob):=by
 obtain⟨own,h⟩:=h
 refine⟨fun b=>if b=w.heap.size then .obj id else own b,⟨h.env,?_,?_,?_,?_,?_,?_⟩⟩
 ·intro b hb
  rw[World.size_alloc]
  by_cases e:b=w.heap.size
  ·omega
  ·rw[if_neg e]at hb;have:=h.lt b hb;omega
 ·intro b c hb
  obtain⟨h1,h2⟩:=h.imm b c hb
  have hlt:=h.lt b (by rw[h1];intro e;cases e)
  refine⟨by rw[ifn];exact h1,by rw[heap_alloc_lt hlt];exact h2⟩
 ·intro i o' e
  simp only[Objs.upd]at e
  split at e
  ·exact .inl ‹_›
  ·exact .inr (h.key i o' e)
 ·intro i o' e
  simp only[Objs.upd]at e
  split at e
  ·rename_i e2;subst e2;cases e;exact ho _ rfl
  ·have hk:=h.key i o' e
   refine ORel.mono (Imm.le_refl I) (fun _=>.inr) (upd_ne hd) hk ?_ (h.obj i o' e)
   intro hn
   have:=h.lt (ρ i).blk (by rw[h.ownd i o' e hn];intro e;cases e)
   exact heap_alloc_lt this
 ·intro i o' e hn
  simp only[Objs.upd]at e
  split at e
  ·rename_i e2;subst e2;rw[upd_same];simp
  ·have hk:=h.key i o' e
   rw[upd_ne hd i hk]at hn ⊢
   have h1:=h.ownd i o' e hn
   have:=h.lt (ρ i).blk (by rw[h1];intro e;cases e)
   rw[ifn];exact h1
 ·have hg:=h.gst
  have:gheap (fun b=>if b=w.heap.size then .obj id else own b) (w.alloc ob)=gheap own w:=by
   funext b
   unfold gheap
   by_cases e:b=w.heap.size
   ·simp only[e,if_true]
    cases ho:own w.heap.size with
    | gst=>have:=h.lt w.heap.size (by rw[ho];intro e;cases e);omega
    | _=>rfl
   ·simp only[e,if_false]
    cases ho:own b with
    | gst=>have:=h.lt b (by rw[ho];intro e;cases e);exact heap_alloc_lt this
    | _=>rfl
  rw[this];exact hg
theorem Rel.write (h:Rel E I ρ D G g w){id:Nat}{o o':AObj}(hg:G id=some o)(hn:(ρ id).isnil=false)
  (henv:World.env w'=World.env w) (hs:w.heap.size≤w'.heap.size) (hb:∀b,b < w.heap.size→b≠(ρ id).blk→w'.heap[b]?=w.heap[b]?)
  (ho:ORel I ρ D (fun b=>w'.heap[b]?) id o'):Rel E I ρ D (G.upd id o') g w':=by
 obtain⟨own,h⟩:=h
 have hown:=h.ownd id o hg hn
 refine⟨own,⟨henv.trans h.env,?_,?_,?_,?_,?_,?_⟩⟩
 ·intro b hb;have:=h.lt b hb;omega
 ·intro b c hc
  obtain⟨h1,h2⟩:=h.imm b c hc
  have hlt:=h.lt b (by rw[h1];intro e;cases e)
  refine⟨h1,?_⟩
  rw[hb b hlt (by intro e;rw[e,hown]at h1;cases h1)];exact h2
 ·intro i x e
  simp only[Objs.upd]at e
  split at e
  ·rename_i e2;subst e2;exact h.key i o hg
  ·exact h.key i x e
 ·intro i x e
  simp only[Objs.upd]at e
  split at e
  ·rename_i e2;subst e2;cases e;exact ho
  ·rename_i e2
   refine ORel.mono (Imm.le_refl I) (fun _ h=>h) (fun _ _=>rfl) (h.key i x e) ?_ (h.obj i x e)
   intro hni
   have h1:=h.ownd i x e hni
   have hlt:=h.lt (ρ i).blk (by rw[h1];intro e;cases e)
   exact hb _ hlt (by intro e3;rw[e3,hown]at h1;cases h1;exact e2 rfl)
 ·intro i x e hni
  simp only[Objs.upd]at e
  split at e
  ·rename_i e2;subst e2;exact hown
  ·exact h.ownd i x e hni
 ·have:gheap own w'=gheap own w:=by
   funext b
   unfold gheap
   cases hob:own b with
   | gst=>have:=h.lt b (by rw[hob];intro e;cases e);exact hb b this (by intro e;rw[e,hown]at hob;cases hob)
   | _=>rfl
  rw[this];exact h.gst
end
end Go.Mq
namespace Go.Mq
open Go
structure FS where
 n:Nat
 T:Nat→AVal
 G:Objs
 D:Nat→Prop
 g:Ghost
def ofV:Value→AVal
 | .bool b=>.d (.bool b)
 | .int k n=>.d (.int k n)
 | .string s=>.d (.str s)
 | .pointer none=>.d (.tree .nil)
 | .slice none 0 0=>.d .nils
 | .nilIface=>.d .nilI
 | v=>.val v
theorem ofV_ok {I:Imm}{ρ:Nat→RB}{D:Nat→Prop}(v:Value):CA I ρ D (ofV v) v:=by
 unfold ofV
 split
 ·exact .d .bool
 ·exact .d .int
 ·exact .d .str
 ·exact .d (.tree .nil)
 ·exact .d .nils
 ·exact .d .nilI
 ·exact .val
def evT (T:Nat→AVal):Operand→AVal
 | .tmp t=>T t
 | .const v=>ofV v
 | .global g=>.val (.pointer (some ⟨g,0,none⟩))
 | .func f=>.fn f []
structure RelT (E:Env)(I:Imm)(ρ:Nat→RB)(X:FS)(a:Act)(w:World):Prop where
 rel:Rel E I ρ X.D X.G X.g w
 defs:a.defers=[]
 size:a.tmps.size=X.n
 slot:∀t,CA I ρ X.D (X.T t) (a.tmps.getD t undef)
 dom:∀id,id < E.nb→X.D id
 bas:∀id,id < E.nb→ρ id=E.ρb id
theorem RelT.ev {E:Env}{I:Imm}{ρ:Nat→RB}{X:FS}{a:Act}{w:World}(h:RelT E I ρ X a w)(x:Operand):CA I ρ X.D (evT X.T x) (a.eval x):=by
 cases x with
 | tmp t=>exact h.slot t
 | const v=>exact ofV_ok v
 | global g=>exact .val
 | func f=>exact .fn (cs:=#[]) rfl (fun i hi=>by simp at hi)
structure Eff where
 v:AVal
 u:List (Nat×Option AObj)
 nw:List Nat
 g:Option Ghost
def putT (T:Nat→AVal)(dst:Option Tmp)(v:AVal):Nat→AVal:=match dst with
 | some d=>fun t=>if t=d then v else T t
 | none=>T
def putG (G:Objs):List (Nat×Option AObj)→Objs
 | []=>G
 | (id,o)::r=>putG (fun i=>if i=id then o else G i) r
def FS.app (X:FS)(dst:Option Tmp)(e:Eff):FS:={ n:=X.n,T:=putT X.T dst e.v,G:=putG X.G e.u,D:=fun i=>i∈e.nw∨X.D i,g:=e.g.getD X.g }
def dstOk (dst:Option Tmp)(n:Nat):Prop:=∀d,dst=some d→d < n
theorem slot_put {I:Imm}{ρ:Nat→RB}{D:Nat→Prop}{T:Nat→AVal}{a:Act}{n:Nat}{dst:Option Tmp}{v:AVal}{u:Value}(hn:a.tmps.size=n)(hd:dstOk dst n)
  (hs:∀t,CA I ρ D (T t) (a.tmps.getD t undef)) (hv:CA I ρ D v u):∀t,CA I ρ D (putT T dst v t) ((a.put dst u).tmps.getD t undef):=by
 intro t
 cases dst with
 | none=>exact hs t
 | some d =>
  have hd:=hd d rfl
  simp only[putT,Act.put]
  by_cases e:t=d
  ·subst e
   rw[if_pos rfl]
   have:(a.tmps.setIfInBounds t u).getD t undef=u:=by simp[Array.getD,hn,hd]
   rw[this];exact hv
  ·rw[if_neg e]
   have:(a.tmps.setIfInBounds d u).getD t undef=a.tmps.getD t undef:=by
    simp[Ne.symm e]
   rw[this];exact hs t
def OpE (P:Program)(E:Env)(o:Oper)(X:FS)(e:Eff):Prop :=
 ∀I ρ a w,RelT E I ρ X a w→(∀id∈e.nw,¬X.D id)→o.wp P a w (fun a' w'=>∃I' ρ',I.le I'∧RelT E I' ρ' (X.app o.dst e) a' w') (fun _ _ _=>False)
theorem OpE.value {P:Program}{E:Env}{o:Oper}{X:FS}{e:Eff}(hd:dstOk o.dst X.n)
  (h:∀I ρ a w,RelT E I ρ X a w→(∀id∈e.nw,¬X.D id)→∃r w',((execOp a.eval o).run P w=.ok (.value r) w'∨((execOp a.eval o).run P w=.ok .skip w'∧r=undef))∧∃I' ρ',I.le I'∧(∀id,X.D id→ρ' id=ρ id) ∧
   Rel E I' ρ' (fun i=>i∈e.nw∨X.D i) (putG X.G e.u) (e.g.getD X.g) w'∧CA I' ρ' (fun i=>i∈e.nw∨X.D i) e.v r):OpE P E o X e:=by
 intro I ρ a w hr hn
 obtain⟨r,w',hrun,I',ρ',hI,hρ,hrel,hv⟩:=h I ρ a w hr hn
 have hres:RelT E I' ρ' (X.app o.dst e) (a.put o.dst r) w':=by
  refine⟨hrel,?_,?_,slot_put (by exact hr.size) hd (fun t=>(hr.slot t).mono hI (fun _=>.inr) hρ) hv,fun id h=>.inr (hr.dom id h),fun id h=>(hρ id (hr.dom id h)).trans (hr.bas id h)⟩
  ·cases hdst:o.dst<;>simp[Act.put,hr.defs]
  ·have:=hr.size
   cases hdst:o.dst<;>simp[Act.put,FS.app,this]
 unfold Oper.wp
 rcases hrun with hrun|⟨hrun,rfl⟩
 ·rw[hrun];exact⟨I',ρ',hI,hres⟩
 ·rw[hrun];exact⟨I',ρ',hI,hres⟩
theorem OpE.pure {P:Program}{E:Env}{o:Oper}{X:FS}{v:AVal}(hd:dstOk o.dst X.n)
  (h:∀I ρ a w,RelT E I ρ X a w→∃r,(execOp a.eval o).run P w=.ok (.value r) w∧CA I ρ X.D v r):OpE P E o X ⟨v,[],[],none⟩:=by
 refine OpE.value hd fun I ρ a w hr _=>?_
 obtain⟨r,h1,h2⟩:=h I ρ a w hr
 exact⟨r,w,.inl h1,I,ρ,Imm.le_refl I,fun _ _=>rfl,by simpa [putG] using hr.rel,by simpa using h2⟩
structure TI where
 desc:TypeDesc
 size:Nat
 bytes:Nat
 zero:Value
 offs:List (Nat×Nat)
 agg:Bool
 esz:Nat
 ebytes:Nat
 typed:Bool
def ttl:List (Nat×TI)→Nat→Option TI
 | [],_=>none
 | (k,i)::r,t=>bif Nat.beq k t then some i else ttl r t
structure TIok (P:Program)(t:Nat)(i:TI):Prop where
 und:P.underlying t=some i.desc
 info:∃f:TypeInfo,P.info? t=some f∧f.size=i.size∧f.bytes=i.bytes∧f.zero=some i.zero
 agg:(match i.desc with | .struct _ | .array _ _=>true|_=>false)=i.agg
 offm:∀fs:Array Field,i.desc=.struct fs→fs.toList.mapM (fun f=>(P.info? f.type).map fun i=>(f.offset,i.size))=some i.offs
 offp:i.offs.all (fun p=>p.2 != 0)=true
 offn:(match i.desc with | .struct _=>true|_=>i.offs.isEmpty)=true
 elem:∀e,i.desc=.slice e→∃f:TypeInfo,P.info? e=some f∧f.size=i.esz∧f.bytes=i.ebytes∧∃z,f.zero=some z∧z.cells.size=i.esz
 arr:∀n e,i.desc=.array n e→∃f:TypeInfo,P.info? e=some f∧f.size=i.esz
theorem mapM_some {α β:Type}{f:α→Option β}:∀{l:List α} {r:List β},l.mapM f=some r→∀(j:Nat) (y:β),r[j]?=some y→∃x,l[j]?=some x∧f x=some y
 | [],r,h,j,y,hy=>by simp at h;subst h;simp at hy
 | a::l,r,h,j,y,hy=>by
  simp only[List.mapM_cons,Option.bind_eq_bind,Option.pure_def]at h
  cases hf:f a with
  | none=>simp[hf]at h
  | some b =>
   cases hm:l.mapM f with
   | none=>simp[hf,hm]at h
   | some r' =>
    simp[hf,hm]at h
    subst h
    cases j with
    | zero=>simp at hy;subst hy;exact⟨a,by simp,hf⟩
    | succ j=>simp at hy;obtain⟨x,h1,h2⟩:=mapM_some hm j y hy;exact⟨x,by simpa using h1,h2⟩
theorem TIok.field {P:Program}{t:Nat}{i:TI}(h:TIok P t i){j o s:Nat}(e:i.offs[j]?=some (o,s)) :
  ∃(fs:Array Field) (f:Field),i.desc=.struct fs∧fs[j]?=some f∧f.offset=o∧s≠0∧∃fi:TypeInfo,P.info? f.type=some fi∧fi.size=s:=by
 have hn:=h.offn
 cases hd:i.desc with
 | struct fs =>
  obtain⟨f,h1,h2⟩:=mapM_some (h.offm fs hd) j _ e
  refine⟨fs,f,rfl,by simpa using h1,?_⟩
  cases hi:P.info? f.type with
  | none=>simp[hi]at h2
  | some fi =>
   simp[hi]at h2
   have hp:=h.offp
   rw[List.all_eq_true]at hp
   have:=hp (o,s) (List.mem_of_getElem? e)
   refine⟨h2.1,by simpa using this,fi,rfl,h2.2⟩
 | _=>rw[hd]at hn;simp at hn;rw[hn]at e;simp at e
def TTok (P:Program)(tt:List (Nat×TI)):Prop:=∀t i,ttl tt t=some i→TIok P t i
theorem TTok.nil {P:Program}:TTok P []:=fun t i h=>by simp[ttl]at h
theorem TTok.cons {P:Program}{t:Nat}{i:TI}{r:List (Nat×TI)}(h:TIok P t i)(hr:TTok P r):TTok P ((t,i)::r):=by
 intro t' i' h'
 simp only[ttl]at h'
 cases hb:Nat.beq t t' with
 | true=>rw[hb]at h';simp at h';have:=Nat.eq_of_beq_eq_true hb;subst this;subst h';exact h
 | false=>rw[hb]at h';exact hr t' i' h'
section runs
variable {P : Program} {w : World} {t : Nat} {i : TI}
theorem TIok.run_und (h:TIok P t i):(underlying t).run P w=.ok i.desc w:=by simp[underlying,h.und]
theorem TIok.run_size (h:TIok P t i):(sizeOf t).run P w=.ok i.size w:=by
 obtain⟨f,h1,h2,_⟩:=h.info
 simp[sizeOf,typeInfo,h1,h2]
theorem TIok.run_zero (h:TIok P t i):(zeroValue t).run P w=.ok i.zero w:=by
 obtain⟨f,h1,_,_,h2⟩:=h.info
 simp[zeroValue,typeInfo,h1,h2]
theorem TIok.run_agg (h:TIok P t i):(isAgg t).run P w=.ok i.agg w:=by
 have ha:=h.agg
 simp only[isAgg,Sem.run_bind,h.run_und,Result.andThen_ok]
 cases hd:i.desc<;>simp[hd]at ha<;>simp[←ha]
end runs
def bt (s:ByteArray)(i:Int):Int:=((s[i.toNat]?).getD 0).toNat
def cmpK (op:BinOp)(x y:Int):Option Bool :=
 match op with
 | .eql=>some (x == y)
 | .neq=>some (x != y)
 | .lss=>some (x < y)
 | .leq=>some (x≤y)
 | .gtr=>some (x > y)
 | .geq=>some (x ≥ y)
 | _=>none
def binK (tt:List (Nat×TI))(op:BinOp)(t:TypeId)(x y:AVal)(K:AVal→Prop):Prop :=
 match x,y with
 | .d (.int k a),.d (.int k' b) =>
  Side (k=k') <| match op with
   | .add=>K (.d (.int k (k.wrap (a+b))))
   | .sub=>K (.d (.int k (k.wrap (a - b))))
   | .mul=>K (.d (.int k (k.wrap (a*b))))
   | .quo=>Side (b≠0) <| K (.d (.int k (k.wrap (a.tdiv b))))
   | .rem=>Side (b≠0) <| K (.d (.int k (a.tmod b)))
   | .eql=>K (.d (.bool (a == b)))
   | .neq=>K (.d (.bool (a != b)))
   | .lss=>K (.d (.bool (decide (a < b))))
   | .leq=>K (.d (.bool (decide (a≤b))))
   | .gtr=>K (.d (.bool (decide (a > b))))
   | .geq=>K (.d (.bool (decide (a ≥ b))))
   | _=>False
 | .d (.str a),.d (.str b) =>
  match op with
  | .add=>Side (a.size+b.size≤9223372036854775807) <| K (.d (.str (a++b)))
  | .eql=>K (.d (.bool (a.toList == b.toList)))
  | .neq=>K (.d (.bool (!(a.toList == b.toList))))
  | .lss=>K (.d (.bool (Op.bytesLess a.toList b.toList)))
  | .leq=>K (.d (.bool (Op.bytesLess a.toList b.toList || a.toList == b.toList)))
  | .gtr=>K (.d (.bool (!(Op.bytesLess a.toList b.toList || a.toList == b.toList))))
  | .geq=>K (.d (.bool (!Op.bytesLess a.toList b.toList)))
  | _=>False
 | .d (.bool a),.d (.bool b) =>
  match ttl tt t with
  | some i=>Side (i.desc=.bool) <| match op with
   | .eql=>K (.d (.bool (a == b)))
   | .neq=>K (.d (.bool (!(a == b))))
   | _=>False
  | none=>False
 | .d (.tree a),.d (.tree .nil) =>
  match ttl tt t with
  | some i=>Side (match i.desc with | .pointer _=>True|_=>False) <| match op with
   | .eql=>K (.d (.bool a.isNil))
   | .neq=>K (.d (.bool (!a.isNil)))
   | _=>False
  | none=>False
 | .d (.trees l),.d .nils =>
  match ttl tt t with
  | some i=>Side (match i.desc with | .slice _=>True|_=>False) <| Side (l≠[]) <| match op with
   | .eql=>K (.d (.bool false))
   | .neq=>K (.d (.bool true))
   | _=>False
  | none=>False
 | _,_=>False
section inv
variable {I : Imm} {ρ : Nat → RB} {D : Nat → Prop} {v : Value}
theorem CA.int {k:IntKind}{n:Int}(h:CA I ρ D (.d (.int k n)) v):v=.int k n:=by cases h with|d h=>cases h;rfl
theorem CA.bool {b:Bool}(h:CA I ρ D (.d (.bool b)) v):v=.bool b:=by cases h with|d h=>cases h;rfl
theorem CA.str {s:ByteArray}(h:CA I ρ D (.d (.str s)) v):v=.string s:=by cases h with|d h=>cases h;rfl
theorem CA.tree {t:Tree}(h:CA I ρ D (.d (.tree t)) v):TrI I t v:=by cases h with|d h=>cases h;assumption
theorem CA.trees {l:List Tree}(h:CA I ρ D (.d (.trees l)) v):TrsI I l v:=by cases h with|d h=>cases h;assumption
theorem CA.nils (h:CA I ρ D (.d .nils) v):v=.slice none 0 0:=by cases h with|d h=>cases h;rfl
end inv
theorem run_intcmp {P:Program}{w:World}{op:BinOp}{k:IntKind}{a b:Int}{c:Bool}(h:cmpK op a b=some c)(t:TypeId):(binOp op t (.int k a) (.int k b)).run P w=.ok (.bool c) w:=by
 cases op<;>simp[cmpK]at h<;>subst h<;>simp[binOp,Op.intCmp]
theorem run_guard_plain {P:Program}{w:World}{op:BinOp}{t:TypeId}{x y:Operand}{a b:Value}(h1:a≠.nilIface)(h2:∀c,a≠.agg c):(eqGuard op t x y a b).run P w=.ok () w:=by
 cases op<;>cases a<;>first|(exact absurd rfl h1)|(exact absurd rfl (h2 _))|rfl
theorem run_equalIn_ptr {P:Program}{t e:TypeId}(he:P.underlying t=some (.pointer e))(p:Option Addr)(w:World)(d:Nat):(Op.equalIn (d+1) t (.pointer p) (.pointer none)).run P w=.ok p.isNone w:=by
 cases p<;>simp[Op.equalIn,underlying,he]
theorem run_equalIn_slice {P:Program}{t e:TypeId}(he:P.underlying t=some (.slice e))(a:Addr)(n cap:Nat)(w:World)(d:Nat):(Op.equalIn (d+1) t (.slice (some a) n cap) (.slice none 0 0)).run P w=.ok false w:=by
 simp[Op.equalIn,underlying,he]
theorem binK_ok {P:Program}{tt:List (Nat×TI)}(htt:TTok P tt){op:BinOp}{t:TypeId}{x y:AVal}{K:AVal→Prop}(h:binK tt op t x y K) :
  ∃r,K r∧∀(I:Imm) (ρ:Nat→RB) (D:Nat→Prop) (v u:Value) (w:World) (xo yo:Operand),CA I ρ D x v→CA I ρ D y u→∃z,(do eqGuard op t xo yo v u;binOp op t v u:Sem Value).run P w=.ok z w∧CA I ρ D r z:=by
 unfold binK at h
 split at h
 ·rename_i k a k' b
  obtain⟨rfl,h⟩:=h
  have key:∀r z,K r→(∀I ρ D,CA I ρ D r z)→(∀w,(binOp op t (.int k a) (.int k b)).run P w=.ok z w)→∃r,K r∧∀(I:Imm) (ρ:Nat→RB) (D:Nat→Prop) (v u:Value) (w:World) (xo yo:Operand),CA I ρ D (.d (.int k a)) v→CA I ρ D (.d (.int k b)) u→∃z,(do eqGuard op t xo yo v u;binOp op t v u:Sem Value).run P w=.ok z w∧CA I ρ D r z:=by
   intro r z hk hc hr
   refine⟨r,hk,fun I ρ D v u w xo yo hv hu=>⟨z,?_,hc I ρ D⟩⟩
   rw[hv.int,hu.int]
   simp only[Sem.run_bind,run_guard_plain (P:=P) (w:=w) (op:=op) (t:=t) (x:=xo) (y:=yo) (a:=.int k a) (b:=.int k b) (by simp) (by simp),Result.andThen_ok]
   exact hr w
  cases op<;>simp only[]at h
  case add=>exact key _ _ h (fun _ _ _=>.d .int) (fun w=>by simp[binOp,Op.intArith])
  case sub=>exact key _ _ h (fun _ _ _=>.d .int) (fun w=>by simp[binOp,Op.intArith])
  case mul=>exact key _ _ h (fun _ _ _=>.d .int) (fun w=>by simp[binOp,Op.intArith])
  case quo=>exact key _ _ h.2 (fun _ _ _=>.d .int) (fun w=>by simp[binOp,Op.intDiv,h.1])
  case rem=>exact key _ _ h.2 (fun _ _ _=>.d .int) (fun w=>by simp[binOp,Op.intDiv,h.1])
  case eql=>exact key _ _ h (fun _ _ _=>.d .bool) (fun w=>run_intcmp (by rfl) t)
  case neq=>exact key _ _ h (fun _ _ _=>.d .bool) (fun w=>run_intcmp (by rfl) t)
  case lss=>exact key _ _ h (fun _ _ _=>.d .bool) (fun w=>run_intcmp (by rfl) t)
  case leq=>exact key _ _ h (fun _ _ _=>.d .bool) (fun w=>run_intcmp (by rfl) t)
  case gtr=>exact key _ _ h (fun _ _ _=>.d .bool) (fun w=>run_intcmp (by rfl) t)
  case geq=>exact key _ _ h (fun _ _ _=>.d .bool) (fun w=>run_intcmp (by rfl) t)
 ·rename_i a b
  have key:∀r z,K r→(∀I ρ D,CA I ρ D r z)→(∀w,(binOp op t (.string a) (.string b)).run P w=.ok z w)→∃r,K r∧∀(I:Imm) (ρ:Nat→RB) (D:Nat→Prop) (v u:Value) (w:World) (xo yo:Operand),CA I ρ D (.d (.str a)) v→CA I ρ D (.d (.str b)) u→∃z,(do eqGuard op t xo yo v u;binOp op t v u:Sem Value).run P w=.ok z w∧CA I ρ D r z:=by
   intro r z hk hc hr
   refine⟨r,hk,fun I ρ D v u w xo yo hv hu=>⟨z,?_,hc I ρ D⟩⟩
   rw[hv.str,hu.str]
   simp only[Sem.run_bind,run_guard_plain (P:=P) (w:=w) (op:=op) (t:=t) (x:=xo) (y:=yo) (a:=.string a) (b:=.string b) (by simp) (by simp),Result.andThen_ok]
   exact hr w
  cases op<;>simp only[]at h
  case add =>
   refine key _ _ h.2 (fun _ _ _=>.d .str) (fun w=>?_)
   have:¬(((a.size+b.size:Nat):Int) > IntKind.i64.max):=by
    have h1:=h.1
    have:IntKind.i64.max=9223372036854775807:=rfl
    omega
   simp only[binOp,Op.stringOp]
   rw[if_neg this];rfl
  all_goals first
   | exact h.elim
   | exact key _ _ h (fun _ _ _=>.d .bool) (fun w=>by simp only[binOp,Op.stringOp];rfl)
 ·rename_i a b
  split at h
  ·rename_i i hi
   obtain⟨hd,h⟩:=h
   have hu:=(htt t i hi).und
   rw[hd]at hu
   have key:∀r z,K r→(∀I ρ D,CA I ρ D r z)→(∀w,(binOp op t (.bool a) (.bool b)).run P w=.ok z w)→∃r,K r∧∀(I:Imm) (ρ:Nat→RB) (D:Nat→Prop) (v u:Value) (w:World) (xo yo:Operand),CA I ρ D (.d (.bool a)) v→CA I ρ D (.d (.bool b)) u→∃z,(do eqGuard op t xo yo v u;binOp op t v u:Sem Value).run P w=.ok z w∧CA I ρ D r z:=by
    intro r z hk hc hr
    refine⟨r,hk,fun I ρ D v u w xo yo hv hu=>⟨z,?_,hc I ρ D⟩⟩
    rw[hv.bool,hu.bool]
    simp only[Sem.run_bind,run_guard_plain (P:=P) (w:=w) (op:=op) (t:=t) (x:=xo) (y:=yo) (a:=.bool a) (b:=.bool b) (by simp) (by simp),Result.andThen_ok]
    exact hr w
   cases op<;>simp only[]at h
   case eql=>exact key _ _ h (fun _ _ _=>.d .bool) (fun w=>run_eql_bool w t a b hu)
   case neq=>exact key _ _ h (fun _ _ _=>.d .bool) (fun w=>run_neq_bool w t a b hu)
  ·exact h.elim
 ·rename_i a
  split at h
  ·rename_i i hi
   obtain⟨hd,h⟩:=h
   have hu:=(htt t i hi).und
   have hp:∃e,P.underlying t=some (.pointer e):=by
    cases hdd:i.desc<;>rw[hdd]at hd hu<;>first|exact⟨_,hu⟩|exact hd.elim
   obtain⟨e,he⟩:=hp
   have heq:∀(p:Option Addr) (w:World),(Op.equal t (.pointer p) (.pointer none)).run P w=.ok p.isNone w:=by
    intro p w
    exact run_equalIn_ptr he p w 9999
   have key:∀(r:AVal) (z:Option Addr→Value),K r→(∀I ρ D p,TrI I a (.pointer p)→CA I ρ D r (z p))→(∀p w,(binOp op t (.pointer p) (.pointer none)).run P w=.ok (z p) w)→∃r,K r∧∀(I:Imm) (ρ:Nat→RB) (D:Nat→Prop) (v u:Value) (w:World) (xo yo:Operand),CA I ρ D (.d (.tree a)) v→CA I ρ D (.d (.tree .nil)) u→∃z,(do eqGuard op t xo yo v u;binOp op t v u:Sem Value).run P w=.ok z w∧CA I ρ D r z:=by
    intro r z hk hc hr
    refine⟨r,hk,fun I ρ D v u w xo yo hv hu=>?_⟩
    obtain⟨p,rfl⟩:=hv.tree.form
    have hun:u=.pointer none:=by have:=hu.tree;cases this;rfl
    subst hun
    refine⟨z p,?_,hc I ρ D p hv.tree⟩
    simp only[Sem.run_bind,run_guard_plain (P:=P) (w:=w) (op:=op) (t:=t) (x:=xo) (y:=yo) (a:=.pointer p) (b:=.pointer none) (by simp) (by simp),Result.andThen_ok]
    exact hr p w
   cases op<;>simp only[]at h
   case eql=>exact key _ (fun p=>.bool p.isNone) h (fun I ρ D p hp=>by have:=hp.isNil;rw[this];exact .d .bool) (fun p w=>by simp[binOp,heq])
   case neq=>exact key _ (fun p=>.bool (!p.isNone)) h (fun I ρ D p hp=>by have:=hp.isNil;rw[this];exact .d .bool) (fun p w=>by simp[binOp,heq])
  ·exact h.elim
 ·rename_i l
  split at h
  ·rename_i i hi
   obtain⟨hd,hne,h⟩:=h
   have hu:=(htt t i hi).und
   have hp:∃e,P.underlying t=some (.slice e):=by
    cases hdd:i.desc<;>rw[hdd]at hd hu<;>first|exact⟨_,hu⟩|exact hd.elim
   obtain⟨e,he⟩:=hp
   have heq:∀(a:Addr) (n cap:Nat) (w:World),(Op.equal t (.slice (some a) n cap) (.slice none 0 0)).run P w=.ok false w:=fun a n cap w=>run_equalIn_slice he a n cap w 9999
   have key:∀(r:AVal) (z:Value),K r→(∀I ρ D,CA I ρ D r z)→(∀a n cap w,(binOp op t (.slice (some a) n cap) (.slice none 0 0)).run P w=.ok z w)→∃r,K r∧∀(I:Imm) (ρ:Nat→RB) (D:Nat→Prop) (v u:Value) (w:World) (xo yo:Operand),CA I ρ D (.d (.trees l)) v→CA I ρ D (.d .nils) u→∃z,(do eqGuard op t xo yo v u;binOp op t v u:Sem Value).run P w=.ok z w∧CA I ρ D r z:=by
    intro r z hk hc hr
    refine⟨r,hk,fun I ρ D v u w xo yo hv hu=>?_⟩
    rcases hv.trees with⟨h1,_⟩|⟨b,o,cap,cs,rfl,_⟩
    ·exact absurd h1 hne
    have hun:=hu.nils
    subst hun
    refine⟨z,?_,hc I ρ D⟩
    simp only[Sem.run_bind,run_guard_plain (P:=P) (w:=w) (op:=op) (t:=t) (x:=xo) (y:=yo) (a:=.slice (some ⟨b,o,none⟩) l.length cap) (b:=.slice none 0 0) (by simp) (by simp),Result.andThen_ok]
    exact hr _ _ _ w
   cases op<;>simp only[]at h
   case eql=>exact key _ (.bool false) h (fun I ρ D=>.d .bool) (fun a n cap w=>by simp[binOp,heq])
   case neq=>exact key _ (.bool true) h (fun I ρ D=>.d .bool) (fun a n cap w=>by simp[binOp,heq])
  ·exact h.elim
 ·exact h.elim
end Go.Mq
namespace Go.Mq
open Go
def pureK (tt:List (Nat×TI))(op:Op)(ev:Operand→AVal)(K:AVal→Prop):Prop :=
 match op with
 | .move x=>K (ev x)
 | .assign x=>K (ev x)
 | .pick c a b =>
  match ev c with
  | .d (.bool t)=>Split t (K (ev a)) (K (ev b))
  | _=>False
 | .nilCheck x =>
  match ev x with
  | .d (.tree t)=>Side (t≠.nil) <| K (.d (.tree t))
  | .d (.tfield t j)=>K (.d (.tfield t j))
  | .d (.tkid l i)=>K (.d (.tkid l i))
  | .d (.ptr n f o)=>K (.d (.ptr n f o))
  | .ref id o=>K (.ref id o)
  | .fn f l=>K (.fn f l)
  | _=>False
 | .binOp op t x y _=>binK tt op t (ev x) (ev y) K
 | .unOp op _ x =>
  match op,ev x with
  | .not,.d (.bool b)=>K (.d (.bool (!b)))
  | .neg,.d (.int k n)=>K (.d (.int k (k.wrap (0 - n))))
  | _,_=>False
 | .convert s d x =>
  match ttl tt s,ttl tt d,ev x with
  | some _,some i,.d (.int _ n)=>match i.desc with
   | .int k=>K (.d (.int k (k.wrap n)))
   | _=>False
  | _,_,_=>False
 | .fieldAddr t x j =>
  match ttl tt t with
  | some i=>match i.offs[j]? with
   | some (o,_)=>match ev x with
    | .d (.tree u)=>Side (u≠.nil) <| K (.d (.tfield u o))
    | .ref id off=>K (.ref id (off+o))
    | .d (.ptr n f off)=>K (.d (.ptr n f (off+o)))
    | _=>False
   | none=>False
  | none=>False
 | .indexAddr t x y =>
  match ttl tt t with
  | some i=>match i.desc with
   | .array n _=>(match ev x,ev y with
    | .ref id off,.d (.int _ a)=>Side (0≤a∧a < n) <| K (.ref id (off+a.toNat*i.esz))
    | _,_=>False)
   | _=>Side (match i.desc with | .slice _=>True|_=>False) <| match ev x,ev y with
    | .d (.trees l),.d (.int _ a)=>Side (i.esz=1) <| Side (0≤a∧a < l.length) <| K (.d (.tkid l a.toNat))
    | .row id n,.d (.int _ a)=>Side (0≤a∧a < n) <| K (.ref id (a.toNat*i.esz))
    | .d (.slice n sz f),.d (.int _ a)=>Side (i.esz=sz) <| Side (0≤a∧a < n) <| K (.d (.ptr sz (f a.toNat) 0))
    | _,_=>False
  | none=>False
 | .index t x y =>
  match ttl tt t with
  | some i=>Side (i.desc=.string) <| match ev x,ev y with
   | .d (.str s),.d (.int _ a)=>Side (0≤a∧a < s.size) <| K (.d (.int .u8 (bt s a)))
   | _,_=>False
  | none=>False
 | .extract x j =>
  match ev x with
  | .tuple l=>match l[j]? with
   | some v=>K v
   | none=>False
  | _=>False
 | .makeFunc (.func f) first caps=>Side (first.size=0) <| K (.fn f (caps.toList.map ev))
 | .makeInterface t x =>
  match ttl tt t with
  | some i=>Side (match i.desc with | .interface _=>False|_=>True) <| K (.iface t (ev x))
  | none=>False
 | .slice t x lo hi mx =>
  match ttl tt t with
  | some i=>match ev x with
   | .d (.str s)=>Side (i.desc=.string) <| Side (mx=none) <|
    (match lo.map ev,hi.map ev with
    | none,some (.d (.int _ b))=>Side (0≤b∧b≤s.size) <| K (.d (.str (s.extract 0 b.toNat)))
    | some (.d (.int _ a)),none=>Side (0≤a∧a≤s.size) <| K (.d (.str (s.extract a.toNat s.size)))
    | some (.d (.int _ a)),some (.d (.int _ b))=>Side (0≤b∧b≤s.size) <| Side (0≤a∧a≤b) <| K (.d (.str (s.extract a.toNat b.toNat)))
    | _,_=>False)
   | .d (.trees l)=>Side (match i.desc with | .slice _=>True|_=>False) <| Side (i.esz=1) <| Side (mx=none) <|
    (match lo.map ev,hi.map ev with
    | none,some (.d (.int _ b))=>Side (0≤b∧b≤l.length) <| K (.d (.trees (l.take b.toNat)))
    | some (.d (.int _ a)),none=>Side (0≤a∧a≤l.length) <| K (.d (.trees (l.drop a.toNat)))
    | _,_=>False)
   | .d (.slice n sz f)=>Side (match i.desc with | .slice _=>True|_=>False) <| Side (i.esz=sz) <| Side (mx=none) <|
    (match lo.map ev,hi.map ev with
    | none,some (.d (.int _ b))=>Side (0≤b∧b≤n) <| K (.d (.slice b.toNat sz f))
    | some (.d (.int _ a)),none=>Side (0≤a∧a≤n) <| K (.d (.slice (n - a.toNat) sz fun i j=>f (a.toNat+i) j))
    | _,_=>False)
   | .row id n=>Side (match i.desc with | .slice _=>True|_=>False) <| Side (mx=none) <|
    (match lo.map ev,hi.map ev with
    | none,some (.d (.int _ b))=>Side (0≤b∧b≤n) <| K (.row id b.toNat)
    | _,_=>False)
   | _=>False
  | none=>False
 | _=>False
def PureOK (P:Program)(op:Op)(ev:Operand→AVal)(r:AVal):Prop :=
 ∀(I:Imm) (ρ:Nat→RB) (D:Nat→Prop) (val:Operand→Value) (w:World) (dst:Option Tmp) (T:TypeId) (pos:String) (aft:Array Edge) (gd:Option (Nat×Bool)),
  (∀x∈op.operands,CA I ρ D (ev x) (val x))→∃z,(execOp val ⟨dst,op,T,pos,aft,gd⟩).run P w=.ok (.value z) w∧CA I ρ D r z
theorem add_addr (b o n:Nat):(Addr.add ⟨b,o,none⟩ n)=⟨b,o+n,none⟩:=by
 unfold Addr.add
 by_cases h:n=0
 ·subst h;simp
 ·simp[h]
theorem run_fieldAt {P:Program}{w:World}{t:Nat}{i:TI}(h:TIok P t i){j o s:Nat}(ho:i.offs[j]?=some (o,s))(b off:Nat) :
  (Instr.fieldAt t (.pointer (some ⟨b,off,none⟩)) j).run P w=.ok (.pointer (some ⟨b,off+o,none⟩)) w:=by
 obtain⟨fs,f,h1,h2,h3,h4,fi,h5,h6⟩:=h.field ho
 have hu:=h.und
 rw[h1]at hu
 have hs:∀w,(sizeOf f.type).run P w=.ok s w:=fun w=>by simp[sizeOf,typeInfo,h5,h6]
 simp[Instr.fieldAt,underlying,hu,h2,Instr.sureAddr,fieldPlace,hs,h4,add_addr,h3]
theorem run_indexAt {P:Program}{w:World}{t:Nat}{i:TI}(h:TIok P t i){e:Nat}(he:i.desc=.slice e)(k:IntKind)(a:Int)(b off n cap:Nat)(h0:0≤a)(h1:a < n) :
  (Instr.indexAt t (.slice (some ⟨b,off,none⟩) n cap) (.int k a)).run P w=.ok (.pointer (some ⟨b,off+a.toNat*i.esz,none⟩)) w:=by
 obtain⟨f,h2,h3,_,_⟩:=h.elem e he
 have hu:=h.und
 rw[he]at hu
 have hs:∀w,(sizeOf e).run P w=.ok i.esz w:=fun w=>by simp[sizeOf,typeInfo,h2,h3]
 simp[Instr.indexAt,asIntOf,underlying,hu,h0,h1,hs,add_addr]
theorem run_indexAtA {P:Program}{w:World}{t:Nat}{i:TI}(h:TIok P t i){n e:Nat}(he:i.desc=.array n e)(k:IntKind)(a:Int)(b off:Nat)(h0:0≤a)(h1:a < n) :
  (Instr.indexAt t (.pointer (some ⟨b,off,none⟩)) (.int k a)).run P w=.ok (.pointer (some ⟨b,off+a.toNat*i.esz,none⟩)) w:=by
 obtain⟨f,h2,h3⟩:=h.arr n e he
 have hu:=h.und
 rw[he]at hu
 have hs:∀w,(sizeOf e).run P w=.ok i.esz w:=fun w=>by simp[sizeOf,typeInfo,h2,h3]
 simp[Instr.indexAt,asIntOf,underlying,hu,Instr.sureAddr,h0,h1,hs,add_addr]
theorem pureK_ok {P:Program}{tt:List (Nat×TI)}(htt:TTok P tt){op:Op}{ev:Operand→AVal}{K:AVal→Prop}(h:pureK tt op ev K):∃r,K r∧PureOK P op ev r:=by
 unfold pureK at h
 split at h
 ·exact⟨_,h,fun I ρ D val w dst T pos aft gd hv=>⟨_,rfl,hv _ (by simp[Op.operands])⟩⟩
 ·exact⟨_,h,fun I ρ D val w dst T pos aft gd hv=>⟨_,rfl,hv _ (by simp[Op.operands])⟩⟩
 ·rename_i c a b
  split at h
  ·rename_i t ht
   refine⟨if t then ev a else ev b,?_,fun I ρ D val w dst T pos aft gd hv=>?_⟩
   ·cases t
    ·exact h.2 rfl
    ·exact h.1 rfl
   ·have hc:=hv c (by simp[Op.operands])
    rw[ht]at hc
    refine⟨if t then val a else val b,by simp[execOp,hc.bool,asBool],?_⟩
    cases t
    ·exact hv b (by simp[Op.operands])
    ·exact hv a (by simp[Op.operands])
  ·exact h.elim
 ·rename_i x
  split at h
  ·rename_i t ht
   refine⟨_,h.2,fun I ρ D val w dst T pos aft gd hv=>⟨val x,?_,ht ▸ hv x (by simp[Op.operands])⟩⟩
   have hx:=hv x (by simp[Op.operands])
   rw[ht]at hx
   obtain⟨b,o,e⟩:=hx.tree.ptr h.1
   simp[execOp,e]
  ·rename_i t j ht
   refine⟨_,h,fun I ρ D val w dst T pos aft gd hv=>⟨val x,?_,ht ▸ hv x (by simp[Op.operands])⟩⟩
   have hx:=hv x (by simp[Op.operands])
   rw[ht]at hx
   generalize hvx:val x=v at hx
   cases hx with|d hx=>cases hx;simp[execOp,hvx]
  ·rename_i l j ht
   refine⟨_,h,fun I ρ D val w dst T pos aft gd hv=>⟨val x,?_,ht ▸ hv x (by simp[Op.operands])⟩⟩
   have hx:=hv x (by simp[Op.operands])
   rw[ht]at hx
   generalize hvx:val x=v at hx
   cases hx with|d hx=>cases hx;simp[execOp,hvx]
  ·rename_i n f o ht
   refine⟨_,h,fun I ρ D val w dst T pos aft gd hv=>⟨val x,?_,ht ▸ hv x (by simp[Op.operands])⟩⟩
   have hx:=hv x (by simp[Op.operands])
   rw[ht]at hx
   generalize hvx:val x=v at hx
   cases hx with|d hx=>cases hx;simp[execOp,hvx]
  ·rename_i id o ht
   refine⟨_,h,fun I ρ D val w dst T pos aft gd hv=>⟨val x,?_,ht ▸ hv x (by simp[Op.operands])⟩⟩
   have hx:=hv x (by simp[Op.operands])
   rw[ht]at hx
   generalize hvx:val x=v at hx
   cases hx;simp[execOp,hvx]
  ·rename_i f l ht
   refine⟨_,h,fun I ρ D val w dst T pos aft gd hv=>⟨val x,?_,ht ▸ hv x (by simp[Op.operands])⟩⟩
   have hx:=hv x (by simp[Op.operands])
   rw[ht]at hx
   generalize hvx:val x=v at hx
   cases hx;simp[execOp,hvx]
  ·exact h.elim
 ·rename_i op t x y T'
  obtain⟨r,hk,hall⟩:=binK_ok htt h
  refine⟨r,hk,fun I ρ D val w dst T pos aft gd hv=>?_⟩
  obtain⟨z,h1,h2⟩:=hall I ρ D (val x) (val y) w x y (hv x (by simp[Op.operands])) (hv y (by simp[Op.operands]))
  refine⟨z,?_,h2⟩
  simp only[execOp]
  rw[Sem.run_bind,h1]
  rfl
 ·rename_i op _ x
  split at h
  ·rename_i b ht
   refine⟨_,h,fun I ρ D val w dst T pos aft gd hv=>?_⟩
   have hx:=hv x (by simp[Op.operands])
   rw[ht]at hx
   exact⟨.bool (!b),by simp[execOp,hx.bool,Op.unary],.d .bool⟩
  ·rename_i k n ht
   refine⟨_,h,fun I ρ D val w dst T pos aft gd hv=>?_⟩
   have hx:=hv x (by simp[Op.operands])
   rw[ht]at hx
   exact⟨.int k (k.wrap (0 - n)),by simp[execOp,hx.int,Op.unary,Op.intArith],.d .int⟩
  ·exact h.elim
 ·rename_i s d x
  split at h
  ·rename_i i1 i2 k0 n h1 h2 ht
   split at h
   ·rename_i k hd
    refine⟨_,h,fun I ρ D val w dst T pos aft gd hv=>?_⟩
    have hx:=hv x (by simp[Op.operands])
    rw[ht]at hx
    have hs:=(htt s i1 h1).und
    have hu:=(htt d i2 h2).und
    rw[hd]at hu
    refine⟨.int k (k.wrap n),?_,.d .int⟩
    simp[execOp,hx.int,convert,underlying,hs,hu,Conv.intToInt]
   ·exact h.elim
  ·exact h.elim
 ·rename_i t x j
  split at h
  ·rename_i i hi
   split at h
   ·rename_i o s ho
    split at h
    ·rename_i u ht
     refine⟨_,h.2,fun I ρ D val w dst T pos aft gd hv=>?_⟩
     have hx:=hv x (by simp[Op.operands])
     rw[ht]at hx
     obtain⟨b,off,e⟩:=hx.tree.ptr h.1
     rw[e]at hx
     exact⟨_,by simp[execOp,e,run_fieldAt (htt t i hi) ho],.d (.tfield hx.tree)⟩
    ·rename_i id off ht
     refine⟨_,h,fun I ρ D val w dst T pos aft gd hv=>?_⟩
     have hx:=hv x (by simp[Op.operands])
     rw[ht]at hx
     generalize hvx:val x=v at hx
     cases hx
     exact⟨_,by simp[execOp,hvx,run_fieldAt (htt t i hi) ho],.ref ‹_›⟩
    ·rename_i n f off ht
     refine⟨_,h,fun I ρ D val w dst T pos aft gd hv=>?_⟩
     have hx:=hv x (by simp[Op.operands])
     rw[ht]at hx
     generalize hvx:val x=v at hx
     cases hx with
     | d hx =>
      cases hx with
      | ptr hc hd=>exact⟨_,by simp[execOp,hvx,run_fieldAt (htt t i hi) ho];rfl,.d (by rw[Nat.add_assoc];exact .ptr hc hd)⟩
    ·exact h.elim
   ·exact h.elim
  ·exact h.elim
 ·rename_i t x y
  split at h
  ·rename_i i hi
   split at h
   ·rename_i n e he
    split at h
    ·rename_i id off k a hx' hy'
     obtain⟨⟨h2,h3⟩,h4⟩:=h
     refine⟨_,h4,fun I ρ D val w dst T pos aft gd hv=>?_⟩
     have hx:=hv x (by simp[Op.operands])
     have hy:=hv y (by simp[Op.operands])
     rw[hx']at hx
     rw[hy']at hy
     generalize hvx:val x=v at hx
     cases hx
     exact⟨_,by simp[execOp,hvx,hy.int,run_indexAtA (htt t i hi) he k a _ off h2 h3],.ref ‹_›⟩
    ·exact h.elim
   ·obtain⟨hd,h⟩:=h
    have hsl:∃e,i.desc=.slice e:=by
     cases hdd:i.desc<;>rw[hdd]at hd<;>first|exact⟨_,rfl⟩|exact hd.elim
    obtain⟨e,he⟩:=hsl
    split at h
    ·rename_i l k a hx' hy'
     obtain⟨h1,⟨h2,h3⟩,h4⟩:=h
     refine⟨_,h4,fun I ρ D val w dst T pos aft gd hv=>?_⟩
     have hx:=hv x (by simp[Op.operands])
     have hy:=hv y (by simp[Op.operands])
     rw[hx']at hx
     rw[hy']at hy
     have htr:=hx.trees
     generalize hvx:val x=v at hx htr
     have htr0:=htr
     rcases htr with⟨e1,_⟩|⟨b,o,cap,cs,e1,_⟩
     ·subst e1;simp at h3;omega
     ·subst e1
      refine⟨.pointer (some ⟨b,o+a.toNat,none⟩),?_,.d (.tkid htr0 (by omega))⟩
      simp[execOp,hvx,hy.int,run_indexAt (htt t i hi) he k a b o _ _ h2 h3,h1]
    ·rename_i id n k a hx' hy'
     obtain⟨⟨h2,h3⟩,h4⟩:=h
     refine⟨_,h4,fun I ρ D val w dst T pos aft gd hv=>?_⟩
     have hx:=hv x (by simp[Op.operands])
     have hy:=hv y (by simp[Op.operands])
     rw[hx']at hx
     rw[hy']at hy
     generalize hvx:val x=v at hx
     cases hx with
     | row hid hn hc hm=>exact⟨_,by simp[execOp,hvx,hy.int,run_indexAt (htt t i hi) he k a _ 0 _ _ h2 h3],.ref hid⟩
     | row0=>simp at h3;omega
    ·rename_i n sz f k a hx' hy'
     obtain⟨h1,⟨h2,h3⟩,h4⟩:=h
     refine⟨_,h4,fun I ρ D val w dst T pos aft gd hv=>?_⟩
     have hx:=hv x (by simp[Op.operands])
     have hy:=hv y (by simp[Op.operands])
     rw[hx']at hx
     rw[hy']at hy
     generalize hvx:val x=v at hx
     cases hx with
     | d hx =>
      cases hx with
      | slice hl hm hc hd =>
       rename_i b o cap cs
       refine⟨_,by simp[execOp,hvx,hy.int,run_indexAt (htt t i hi) he k a b o _ _ h2 h3];rfl,.d ?_⟩
       have ha:a.toNat < n:=by omega
       rw[h1]
       exact .ptr (b:=b) (o:=o+a.toNat*sz) (off:=0) (cs:=fun j=>cs a.toNat j) (fun j hj=>hc _ j ha hj) (fun j hj=>hd _ j ha hj)
      | slice0=>simp at h3;omega
      | sliceE=>simp at h3;omega
    ·exact h.elim
  ·exact h.elim
 ·rename_i t x y
  split at h
  ·rename_i i hi
   obtain⟨hd,h⟩:=h
   split at h
   ·rename_i s k a hx' hy'
    obtain⟨⟨h2,h3⟩,h4⟩:=h
    refine⟨_,h4,fun I ρ D val w dst T pos aft gd hv=>?_⟩
    have hx:=hv x (by simp[Op.operands])
    have hy:=hv y (by simp[Op.operands])
    rw[hx']at hx
    rw[hy']at hy
    have hu:=(htt t i hi).und
    rw[hd]at hu
    have hlt:a.toNat < s.size:=by omega
    refine⟨.int .u8 (bt s a),?_,.d .int⟩
    simp[execOp,hx.str,hy.int,Instr.index,asIntOf,underlying,hu,h2,bt,hlt]
   ·exact h.elim
  ·exact h.elim
 ·rename_i x j
  split at h
  ·rename_i l ht
   split at h
   ·rename_i v hv'
    refine⟨_,h,fun I ρ D val w dst T pos aft gd hv=>?_⟩
    have hx:=hv x (by simp[Op.operands])
    rw[ht]at hx
    generalize hvx:val x=u at hx
    cases hx with
    | tuple hl hcs =>
     rename_i cs
     obtain⟨hj,he⟩:=List.getElem?_eq_some_iff.1 hv'
     have h1:=hcs j hj
     rw[he]at h1
     have hj2:j < cs.size:=by omega
     exact⟨cs.getD j undef,by simp[execOp,hvx,Instr.extract,hj2],h1⟩
   ·exact h.elim
  ·exact h.elim
 ·rename_i f first caps
  refine⟨_,h.2,fun I ρ D val w dst T pos aft gd hv=>⟨.func (.func f) #[] (caps.map val),?_,.fn (by simp) ?_⟩⟩
  ·have:first=#[]:=by apply Array.eq_empty_of_size_eq_zero;exact h.1
   subst this
   simp[execOp,Instr.makeFunc]
  ·intro i hi
   have hi':i < caps.size:=by simpa using hi
   simp[hi']
   exact hv _ (by simp[Op.operands])
 ·rename_i t x
  split at h
  ·rename_i i hi
   refine⟨_,h.2,fun I ρ D val w dst T pos aft gd hv=>⟨.iface t (val x),?_,.iface (hv x (by simp[Op.operands]))⟩⟩
   have hu:=(htt t i hi).und
   have hd:=h.1
   cases hdd:i.desc<;>rw[hdd]at hu hd<;>first|exact hd.elim|simp[execOp,Instr.makeInterface,underlying,hu]
  ·exact h.elim
 ·rename_i t x lo hi mx
  split at h
  ·rename_i i hti
   have hu:=(htt t i hti).und
   split at h
   ·rename_i s ht
    obtain⟨hd,hm,h⟩:=h
    subst hm
    rw[hd]at hu
    split at h
    ·rename_i k b hlo hhi
     obtain⟨⟨h1,h2⟩,h3⟩:=h
     cases lo with
     | some _=>simp at hlo
     | none =>
      cases hi with
      | none=>simp at hhi
      | some hio =>
       simp at hhi
       refine⟨_,h3,fun I ρ D val w dst T pos aft gd hv=>⟨.string (s.extract 0 b.toNat),?_,.d .str⟩⟩
       have hx:=hv x (by simp[Op.operands]);rw[ht]at hx
       have hb:=hv hio (by simp[Op.operands]);rw[hhi]at hb
       simp[execOp,hx.str,hb.int,Instr.sliceAt,Instr.slice,Instr.sliceBounds,Instr.sliceBound,underlying,hu,asIntOf,h1,h2]
    ·rename_i k a hlo hhi
     obtain⟨⟨h1,h2⟩,h3⟩:=h
     cases hi with
     | some _=>simp at hhi
     | none =>
      cases lo with
      | none=>simp at hlo
      | some loo =>
       simp at hlo
       refine⟨_,h3,fun I ρ D val w dst T pos aft gd hv=>⟨.string (s.extract a.toNat s.size),?_,.d .str⟩⟩
       have hx:=hv x (by simp[Op.operands]);rw[ht]at hx
       have ha:=hv loo (by simp[Op.operands]);rw[hlo]at ha
       simp[execOp,hx.str,ha.int,Instr.sliceAt,Instr.slice,Instr.sliceBounds,Instr.sliceBound,underlying,hu,asIntOf,h1,h2]
    ·rename_i k a k' b hlo hhi
     obtain⟨⟨h1,h2⟩,⟨h3,h4⟩,h5⟩:=h
     cases lo with
     | none=>simp at hlo
     | some loo =>
      cases hi with
      | none=>simp at hhi
      | some hio =>
       simp at hlo hhi
       refine⟨_,h5,fun I ρ D val w dst T pos aft gd hv=>⟨.string (s.extract a.toNat b.toNat),?_,.d .str⟩⟩
       have hx:=hv x (by simp[Op.operands]);rw[ht]at hx
       have ha:=hv loo (by simp[Op.operands]);rw[hlo]at ha
       have hb:=hv hio (by simp[Op.operands]);rw[hhi]at hb
       simp[execOp,hx.str,ha.int,hb.int,Instr.sliceAt,Instr.slice,Instr.sliceBounds,Instr.sliceBound,underlying,hu,asIntOf,h1,h2,h3]
       intro hh;omega
    ·exact h.elim
   ·rename_i l ht
    obtain⟨hd,he1,hm,h⟩:=h
    subst hm
    have hsl:∃e,i.desc=.slice e:=by
     cases hdd:i.desc<;>rw[hdd]at hd<;>first|exact⟨_,rfl⟩|exact hd.elim
    obtain⟨e,he⟩:=hsl
    obtain⟨f,hf1,hf2,_⟩:=(htt t i hti).elem e he
    have hs:∀w,(sizeOf e).run P w=.ok 1 w:=fun w=>by simp[sizeOf,typeInfo,hf1,hf2,he1]
    rw[he]at hu
    split at h
    ·rename_i k b hlo hhi
     obtain⟨⟨h1,h2⟩,h3⟩:=h
     cases lo with
     | some _=>simp at hlo
     | none =>
      cases hi with
      | none=>simp at hhi
      | some hio =>
       simp at hhi
       refine⟨_,h3,fun I ρ D val w dst T pos aft gd hv=>?_⟩
       have hx:=hv x (by simp[Op.operands]);rw[ht]at hx
       have hb:=hv hio (by simp[Op.operands]);rw[hhi]at hb
       have htr:=hx.trees
       generalize hvx:val x=v at hx htr
       rcases htr with⟨e1,e2⟩|⟨bb,o,cap,cs,e1,e2,e3,e4,e5⟩
       ·subst e1;subst e2
        have hb0:b=0:=by simp at h2;omega
        subst hb0
        refine⟨.slice none 0 0,?_,.d (.trees (.inl ⟨rfl,rfl⟩))⟩
        simp[execOp,hvx,hb.int,Instr.sliceAt,Instr.slice,Instr.sliceBounds,Instr.sliceBound,underlying,hu,asIntOf,hs]
       ·subst e1
        have h6:b≤((cap:Nat):Int):=by omega
        have hlen:(l.take b.toNat).length=b.toNat:=by rw[List.length_take];omega
        refine⟨.slice (some ⟨bb,o,none⟩) b.toNat cap,?_,.d (.trees (.inr ⟨bb,o,cap,cs,by rw[hlen],by omega,by omega,fun i hi=>e4 i (by omega),fun i hi=>?_⟩))⟩
        ·by_cases hc:cap=0
         ·subst hc
          simp[execOp,hvx,hb.int,Instr.sliceAt,Instr.slice,Instr.sliceBounds,Instr.sliceBound,underlying,hu,asIntOf,hs,h1]
          intro hh;omega
         ·simp[execOp,hvx,hb.int,Instr.sliceAt,Instr.slice,Instr.sliceBounds,Instr.sliceBound,underlying,hu,asIntOf,hs,h1,h6,add_addr]
        ·rw[List.getElem_take];exact e5 i (by omega)
    ·rename_i k a hlo hhi
     obtain⟨⟨h1,h2⟩,h3⟩:=h
     cases hi with
     | some _=>simp at hhi
     | none =>
      cases lo with
      | none=>simp at hlo
      | some loo =>
       simp at hlo
       refine⟨_,h3,fun I ρ D val w dst T pos aft gd hv=>?_⟩
       have hx:=hv x (by simp[Op.operands]);rw[ht]at hx
       have ha:=hv loo (by simp[Op.operands]);rw[hlo]at ha
       have htr:=hx.trees
       generalize hvx:val x=v at hx htr
       rcases htr with⟨e1,e2⟩|⟨bb,o,cap,cs,e1,e2,e3,e4,e5⟩
       ·subst e1;subst e2
        have ha0:a=0:=by simp at h2;omega
        subst ha0
        refine⟨.slice none 0 0,?_,.d (.trees (.inl ⟨rfl,rfl⟩))⟩
        simp[execOp,hvx,ha.int,Instr.sliceAt,Instr.slice,Instr.sliceBounds,Instr.sliceBound,underlying,hu,asIntOf,hs]
       ·subst e1
        have hlen:(l.drop a.toNat).length=l.length - a.toNat:=by rw[List.length_drop]
        by_cases hc:cap=a.toNat
        ·refine⟨.slice (some ⟨bb,o,none⟩) (l.length - a.toNat) (cap - a.toNat),?_,.d (.trees (.inr ⟨bb,o,cap - a.toNat,cs,by rw[hlen],by omega,by omega,fun i hi=>e4 i (by omega),fun i hi=>?_⟩))⟩
         ·simp[execOp,hvx,ha.int,Instr.sliceAt,Instr.slice,Instr.sliceBounds,Instr.sliceBound,underlying,hu,asIntOf,hs,h1,h2,hc]
         ·omega
        ·refine⟨.slice (some ⟨bb,o+a.toNat,none⟩) (l.length - a.toNat) (cap - a.toNat),?_,.d (.trees (.inr ⟨bb,o+a.toNat,cap - a.toNat,fun i=>cs (a.toNat+i),by rw[hlen],by omega,by omega,fun i hi=>by rw[Nat.add_assoc];exact e4 _ (by omega),fun i hi=>?_⟩))⟩
         ·simp[execOp,hvx,ha.int,Instr.sliceAt,Instr.slice,Instr.sliceBounds,Instr.sliceBound,underlying,hu,asIntOf,hs,h1,h2,hc,add_addr]
         ·rw[List.getElem_drop];exact e5 _ (by omega)
    ·exact h.elim
   ·rename_i n sz f ht
    obtain⟨hd,he1,hm,h⟩:=h
    subst hm
    have hsl:∃e,i.desc=.slice e:=by
     cases hdd:i.desc<;>rw[hdd]at hd<;>first|exact⟨_,rfl⟩|exact hd.elim
    obtain⟨e,he⟩:=hsl
    obtain⟨ff,hf1,hf2,_⟩:=(htt t i hti).elem e he
    have hs:∀w,(sizeOf e).run P w=.ok sz w:=fun w=>by simp[sizeOf,typeInfo,hf1,hf2,he1]
    rw[he]at hu
    split at h
    ·rename_i k b hlo hhi
     obtain⟨⟨h1,h2⟩,h3⟩:=h
     cases lo with
     | some _=>simp at hlo
     | none =>
      cases hi with
      | none=>simp at hhi
      | some hio =>
       simp at hhi
       refine⟨_,h3,fun I ρ D val w dst T pos aft gd hv=>?_⟩
       have hx:=hv x (by simp[Op.operands]);rw[ht]at hx
       have hb:=hv hio (by simp[Op.operands]);rw[hhi]at hb
       have hcd:Cd I (.slice n sz f) (val x):=by cases hx;assumption
       generalize hvx:val x=v at hx hcd
       cases hcd with
       | slice0 =>
        have hb0:b=0:=by simp at h2;omega
        subst hb0
        refine⟨.slice none 0 0,?_,.d .slice0⟩
        simp[execOp,hvx,hb.int,Instr.sliceAt,Instr.slice,Instr.sliceBounds,Instr.sliceBound,underlying,hu,asIntOf,hs]
       | sliceE =>
        rename_i ad
        have hb0:b=0:=by simp at h2;omega
        subst hb0
        refine⟨.slice (some ad) 0 0,?_,.d .sliceE⟩
        simp[execOp,hvx,hb.int,Instr.sliceAt,Instr.slice,Instr.sliceBounds,Instr.sliceBound,underlying,hu,asIntOf,hs]
       | slice hl hm hc hct =>
        rename_i bb o cap cs
        have h6:b≤((cap:Nat):Int):=by omega
        refine⟨.slice (some ⟨bb,o,none⟩) b.toNat cap,?_,.d (.slice (by omega) (by omega) (fun i j hi hj=>hc i j (by omega) hj) (fun i j hi hj=>hct i j (by omega) hj))⟩
        by_cases hc:cap=0
        ·subst hc
         simp[execOp,hvx,hb.int,Instr.sliceAt,Instr.slice,Instr.sliceBounds,Instr.sliceBound,underlying,hu,asIntOf,hs,h1]
         intro hh;omega
        ·simp[execOp,hvx,hb.int,Instr.sliceAt,Instr.slice,Instr.sliceBounds,Instr.sliceBound,underlying,hu,asIntOf,hs,h1,h6,add_addr]
    ·rename_i k a hlo hhi
     obtain⟨⟨h1,h2⟩,h3⟩:=h
     cases hi with
     | some _=>simp at hhi
     | none =>
      cases lo with
      | none=>simp at hlo
      | some loo =>
       simp at hlo
       refine⟨_,h3,fun I ρ D val w dst T pos aft gd hv=>?_⟩
       have hx:=hv x (by simp[Op.operands]);rw[ht]at hx
       have ha:=hv loo (by simp[Op.operands]);rw[hlo]at ha
       have hcd:Cd I (.slice n sz f) (val x):=by cases hx;assumption
       generalize hvx:val x=v at hx hcd
       cases hcd with
       | slice0 =>
        have ha0:a=0:=by simp at h2;omega
        subst ha0
        refine⟨.slice none 0 0,?_,.d .slice0⟩
        simp[execOp,hvx,ha.int,Instr.sliceAt,Instr.slice,Instr.sliceBounds,Instr.sliceBound,underlying,hu,asIntOf,hs]
       | sliceE =>
        rename_i ad
        have ha0:a=0:=by simp at h2;omega
        subst ha0
        refine⟨.slice (some ad) 0 0,?_,.d .sliceE⟩
        simp[execOp,hvx,ha.int,Instr.sliceAt,Instr.slice,Instr.sliceBounds,Instr.sliceBound,underlying,hu,asIntOf,hs]
       | slice hl hm hc hct =>
        rename_i bb o cap cs
        by_cases hcap:cap=a.toNat
        ·refine⟨.slice (some ⟨bb,o,none⟩) (n - a.toNat) (cap - a.toNat),?_,.d (.slice (cs:=fun i j=>cs (a.toNat+i) j) (by omega) (by omega) (fun i j hi hj=>by omega) (fun i j hi hj=>by omega))⟩
         simp[execOp,hvx,ha.int,Instr.sliceAt,Instr.slice,Instr.sliceBounds,Instr.sliceBound,underlying,hu,asIntOf,hs,h1,h2,hcap]
        ·refine⟨.slice (some ⟨bb,o+a.toNat*sz,none⟩) (n - a.toNat) (cap - a.toNat),?_,.d (.slice (cs:=fun i j=>cs (a.toNat+i) j) (by omega) (by omega) (fun i j hi hj=>?_) (fun i j hi hj=>hct _ j (by omega) hj))⟩
         ·simp[execOp,hvx,ha.int,Instr.sliceAt,Instr.slice,Instr.sliceBounds,Instr.sliceBound,underlying,hu,asIntOf,hs,h1,h2,hcap,add_addr]
         ·have:=hc (a.toNat+i) j (by omega) hj
          rw[Nat.add_mul]at this
          rw[show o+a.toNat*sz+i*sz+j=o+(a.toNat*sz+i*sz)+j by omega]
          exact this
    ·exact h.elim
   ·rename_i id n ht
    obtain⟨hd,hm,h⟩:=h
    subst hm
    have hsl:∃e,i.desc=.slice e:=by
     cases hdd:i.desc<;>rw[hdd]at hd<;>first|exact⟨_,rfl⟩|exact hd.elim
    obtain⟨e,he⟩:=hsl
    obtain⟨ff,hf1,hf2,_⟩:=(htt t i hti).elem e he
    have hs:∀w,(sizeOf e).run P w=.ok i.esz w:=fun w=>by simp[sizeOf,typeInfo,hf1,hf2]
    rw[he]at hu
    split at h
    ·rename_i k b hlo hhi
     obtain⟨⟨h1,h2⟩,h3⟩:=h
     cases lo with
     | some _=>simp at hlo
     | none =>
      cases hi with
      | none=>simp at hhi
      | some hio =>
       simp at hhi
       refine⟨_,h3,fun I ρ D val w dst T pos aft gd hv=>?_⟩
       have hx:=hv x (by simp[Op.operands]);rw[ht]at hx
       have hb:=hv hio (by simp[Op.operands]);rw[hhi]at hb
       generalize hvx:val x=v at hx
       cases hx with
       | row0 h7 h8 =>
        have hb0:b=0:=by simp at h2;omega
        subst hb0
        refine⟨.slice none 0 0,?_,.row0 h7 h8⟩
        simp[execOp,hvx,hb.int,Instr.sliceAt,Instr.slice,Instr.sliceBounds,Instr.sliceBound,underlying,hu,asIntOf,hs]
       | row h7 h8 h9 h10 =>
        have h6:b≤(((ρ id).cap:Nat):Int):=by omega
        refine⟨.slice (some ⟨(ρ id).blk,0,none⟩) b.toNat (ρ id).cap,?_,.row h7 h8 (by omega) (by omega)⟩
        by_cases hc:(ρ id).cap=0
        ·rw[hc]at h6 ⊢
         simp[execOp,hvx,hb.int,Instr.sliceAt,Instr.slice,Instr.sliceBounds,Instr.sliceBound,underlying,hu,asIntOf,hs,h1,hc]
         intro hh;omega
        ·simp[execOp,hvx,hb.int,Instr.sliceAt,Instr.slice,Instr.sliceBounds,Instr.sliceBound,underlying,hu,asIntOf,hs,h1,h6,add_addr]
    ·exact h.elim
   ·exact h.elim
  ·exact h.elim
 ·exact h.elim
def CAs (I:Imm)(ρ:Nat→RB)(D:Nat→Prop)(vs:List AVal)(cs:Array Value):Prop:=cs.size=vs.length∧∀i (h:i < vs.length),CA I ρ D vs[i] (cs.getD i undef)
theorem CAs.set {I:Imm}{ρ:Nat→RB}{D:Nat→Prop}{vs:List AVal}{cs:Array Value}(h:CAs I ρ D vs cs)(o:Nat){v:AVal}{u:Value}(hv:CA I ρ D v u):CAs I ρ D (vs.set o v) (cs.setIfInBounds o u):=by
 refine⟨by simp[h.1],fun i hi=>?_⟩
 have hi':i < vs.length:=by simpa using hi
 have hc:i < cs.size:=by rw[h.1];exact hi'
 by_cases e:o=i
 ·subst e;simpa [hc] using hv
 ·have:=h.2 i hi'
  simpa [e,hc] using this
def splA (vs:List AVal)(o:Nat):List AVal→List AVal
 | []=>vs
 | v::r=>splA (vs.set o v) (o+1) r
def splV (cs:Array Value)(o:Nat):List Value→Array Value
 | []=>cs
 | v::r=>splV (cs.setIfInBounds o v) (o+1) r
def All2 (I:Imm)(ρ:Nat→RB)(D:Nat→Prop):List AVal→List Value→Prop
 | [],[]=>True
 | x::l,v::r=>CA I ρ D x v∧All2 I ρ D l r
 | _,_=>False
theorem All2.len {I:Imm}{ρ:Nat→RB}{D:Nat→Prop}:∀{l:List AVal} {r:List Value},All2 I ρ D l r→l.length=r.length
 | [],[],_=>rfl
 | [],_::_,h=>h.elim
 | _::_,[],h=>h.elim
 | _::l,_::r,h=>by simp[All2.len h.2]
theorem All2.of {I:Imm}{ρ:Nat→RB}{D:Nat→Prop}:∀(l:List AVal) (cs:List Value),cs.length=l.length→(∀i (h:i < l.length),CA I ρ D l[i] (cs.getD i undef))→All2 I ρ D l cs
 | [],[],_,_=>trivial
 | [],_::_,h,_=>by simp at h
 | _::_,[],h,_=>by simp at h
 | x::l,v::r,h,hc=>⟨hc 0 (by simp),All2.of l r (by simpa using h) (fun i hi=>hc (i+1) (by simpa using hi))⟩
theorem CAs.spl {I:Imm}{ρ:Nat→RB}{D:Nat→Prop}:∀{l:List AVal} {us:List Value} {vs:List AVal} {cs:Array Value} {o:Nat},CAs I ρ D vs cs→All2 I ρ D l us→CAs I ρ D (splA vs o l) (splV cs o us)
 | [],[],_,_,_,h,_=>h
 | [],_::_,_,_,_,_,h=>h.elim
 | _::_,[],_,_,_,_,h=>h.elim
 | _::_,_::_,_,_,o,h,h2=>by
  have:=CAs.spl (CAs.set h o h2.1) h2.2 (o:=o+1)
  exact this
theorem splA_length:∀{l:List AVal} {vs:List AVal} {o:Nat},(splA vs o l).length=vs.length
 | [],_,_=>rfl
 | _::r,vs,o=>by simp[splA,splA_length]
def AVal.one:AVal→Bool
 | .d (.agg _ _)=>false
 | .d _=>true
 | .ref _ _=>true
 | .row _ _=>true
 | .mp _=>true
 | .fn _ _=>true
 | .iface _ _=>true
 | _=>false
theorem TrI.one {I:Imm}{t:Tree}{v:Value}(h:TrI I t v):v.oneCell'=true∧v.cells=#[v]:=by cases h<;>exact⟨rfl,rfl⟩
theorem TrsI.one {I:Imm}{l:List Tree}{v:Value}(h:TrsI I l v):v.oneCell'=true∧v.cells=#[v]:=by
 rcases h with⟨_,rfl⟩|⟨_,_,_,_,rfl,_⟩<;>exact⟨rfl,rfl⟩
theorem CA.one {I:Imm}{ρ:Nat→RB}{D:Nat→Prop}{x:AVal}{v:Value}(h:CA I ρ D x v)(hx:x.one=true):v.oneCell'=true∧v.cells=#[v]:=by
 cases h<;>first
  | (simp[AVal.one]at hx;done)
  | exact⟨rfl,rfl⟩
  | (rename_i hd;cases hd<;>first|(simp[AVal.one]at hx;done)|exact⟨rfl,rfl⟩|exact TrI.one ‹_›|exact TrsI.one ‹_›)
theorem CA.agg_inv {I:Imm}{ρ:Nat→RB}{D:Nat→Prop}{l:List AVal}{v:Value}(h:CA I ρ D (.agg l) v):∃cs,v=.agg cs∧CAs I ρ D l cs:=by
 cases h with
 | agg hl hc=>exact⟨_,rfl,hl,hc⟩
section runs
variable {P : Program}
theorem heap_setCell_at {w:World}{b off:Nat}{u:Value}{c:Array Value}{T:TypeId}{fz:Nat×Nat}(h:w.heap[b]?=some (.cells c T fz)) :
  (w.setCell ⟨b,off,none⟩ u).heap[b]?=some (.cells (c.setIfInBounds off u) T fz):=by
 simp[World.setCell,Array.getElem?_modify,h]
theorem heap_setCell_ne {w:World}{b b' off:Nat}{u:Value}(h:b'≠b):(w.setCell ⟨b,off,none⟩ u).heap[b']?=w.heap[b']?:=by
 simp only[World.setCell,Array.getElem?_modify]
 rw[if_neg (fun e=>h e.symm)]
theorem cell_of_block {w:World}{b off:Nat}{c:Array Value}{T:TypeId}{fz:Nat×Nat}(h:w.heap[b]?=some (.cells c T fz))(ho:off < c.size):w.cell? ⟨b,off,none⟩=some (c.getD off undef):=by
 simp[World.cell?,h,ho]
theorem frozen_of_block {w:World}{b off:Nat}{c:Array Value}{T:TypeId}(h:w.heap[b]?=some (.cells c T (0,0))):w.frozen? ⟨b,off,none⟩=false:=by
 simp[World.frozen?,h]
theorem run_storeCells {b off:Nat}{T:TypeId}:∀(vs:List Value) (_:∀v∈vs,v.oneCell'=true) (i:Nat) (w:World) (cs:Array Value),w.heap[b]?=some (.cells cs T (0,0))→off+i+vs.length≤cs.size →
  ∃w',(storeCells ⟨b,off,none⟩ vs i).run P w=.ok () w'∧w'.heap[b]?=some (.cells (splV cs (off+i) vs) T (0,0))∧World.env w'=World.env w∧w'.heap.size=w.heap.size∧∀b',b'≠b→w'.heap[b']?=w.heap[b']?
 | [],_,i,w,cs,h,_=>⟨w,rfl,h,rfl,rfl,fun _ _=>rfl⟩
 | v::r,hv,i,w,cs,h,hl=>by
  have h1:off+i < cs.size:=by simp at hl;omega
  have hst:(store ⟨b,off+i,none⟩ v).run P w=.ok () (w.setCell ⟨b,off+i,none⟩ v):=by
   rw[run_store P w _ v _ (hv v (by simp)),cell_of_block h h1,frozen_of_block h];rfl
  obtain⟨w',h2,h3,h4,h5,h6⟩:=run_storeCells (b:=b) (off:=off) (T:=T) r (fun v hv'=>hv v (by simp[hv'])) (i+1) (w.setCell ⟨b,off+i,none⟩ v) (cs.setIfInBounds (off+i) v) (heap_setCell_at h) (by simp at hl ⊢;omega)
  refine⟨w',?_,?_,h4,?_,?_⟩
  ·simp only[storeCells,add_addr,Sem.run_bind,hst,Result.andThen_ok];exact h2
  ·simpa [splV,Nat.add_assoc] using h3
  ·simpa using h5
  ·intro b' hb;rw[h6 b' hb,heap_setCell_ne hb]
theorem run_loadCells_block {w:World}{b off n:Nat}{cs:Array Value}{T:TypeId}{fz:Nat×Nat}(h:w.heap[b]?=some (.cells cs T fz))(hn:off+n≤cs.size) :
  (loadCells ⟨b,off,none⟩ n).run P w=.ok ((List.range n).map fun j=>cs.getD (off+j) undef).toArray w:=by
 exact run_loadCells (P:=P) (w:=w) ⟨b,off,none⟩ n (fun j=>cs.getD (off+j) undef) (fun j hj=>by rw[add_addr];exact cell_of_block h (by omega))
end runs
def one1 (v:AVal):Eff:=⟨v,[],[],none⟩
def allTrees:List AVal→Option (List Tree)
 | []=>some []
 | .d (.tree t)::r=>(allTrees r).map (t::·)
 | _=>none
def allStrs:List AVal→Option (List ByteArray)
 | []=>some []
 | .d (.str t)::r=>(allStrs r).map (t::·)
 | _=>none
def allInts (k:IntKind):List AVal→Option (List Int)
 | []=>some []
 | .d (.int k' t)::r=>if k=k' then (allInts k r).map (t::·) else none
 | _=>none
def fillA (offs:List (Nat×Nat))(cells:List AVal):List (Nat×AVal)→Option (List AVal)
 | []=>some cells
 | (j,v)::rest =>
  match offs[j]? with
  | none=>none
  | some (o,s) =>
   match v with
   | .agg l=>bif Nat.beq l.length s && Nat.ble (o+s) cells.length then fillA offs (splA cells o l) rest else none
   | v=>bif v.one && Nat.beq s 1 && Nat.blt o cells.length then fillA offs (cells.set o v) rest else none
def forceV (v:AVal)(K:AVal→Prop):Prop :=
 match v with
 | .d x=>K (.d x)
 | .und=>K .und
 | .any=>K .any
 | .ref i o=>K (.ref i o)
 | .row i o=>K (.row i o)
 | .mp i=>K (.mp i)
 | .fn f l=>K (.fn f l)
 | .agg l=>K (.agg l)
 | .tuple l=>K (.tuple l)
 | .val v=>K (.val v)
 | .iface t x=>K (.iface t x)
theorem forceV_eq (v:AVal)(K:AVal→Prop):forceV v K=K v:=by cases v<;>rfl
def forceL (l:List AVal)(K:List AVal→Prop):Prop :=
 match l with
 | []=>K []
 | x::r=>forceL r fun r'=>forceV x fun x'=>K (x'::r')
theorem forceL_eq:∀(l:List AVal) (K:List AVal→Prop),forceL l K=K l
 | [],_=>rfl
 | x::r,K=>by simp only[forceL,forceL_eq r,forceV_eq]
def fillK (offs:List (Nat×Nat))(cells:List AVal):List (Nat×AVal)→(List AVal→Prop)→Prop
 | [],K=>K cells
 | (j,v)::rest,K =>
  match offs[j]? with
  | none=>False
  | some (o,s) =>
   match v with
   | .agg l=>bif Nat.beq l.length s && Nat.ble (o+s) cells.length then forceL (splA cells o l) fun c=>fillK offs c rest K else False
   | v=>bif v.one && Nat.beq s 1 && Nat.blt o cells.length then forceL (cells.set o v) fun c=>fillK offs c rest K else False
theorem fillK_eq (offs:List (Nat×Nat)):∀(ps:List (Nat×AVal)) (cells:List AVal) (K:List AVal→Prop),fillK offs cells ps K=(match fillA offs cells ps with|some l=>K l|none=>False)
 | [],cells,K=>rfl
 | (j,v)::rest,cells,K=>by
  simp only[fillK,fillA]
  split
  ·rfl
  ·split
   ·rw[Bool.cond_eq_ite,Bool.cond_eq_ite,forceL_eq]
    split
    ·exact fillK_eq offs rest _ K
    ·rfl
   ·rw[Bool.cond_eq_ite,Bool.cond_eq_ite,forceL_eq]
    split
    ·exact fillK_eq offs rest _ K
    ·rfl
def typedB (tt:List (Nat×TI))(t:TypeId):Bool:=match ttl tt t with
 | some i=>i.typed
 | none=>false
def memK (tt:List (Nat×TI))(op:Op)(ev:Operand→AVal)(get:Objs)(nx:Nat)(K:List Nat→Eff→Prop):Prop :=
 match op with
 | .load t a =>
  match ttl tt t with
  | some i=>bif i.agg then
    (match ev a with
    | .d (.tree u)=>Side (i.size=5) <| Side (u≠.nil) <| K [] (one1 (.agg [.d (.int .i64 u.kind),.d (.int .i64 u.n),.d (.str u.name),.d (.str u.mark),.d (.trees u.kids)]))
    | .d (.ptr n f off)=>Side (off+i.size≤n) <| K [] (one1 (.agg ((List.range i.size).map fun j=>.d (f (off+j)))))
    | .ref id off=>match get id with
     | some (.cellsT _ vs)=>Side (off+i.size≤vs.length) <| K [id] (one1 (.agg ((vs.drop off).take i.size)))
     | _=>False
    | _=>False)
   else
    (match ev a with
    | .d (.tfield u j)=>(match j with
     | 0=>K [] (one1 (.d (.int .i64 u.kind)))
     | 1=>K [] (one1 (.d (.int .i64 u.n)))
     | 2=>K [] (one1 (.d (.str u.name)))
     | 3=>K [] (one1 (.d (.str u.mark)))
     | 4=>K [] (one1 (.d (.trees u.kids)))
     | _=>False)
    | .d (.tkid l k)=>K [] (one1 (.d (.tree (l.getD k .nil))))
    | .d (.ptr n f off)=>Side (off < n) <| K [] (one1 (.d (f off)))
    | .ref id off=>match get id with
     | some (.cellsT _ vs)=>(match vs[off]? with
      | some v=>K [id] (one1 v)
      | none=>False)
     | some (.row _ r)=>Side (r.sz=1) <| Side (off < r.len) <| K [id] (one1 (r.cell off))
     | _=>False
    | _=>False)
  | none=>False
 | .store t a x =>
  match ttl tt t,ev a with
  | some i,.ref id off=>match get id with
   | some (.cellsT ty vs)=>bif i.agg then (match ev x with
     | .agg l=>Side (l.length=i.size) <| Side (off+i.size≤vs.length) <| Side (l.all AVal.one=true) <| K [id] ⟨.und,[(id,some (.cellsT ty (splA vs off l)))],[],none⟩
     | _=>False)
    else Side (i.size=1) <| Side ((ev x).one=true) <| Side (off < vs.length) <| K [id] ⟨.und,[(id,some (.cellsT ty (vs.set off (ev x))))],[],none⟩
   | some (.row el (.trees l))=>Side (i.agg=false) <| Side (i.size=1) <| Side (off < l.length) <| (match ev x with
    | .d (.tree t)=>K [id] ⟨.und,[(id,some (.row el (.trees (l.set off t))))],[],none⟩
    | _=>False)
   | some (.row el (.ints k l))=>Side (i.agg=false) <| Side (i.size=1) <| Side (off < l.length) <| (match ev x with
    | .d (.int k' n)=>Side (k=k') <| K [id] ⟨.und,[(id,some (.row el (.ints k (l.set off n))))],[],none⟩
    | _=>False)
   | some (.row el (.bools l))=>Side (i.agg=false) <| Side (i.size=1) <| Side (off < l.length) <| (match ev x with
    | .d (.bool n)=>K [id] ⟨.und,[(id,some (.row el (.bools (l.set off n))))],[],none⟩
    | _=>False)
   | _=>False
  | _,_=>False
 | .alloc t =>
  match ttl tt t with
  | some i=>K [] ⟨.ref nx 0,[(nx,some (.cells (i.zero.cells.toList.map ofV)))],[nx],none⟩
  | none=>False
 | .box t x =>
  match ev x with
  | .agg l=>bif typedB tt t then K [] ⟨.ref nx 0,[(nx,some (.cellsT (some t) l))],[nx],none⟩ else K [] ⟨.ref nx 0,[(nx,some (.cells l))],[nx],none⟩
  | v=>Side (v.one=true) <| K [] ⟨.ref nx 0,[(nx,some (.cells [v]))],[nx],none⟩
 | .build t ps =>
  match ttl tt t with
  | some i=>match i.desc with
   | .array n _=>forceL (i.zero.cells.toList.map ofV) fun c0=>fillK ((List.range n).map fun k=>(k*i.esz,i.esz)) c0 (ps.toList.map fun p=>(p.1,ev p.2)) fun l=>K [] (one1 (.agg l))
   | _=>Side (match i.desc with | .struct _=>True|_=>False) <| forceL (i.zero.cells.toList.map ofV) fun c0=>fillK i.offs c0 (ps.toList.map fun p=>(p.1,ev p.2)) fun l=>K [] (one1 (.agg l))
  | none=>False
 | _=>False
end Go.Mq
namespace Go.Mq
open Go
def Agree (o:Oper)(F:List Nat)(gu:Bool)(X X':FS):Prop :=
 X'.n=X.n∧(∀x∈o.op.operands,evT X'.T x=evT X.T x)∧(∀id∈F,X'.G id=X.G id)∧(gu=true→X'.g=X.g)
def OpL (P:Program)(E:Env)(o:Oper)(F:List Nat)(gu:Bool)(X:FS)(e:Eff):Prop:=∀X',Agree o F gu X X'→OpE P E o X' e
structure EffOK (F:List Nat)(gu:Bool)(nx:Nat)(e:Eff):Prop where
 nw:∀i,i∈e.nw↔nx≤i∧i < nx+e.nw.length
 key:∀p∈e.u,p.1∈F∨p.1∈e.nw
 g:gu=false→e.g=none
theorem EffOK.one {nx:Nat}{F:List Nat}{v:AVal}:EffOK F false nx (one1 v):=⟨fun _=>by simp[one1];try omega,fun _ h=>by simp[one1]at h,fun _=>rfl⟩
theorem pure_L {P:Program}{E:Env}{o:Oper}{X:FS}{r:AVal}{F:List Nat}(hd:dstOk o.dst X.n)(h:PureOK P o.op (evT X.T) r):OpL P E o F false X (one1 r):=by
 intro X' ⟨hn,hx,_,_⟩
 refine OpE.pure (by rw[hn];exact hd) fun I ρ a w hr=>?_
 obtain⟨dst,op,T,pos,aft,gd⟩:=o
 exact h I ρ X'.D a.eval w dst T pos aft gd (fun x hxm=>by rw[←hx x hxm];exact hr.ev x)
section runs
variable {P : Program} {t : Nat} {i : TI} {w : World}
theorem run_loadAt_cell (h:TIok P t i)(ha:i.agg=false){b o:Nat}{v:Value}(hc:w.cell? ⟨b,o,none⟩=some v):(Instr.loadAt t (.pointer (some ⟨b,o,none⟩))).run P w=.ok v w:=by
 simp[Instr.loadAt,Instr.sureAddr,loadVar,h.run_agg,ha,hc]
theorem run_loadAt_agg (h:TIok P t i)(ha:i.agg=true){b o:Nat}{f:Nat→Value}(hc:∀j,j < i.size→w.cell? ⟨b,o+j,none⟩=some (f j)) :
  (Instr.loadAt t (.pointer (some ⟨b,o,none⟩))).run P w=.ok (.agg ((List.range i.size).map f).toArray) w:=by
 have:=run_loadCells (P:=P) (w:=w) ⟨b,o,none⟩ i.size f (fun j hj=>by rw[add_addr];exact hc j hj)
 simp[Instr.loadAt,Instr.sureAddr,loadVar,h.run_agg,ha,h.run_size,this]
theorem run_storeAt {b o:Nat}{v:Value}(h:TIok P t i)(hs:v.cells.size=i.size) :
  (Instr.storeAt t (.pointer (some ⟨b,o,none⟩)) v).run P w=(storeCells ⟨b,o,none⟩ v.cells.toList).run P w:=by
 simp[Instr.storeAt,Instr.sureAddr,storeVar,h.run_size,hs]
end runs
theorem putG_nil {G:Objs}:putG G []=G:=rfl
theorem putG_one {G:Objs}{id:Nat}{o:AObj}:putG G [(id,some o)]=G.upd id o:=rfl
theorem read_L {P:Program}{E:Env}{o:Oper}{X:FS}{v:AVal}{F:List Nat}(hd:dstOk o.dst X.n)
  (h:∀X',X'.n=X.n→(∀x∈o.op.operands,evT X'.T x=evT X.T x)→(∀id∈F,X'.G id=X.G id)→∀I ρ a w,RelT E I ρ X' a w→∃r,(execOp a.eval o).run P w=.ok (.value r) w∧CA I ρ X'.D v r) :
  OpL P E o F false X (one1 v):=by
 intro X' ⟨hn,hx,hf,_⟩
 exact OpE.pure (by rw[hn];exact hd) fun I ρ a w hr=>h X' hn hx hf I ρ a w hr
theorem tkid_cell {I:Imm}{l:List Tree}{k b o n cap:Nat}(h:TrsI I l (.slice (some ⟨b,o,none⟩) n cap))(hk:k < l.length):∃v,I.cell b (o+k)=some v∧TrI I (l.getD k .nil) v:=by
 rcases h with⟨_,h⟩|⟨b',o',cap',cs,h1,h2,h3,h4,h5⟩
 ·cases h
 ·cases h1
  refine⟨cs k,h4 k hk,?_⟩
  have:=h5 k hk
  rw[List.getD_eq_getElem?_getD,List.getElem?_eq_getElem hk]
  exact this
theorem alloc_L {P:Program}{E:Env}{o:Oper}{X:FS}{nx cap:Nat}{v:AVal}{ob:AObj}(hd:dstOk o.dst X.n)
  (h:∀X',X'.n=X.n→(∀x∈o.op.operands,evT X'.T x=evT X.T x)→∀I ρ a w,RelT E I ρ X' a w→¬X'.D nx→∃r obj,(execOp a.eval o).run P w=.ok (.value r) (w.alloc obj) ∧
   (∀ρ',ρ' nx=RB.mk w.heap.size cap false→(∀id,X'.D id→ρ' id=ρ id)→ORel I ρ' (dom X'.D nx) (fun b=>(w.alloc obj).heap[b]?) nx ob∧CA I ρ' (dom X'.D nx) v r)) :
  OpL P E o [] false X ⟨v,[(nx,some ob)],[nx],none⟩:=by
 intro X' ⟨hn,hx,hf,_⟩
 refine OpE.value (by rw[hn];exact hd) fun I ρ a w hr hfr=>?_
 have hnd:¬X'.D nx:=hfr nx (by simp)
 obtain⟨r,obj,h1,h2⟩:=h X' hn hx I ρ a w hr hnd
 have hdom:(fun i=>i∈[nx]∨X'.D i)=dom X'.D nx:=by funext i;simp[dom]
 refine⟨r,w.alloc obj,.inl h1,I,upd ρ nx ⟨w.heap.size,cap,false⟩,Imm.le_refl I,upd_ne hnd,?_,?_⟩
 ·simp only[hdom,putG_one,Option.getD_none]
  exact hr.rel.alloc hnd (fun r hr2=>by subst hr2;exact (h2 _ upd_same (upd_ne hnd)).1)
 ·simp only[hdom]
  exact (h2 _ upd_same (upd_ne hnd)).2
theorem cells_of_block {I:Imm}{ρ:Nat→RB}{D:Nat→Prop}{h:Nat→Option Obj}{id:Nat}{vs:List AVal}{cs:Array Value}{ty:Option TypeId}{T:TypeId}(hn:(ρ id).isnil=false)
  (hb:h (ρ id).blk=some (.cells cs (ty.getD T) (0,0))) (hc:CAs I ρ D vs cs):ORel I ρ D h id (.cellsT ty vs):=⟨hn,cs,T,hb,hc.1,hc.2⟩
theorem CAs.mono {I J:Imm}(h:I.le J){ρ ρ':Nat→RB}{D D':Nat→Prop}(hn:∀id,D id→D' id)(hρ:∀id,D id→ρ' id=ρ id){vs:List AVal}{cs:Array Value}(e:CAs I ρ D vs cs):CAs J ρ' D' vs cs :=
 ⟨e.1,fun i hi=>(e.2 i hi).mono h hn hρ⟩
theorem storeV_L {P:Program}{E:Env}{o:Oper}{X:FS}{id:Nat}{ob ob':AObj}{rv:AVal}(hd:dstOk o.dst X.n)(hg:X.G id=some ob)
  (h:∀X',X'.n=X.n→(∀x∈o.op.operands,evT X'.T x=evT X.T x)→X'.G id=some ob→∀I ρ a w,RelT E I ρ X' a w→∃v w',(execOp a.eval o).run P w=.ok (.value v) w'∧CA I ρ X'.D rv v∧(ρ id).isnil=false ∧
   World.env w'=World.env w∧w'.heap.size=w.heap.size∧(∀b,b≠(ρ id).blk→w'.heap[b]?=w.heap[b]?)∧ORel I ρ X'.D (fun b=>w'.heap[b]?) id ob') :
  OpL P E o [id] false X ⟨rv,[(id,some ob')],[],none⟩:=by
 intro X' ⟨hn,hx,hf,_⟩
 refine OpE.value (by rw[hn];exact hd) fun I ρ a w hr _=>?_
 have hg':X'.G id=some ob:=by rw[hf id (by simp)];exact hg
 obtain⟨v,w',h1,hv,h2,h3,h4,h5,h6⟩:=h X' hn hx hg' I ρ a w hr
 have hdom:(fun i=>i∈([]:List Nat)∨X'.D i)=X'.D:=by funext i;simp
 refine⟨v,w',.inl h1,I,ρ,Imm.le_refl I,fun _ _=>rfl,?_,?_⟩
 ·simp only[hdom,putG_one,Option.getD_none]
  exact hr.rel.write hg' h2 h3 (by omega) (fun b _ hb=>h5 b hb) h6
 ·simp only[hdom];exact hv
theorem store_L {P:Program}{E:Env}{o:Oper}{X:FS}{id:Nat}{ob ob':AObj}(hd:dstOk o.dst X.n)(hg:X.G id=some ob)
  (h:∀X',X'.n=X.n→(∀x∈o.op.operands,evT X'.T x=evT X.T x)→X'.G id=some ob→∀I ρ a w,RelT E I ρ X' a w→∃w',(execOp a.eval o).run P w=.ok .skip w'∧(ρ id).isnil=false ∧
   World.env w'=World.env w∧w'.heap.size=w.heap.size∧(∀b,b≠(ρ id).blk→w'.heap[b]?=w.heap[b]?)∧ORel I ρ X'.D (fun b=>w'.heap[b]?) id ob') :
  OpL P E o [id] false X ⟨.und,[(id,some ob')],[],none⟩:=by
 intro X' ⟨hn,hx,hf,_⟩
 refine OpE.value (by rw[hn];exact hd) fun I ρ a w hr _=>?_
 have hg':X'.G id=some ob:=by rw[hf id (by simp)];exact hg
 obtain⟨w',h1,h2,h3,h4,h5,h6⟩:=h X' hn hx hg' I ρ a w hr
 have hdom:(fun i=>i∈([]:List Nat)∨X'.D i)=X'.D:=by funext i;simp
 refine⟨undef,w',.inr ⟨h1,rfl⟩,I,ρ,Imm.le_refl I,fun _ _=>rfl,?_,.und⟩
 simp only[hdom,putG_one,Option.getD_none]
 exact hr.rel.write hg' h2 h3 (by omega) (fun b _ hb=>h5 b hb) h6
theorem rel_obj {E:Env}{I:Imm}{ρ:Nat→RB}{X:FS}{a:Act}{w:World}(h:RelT E I ρ X a w){id:Nat}{ob:AObj}(hg:X.G id=some ob):ORel I ρ X.D (fun b=>w.heap[b]?) id ob:=by
 obtain⟨own,h⟩:=h.rel
 exact h.obj id ob hg
end Go.Mq
namespace Go.Mq
open Go
theorem load_ok {P:Program}{E:Env}{tt:List (Nat×TI)}(htt:TTok P tt){dst:Option Tmp}{T:TypeId}{pos:String}{aft:Array Edge}{gd:Option (Nat×Bool)}{X:FS}{nx:Nat}{K:List Nat→Eff→Prop}{t:TypeId}{x:Operand}
  (hd:dstOk dst X.n) (h:memK tt (.load t x) (evT X.T) X.G nx K):∃F e,K F e∧EffOK F false nx e∧OpL P E ⟨dst,.load t x,T,pos,aft,gd⟩ F false X e:=by
 simp only[memK]at h
 split at h
 ·rename_i i hi
  have hT:=htt t i hi
  have hxm:x∈(Op.load t x).operands:=by simp[Op.operands]
  cases hag:i.agg with
  | true =>
   simp only[hag,cond_true]at h
   split at h
   ·rename_i u ht
    obtain⟨h1,h2,h3⟩:=h
    refine⟨_,_,h3,.one,read_L hd fun X' _ hx _ I ρ a w hr=>?_⟩
    have hv:=hr.ev x
    rw[hx x hxm,ht]at hv
    obtain⟨b,o,e⟩:=hv.tree.ptr h2
    have hv:=hv.tree
    rw[e]at hv
    obtain⟨_,_,c0,c1,c2,c3,kv,c4,c5⟩:=hv.open
    have hf:∀j,j < i.size→w.cell? ⟨b,o+j,none⟩=some ((#[.int .i64 u.kind,.int .i64 u.n,.string u.name,.string u.mark,kv]:Array Value).getD j undef):=by
     intro j hj
     rw[h1]at hj
     match j,hj with
     | 0,_=>exact Imm.cell_world hr.rel c0
     | 1,_=>exact Imm.cell_world hr.rel c1
     | 2,_=>exact Imm.cell_world hr.rel c2
     | 3,_=>exact Imm.cell_world hr.rel c3
     | 4,_=>exact Imm.cell_world hr.rel c4
    refine⟨_,by simp only[execOp,e,Sem.run_bind,run_loadAt_agg hT hag hf,Result.andThen_ok];rfl,.agg (by simp[h1]) ?_⟩
    intro j hj
    simp only[List.length_cons,List.length_nil]at hj
    rw[h1]
    match j,hj with
    | 0,_=>exact .d .int
    | 1,_=>exact .d .int
    | 2,_=>exact .d .str
    | 3,_=>exact .d .str
    | 4,_=>exact .d (.trees c5)
   ·rename_i n f off ht
    obtain⟨h1,h3⟩:=h
    refine⟨_,_,h3,.one,read_L hd fun X' _ hx _ I ρ a w hr=>?_⟩
    have hv:=hr.ev x
    rw[hx x hxm,ht]at hv
    generalize hvx:a.eval x=v at hv
    cases hv with
    | d hv =>
     cases hv with
     | ptr hc hdd =>
      rename_i b o cs
      have hf:∀j,j < i.size→w.cell? ⟨b,(o+off)+j,none⟩=some (cs (off+j)):=fun j hj=>by
       rw[Nat.add_assoc];exact Imm.cell_world hr.rel (hc _ (by omega))
      refine⟨_,by simp only[execOp,hvx,Sem.run_bind,run_loadAt_agg hT hag hf,Result.andThen_ok];rfl,.agg (by simp) ?_⟩
      intro j hj
      have hj':j < i.size:=by simpa using hj
      simp[hj']
      exact .d (hdd _ (by omega))
   ·rename_i id off ht
    split at h
    ·rename_i ty vs hg
     obtain⟨h1,h3⟩:=h
     refine⟨_,_,h3,.one,read_L hd fun X' _ hx hF I ρ a w hr=>?_⟩
     have hv:=hr.ev x
     rw[hx x hxm,ht]at hv
     have ho:=rel_obj hr (show X'.G id=some (.cellsT ty vs) by rw[hF id (by simp)];exact hg)
     obtain⟨hn,cs,T',hb,hl,hcs⟩:=ho
     generalize hvx:a.eval x=v at hv
     cases hv with
     | ref hid =>
      have hf:∀j,j < i.size→w.cell? ⟨(ρ id).blk,off+j,none⟩=some (cs.getD (off+j) undef):=fun j hj=>cell_of_block hb (by omega)
      refine⟨_,by simp only[execOp,hvx,Sem.run_bind,run_loadAt_agg hT hag hf,Result.andThen_ok];rfl,.agg (by simp;omega) ?_⟩
      intro j hj
      have hj':j < i.size:=by simp at hj;omega
      have hj2:off+j < vs.length:=by omega
      simp only[List.getElem_take,List.getElem_drop]
      simp[hj']
      have:=hcs (off+j) hj2
      simpa using this
    ·exact h.elim
   ·exact h.elim
  | false =>
   simp only[hag,cond_false]at h
   split at h
   ·rename_i u j ht
    have key:∀r,(∀I ρ D b o,TrI I u (.pointer (some ⟨b,o,none⟩))→∃z,I.cell b (o+j)=some z∧CA I ρ D r z)→OpL P E ⟨dst,.load t x,T,pos,aft,gd⟩ [] false X (one1 r):=by
     intro r hr'
     refine read_L hd fun X' _ hx _ I ρ a w hr=>?_
     have hv:=hr.ev x
     rw[hx x hxm,ht]at hv
     generalize hvx:a.eval x=v at hv
     cases hv with
     | d hv =>
      cases hv with
      | tfield htr =>
       obtain⟨z,h1,h2⟩:=hr' I ρ X'.D _ _ htr
       exact⟨z,by simp only[execOp,hvx,Sem.run_bind,run_loadAt_cell hT hag (Imm.cell_world hr.rel h1),Result.andThen_ok];rfl,h2⟩
    split at h
    ·exact⟨_,_,h,.one,key _ fun I ρ D b o htr=>⟨_,htr.open.2.2.1,.d .int⟩⟩
    ·exact⟨_,_,h,.one,key _ fun I ρ D b o htr=>⟨_,htr.open.2.2.2.1,.d .int⟩⟩
    ·exact⟨_,_,h,.one,key _ fun I ρ D b o htr=>⟨_,htr.open.2.2.2.2.1,.d .str⟩⟩
    ·exact⟨_,_,h,.one,key _ fun I ρ D b o htr=>⟨_,htr.open.2.2.2.2.2.1,.d .str⟩⟩
    ·exact⟨_,_,h,.one,key _ fun I ρ D b o htr=>by obtain⟨kv,h1,h2⟩:=htr.open.2.2.2.2.2.2;exact⟨kv,h1,.d (.trees h2)⟩⟩
    ·exact h.elim
   ·rename_i l k ht
    refine⟨_,_,h,.one,read_L hd fun X' _ hx _ I ρ a w hr=>?_⟩
    have hv:=hr.ev x
    rw[hx x hxm,ht]at hv
    generalize hvx:a.eval x=v at hv
    cases hv with
    | d hv =>
     cases hv with
     | tkid htr hk =>
      obtain⟨z,h1,h2⟩:=tkid_cell htr hk
      exact⟨z,by simp only[execOp,hvx,Sem.run_bind,run_loadAt_cell hT hag (Imm.cell_world hr.rel h1),Result.andThen_ok];rfl,.d (.tree h2)⟩
   ·rename_i n f off ht
    refine⟨_,_,h.2,.one,read_L hd fun X' _ hx _ I ρ a w hr=>?_⟩
    have hv:=hr.ev x
    rw[hx x hxm,ht]at hv
    generalize hvx:a.eval x=v at hv
    cases hv with
    | d hv =>
     cases hv with
     | ptr hc hdd =>
      exact⟨_,by simp only[execOp,hvx,Sem.run_bind,run_loadAt_cell hT hag (Imm.cell_world hr.rel (hc off h.1)),Result.andThen_ok];rfl,.d (hdd off h.1)⟩
   ·rename_i id off ht
    split at h
    ·rename_i ty vs hg
     split at h
     ·rename_i v hv0
      refine⟨_,_,h,.one,read_L hd fun X' _ hx hF I ρ a w hr=>?_⟩
      have hv:=hr.ev x
      rw[hx x hxm,ht]at hv
      have ho:=rel_obj hr (show X'.G id=some (.cellsT ty vs) by rw[hF id (by simp)];exact hg)
      obtain⟨hn,cs,T',hb,hl,hcs⟩:=ho
      obtain⟨hlt,hv1⟩:=List.getElem?_eq_some_iff.1 hv0
      generalize hvx:a.eval x=u at hv
      cases hv with
      | ref hid =>
       have hc:=cell_of_block hb (off:=off) (by omega)
       have:=hcs off hlt
       rw[hv1]at this
       exact⟨_,by simp only[execOp,hvx,Sem.run_bind,run_loadAt_cell hT hag hc,Result.andThen_ok];rfl,this⟩
     ·exact h.elim
    ·rename_i el r hg
     obtain⟨h1,h2,h3⟩:=h
     refine⟨_,_,h3,.one,read_L hd fun X' _ hx hF I ρ a w hr=>?_⟩
     have hv:=hr.ev x
     rw[hx x hxm,ht]at hv
     have ho:=rel_obj hr (show X'.G id=some (.row el r) by rw[hF id (by simp)];exact hg)
     rcases ho with⟨_,h0⟩|⟨hn,hc1,hc2,cs,hb,hl,hcs⟩
     ·omega
     generalize hvx:a.eval x=u at hv
     cases hv with
     | ref hid =>
      rw[h1,Nat.mul_one]at hl hcs
      have hc:=cell_of_block hb (off:=off) (by omega)
      exact⟨_,by simp only[execOp,hvx,Sem.run_bind,run_loadAt_cell hT hag hc,Result.andThen_ok];rfl,hcs off h2⟩
    ·exact h.elim
   ·exact h.elim
 ·exact h.elim
theorem setCell_env {w:World}{a:Addr}{v:Value}:World.env (w.setCell a v)=World.env w:=rfl
theorem size_one_cells {v:Value}(h:v.cells=#[v]):v.cells.size=1:=by rw[h];rfl
theorem run_store1 {P:Program}{w:World}{b off:Nat}{v:Value}{cs:Array Value}{T:TypeId}(hv:v.oneCell'=true∧v.cells=#[v])(hb:w.heap[b]?=some (.cells cs T (0,0)))(ho:off < cs.size) :
  (storeCells ⟨b,off,none⟩ v.cells.toList).run P w=.ok () (w.setCell ⟨b,off,none⟩ v):=by
 rw[hv.2]
 simp only[storeCells,add_addr,Nat.add_zero,Sem.run_bind]
 rw[run_store P w _ v _ hv.1,cell_of_block hb ho,frozen_of_block hb]
 rfl
theorem row_store {I:Imm}{ρ:Nat→RB}{D:Nat→Prop}{w:World}{id off:Nat}{el:TypeId}{r r':RowC}{u:Value}(ho:ORel I ρ D (fun b=>w.heap[b]?) id (.row el r))(hlt:off < r.len)
  (h1:r.sz=1) (h2:r'.sz=1) (hl:r'.len=r.len) (hc:∀i,i < r.len→i≠off→r'.cell i=r.cell i) (hv:CA I ρ D (r'.cell off) u) :
  (ρ id).isnil=false∧∃cs T,w.heap[(ρ id).blk]?=some (.cells cs T (0,0))∧off < cs.size∧ORel I ρ D (fun b=>(w.setCell ⟨(ρ id).blk,off,none⟩ u).heap[b]?) id (.row el r'):=by
 rcases ho with⟨_,h0⟩|⟨hn,hc1,hc2,cs,hb,hsz,hcs⟩
 ·omega
 ·refine⟨hn,cs,el,hb,by rw[hsz,h1];omega,.inr ⟨hn,by rw[hl];exact hc1,by rw[hl];exact hc2,_,heap_setCell_at hb,by simp[hsz,h1,h2],?_⟩⟩
  intro i hi
  rw[hl,h2,Nat.mul_one]at hi
  rw[h1,Nat.mul_one]at hcs hsz
  by_cases e:i=off
  ·subst e
   have:i < cs.size:=by omega
   simpa [this] using hv
  ·rw[hc i hi e]
   have:=hcs i hi
   simpa [Ne.symm e] using this
theorem store_ok {P:Program}{E:Env}{tt:List (Nat×TI)}(htt:TTok P tt){dst:Option Tmp}{T:TypeId}{pos:String}{aft:Array Edge}{gd:Option (Nat×Bool)}{X:FS}{nx:Nat}{K:List Nat→Eff→Prop}{t:TypeId}{p x:Operand}
  (hd:dstOk dst X.n) (h:memK tt (.store t p x) (evT X.T) X.G nx K):∃F e,K F e∧EffOK F false nx e∧OpL P E ⟨dst,.store t p x,T,pos,aft,gd⟩ F false X e:=by
 simp only[memK]at h
 have hpm:p∈(Op.store t p x).operands:=by simp[Op.operands]
 have hxm:x∈(Op.store t p x).operands:=by simp[Op.operands]
 split at h
 ·rename_i i id off hi hp
  have hT:=htt t i hi
  split at h
  ·rename_i vs hg
   cases hag:i.agg with
   | true =>
    simp only[hag,cond_true]at h
    split at h
    ·rename_i l hxl
     obtain⟨h1,h2,h3,h4⟩:=h
     refine⟨_,_,h4,⟨fun i=>by simp;try omega,by simp,fun _=>rfl⟩,store_L hd hg fun X' _ hx hg' I ρ a w hr=>?_⟩
     have hv:=hr.ev p
     rw[hx p hpm,hp]at hv
     have hu:=hr.ev x
     rw[hx x hxm,hxl]at hu
     have ho:=rel_obj hr hg'
     obtain⟨hn,cs,T',hb,hl,hcs⟩:=ho
     obtain⟨us,e2,hus⟩:=hu.agg_inv
     generalize hvx:a.eval p=v at hv
     cases hv with
     | ref hid =>
      have hall:All2 I ρ X'.D l us.toList:=All2.of l us.toList (by simpa using hus.1) (fun i hi=>by simpa using hus.2 i hi)
      have hone:∀v∈us.toList,v.oneCell'=true:=by
       intro v hv
       obtain⟨j,hj,hje⟩:=List.getElem_of_mem hv
       have hj':j < l.length:=by have:=hus.1;simp at hj;omega
       have h5:=hus.2 j hj'
       have h6:(l[j]).one=true:=by rw[List.all_eq_true]at h3;exact h3 _ (List.getElem_mem hj')
       have h7:=(h5.one h6).1
       have:us.getD j undef=v:=by simp at hj;simp[hj]at hje ⊢;exact hje
       rwa [this]at h7
      obtain⟨w',r1,r2,r3,r4,r5⟩:=run_storeCells (P:=P) (b:=(ρ id).blk) (off:=off) us.toList hone 0 w cs hb (by have:=hus.1;simp;omega)
      refine⟨w',?_,hn,r3,r4,r5,hn,_,T',r2,?_,?_⟩
      ·have:(Instr.storeAt t (.pointer (some ⟨(ρ id).blk,off,none⟩)) (.agg us)).run P w=.ok () w':=by
        rw[run_storeAt hT (by simp[Value.cells,hus.1,h1])];exact r1
       simp only[execOp,hvx,e2,Sem.run_bind,this,Result.andThen_ok];rfl
      ·have h8:=CAs.spl (o:=off) (vs:=vs) (cs:=cs) ⟨hl,hcs⟩ hall
       simpa using h8.1
      ·have h8:=CAs.spl (o:=off) (vs:=vs) (cs:=cs) ⟨hl,hcs⟩ hall
       simpa using h8.2
    ·exact h.elim
   | false =>
    simp only[hag,cond_false]at h
    obtain⟨h1,h2,h3,h4⟩:=h
    refine⟨_,_,h4,⟨fun i=>by simp;try omega,by simp,fun _=>rfl⟩,store_L hd hg fun X' _ hx hg' I ρ a w hr=>?_⟩
    have hv:=hr.ev p
    rw[hx p hpm,hp]at hv
    have hu:=hr.ev x
    rw[hx x hxm]at hu
    have ho:=rel_obj hr hg'
    obtain⟨hn,cs,T',hb,hl,hcs⟩:=ho
    have hone:=hu.one h2
    generalize hvx:a.eval p=v at hv
    cases hv with
    | ref hid =>
     refine⟨w.setCell ⟨(ρ id).blk,off,none⟩ (a.eval x),?_,hn,setCell_env,by simp,fun b hb'=>heap_setCell_ne hb',hn,_,T',heap_setCell_at hb,?_⟩
     ·have:(Instr.storeAt t (.pointer (some ⟨(ρ id).blk,off,none⟩)) (a.eval x)).run P w=.ok () (w.setCell ⟨(ρ id).blk,off,none⟩ (a.eval x)):=by
       rw[run_storeAt hT (by rw[size_one_cells hone.2,h1])];exact run_store1 hone hb (by omega)
      simp only[execOp,hvx,Sem.run_bind,this,Result.andThen_ok];rfl
     ·exact CAs.set ⟨hl,hcs⟩ off hu
  ·rename_i el l hg
   obtain⟨hag,h1,h2,h3⟩:=h
   split at h3
   ·rename_i u hxl
    refine⟨_,_,h3,⟨fun i=>by simp;try omega,by simp,fun _=>rfl⟩,store_L hd hg fun X' _ hx hg' I ρ a w hr=>?_⟩
    have hv:=hr.ev p
    rw[hx p hpm,hp]at hv
    have hu:=hr.ev x
    rw[hx x hxm,hxl]at hu
    have ho:=rel_obj hr hg'
    have hone:=hu.one rfl
    generalize hvx:a.eval p=v at hv
    cases hv with
    | ref hid =>
     obtain⟨hn,cs,T',hb,hlt,ho'⟩:=row_store (r:=.trees l) (r':=.trees (l.set off u)) (u:=a.eval x) ho h2 rfl rfl (by simp[RowC.len]) (fun i hi he=>by simp[RowC.cell,Ne.symm he]) (by simp[RowC.cell,h2];exact hu)
     refine⟨w.setCell ⟨(ρ id).blk,off,none⟩ (a.eval x),?_,hn,setCell_env,by simp,fun b hb'=>heap_setCell_ne hb',ho'⟩
     have:(Instr.storeAt t (.pointer (some ⟨(ρ id).blk,off,none⟩)) (a.eval x)).run P w=.ok () (w.setCell ⟨(ρ id).blk,off,none⟩ (a.eval x)):=by
      rw[run_storeAt hT (by rw[size_one_cells hone.2,h1])];exact run_store1 hone hb hlt
     simp only[execOp,hvx,Sem.run_bind,this,Result.andThen_ok];rfl
   ·exact h3.elim
  ·rename_i el k l hg
   obtain⟨hag,h1,h2,h3⟩:=h
   split at h3
   ·rename_i k' u hxl
    obtain⟨rfl,h3⟩:=h3
    refine⟨_,_,h3,⟨fun i=>by simp;try omega,by simp,fun _=>rfl⟩,store_L hd hg fun X' _ hx hg' I ρ a w hr=>?_⟩
    have hv:=hr.ev p
    rw[hx p hpm,hp]at hv
    have hu:=hr.ev x
    rw[hx x hxm,hxl]at hu
    have ho:=rel_obj hr hg'
    have hone:=hu.one rfl
    generalize hvx:a.eval p=v at hv
    cases hv with
    | ref hid =>
     obtain⟨hn,cs,T',hb,hlt,ho'⟩:=row_store (r:=.ints k l) (r':=.ints k (l.set off u)) (u:=a.eval x) ho h2 rfl rfl (by simp[RowC.len]) (fun i hi he=>by simp[RowC.cell,Ne.symm he]) (by simp[RowC.cell,h2];exact hu)
     refine⟨w.setCell ⟨(ρ id).blk,off,none⟩ (a.eval x),?_,hn,setCell_env,by simp,fun b hb'=>heap_setCell_ne hb',ho'⟩
     have:(Instr.storeAt t (.pointer (some ⟨(ρ id).blk,off,none⟩)) (a.eval x)).run P w=.ok () (w.setCell ⟨(ρ id).blk,off,none⟩ (a.eval x)):=by
      rw[run_storeAt hT (by rw[size_one_cells hone.2,h1])];exact run_store1 hone hb hlt
     simp only[execOp,hvx,Sem.run_bind,this,Result.andThen_ok];rfl
   ·exact h3.elim
  ·rename_i el l hg
   obtain⟨hag,h1,h2,h3⟩:=h
   split at h3
   ·rename_i u hxl
    refine⟨_,_,h3,⟨fun i=>by simp;try omega,by simp,fun _=>rfl⟩,store_L hd hg fun X' _ hx hg' I ρ a w hr=>?_⟩
    have hv:=hr.ev p
    rw[hx p hpm,hp]at hv
    have hu:=hr.ev x
    rw[hx x hxm,hxl]at hu
    have ho:=rel_obj hr hg'
    have hone:=hu.one rfl
    generalize hvx:a.eval p=v at hv
    cases hv with
    | ref hid =>
     obtain⟨hn,cs,T',hb,hlt,ho'⟩:=row_store (r:=.bools l) (r':=.bools (l.set off u)) (u:=a.eval x) ho h2 rfl rfl (by simp[RowC.len]) (fun i hi he=>by simp[RowC.cell,Ne.symm he]) (by simp[RowC.cell,h2];exact hu)
     refine⟨w.setCell ⟨(ρ id).blk,off,none⟩ (a.eval x),?_,hn,setCell_env,by simp,fun b hb'=>heap_setCell_ne hb',ho'⟩
     have:(Instr.storeAt t (.pointer (some ⟨(ρ id).blk,off,none⟩)) (a.eval x)).run P w=.ok () (w.setCell ⟨(ρ id).blk,off,none⟩ (a.eval x)):=by
      rw[run_storeAt hT (by rw[size_one_cells hone.2,h1])];exact run_store1 hone hb hlt
     simp only[execOp,hvx,Sem.run_bind,this,Result.andThen_ok];rfl
   ·exact h3.elim
  ·exact h.elim
 ·exact h.elim
theorem zero_CAs {I:Imm}{ρ:Nat→RB}{D:Nat→Prop}(cs:Array Value):CAs I ρ D (cs.toList.map ofV) cs:=by
 refine⟨by simp,fun i hi=>?_⟩
 have:i < cs.size:=by simpa using hi
 simp[this]
 exact ofV_ok _
theorem newVar_run {P:Program}{w:World}{t:TypeId}{v:Value}:(newVar t v).run P w=.ok ⟨w.heap.size,0,none⟩ (w.alloc (.cells v.cells t)):=by
 simp[newVar,newRow]
theorem alloc_ok {P:Program}{E:Env}{tt:List (Nat×TI)}(htt:TTok P tt){dst:Option Tmp}{T:TypeId}{pos:String}{aft:Array Edge}{gd:Option (Nat×Bool)}{X:FS}{nx:Nat}{K:List Nat→Eff→Prop}{t:TypeId}
  (hd:dstOk dst X.n) (h:memK tt (.alloc t) (evT X.T) X.G nx K):∃F e,K F e∧EffOK F false nx e∧OpL P E ⟨dst,.alloc t,T,pos,aft,gd⟩ F false X e:=by
 simp only[memK]at h
 split at h
 ·rename_i i hi
  have hT:=htt t i hi
  refine⟨_,_,h,⟨fun i=>by simp;try omega,by simp,fun _=>rfl⟩,alloc_L (cap:=0) hd fun X' _ hx I ρ a w hr hnd=>?_⟩
  refine⟨.pointer (some ⟨w.heap.size,0,none⟩),.cells i.zero.cells t,?_,fun ρ' h1 h2=>⟨?_,?_⟩⟩
  ·simp[execOp,Instr.alloc,hT.run_zero,newVar_run]
  ·exact cells_of_block (by rw[h1]) (by rw[h1];exact heap_alloc_new) (zero_CAs _)
  ·have:=CA.ref (I:=I) (ρ:=ρ') (D:=dom X'.D nx) (id:=nx) (off:=0) (.inl rfl)
   rw[h1]at this;exact this
 ·exact h.elim
theorem box_ok {P:Program}{E:Env}{tt:List (Nat×TI)}{dst:Option Tmp}{T:TypeId}{pos:String}{aft:Array Edge}{gd:Option (Nat×Bool)}{X:FS}{nx:Nat}{K:List Nat→Eff→Prop}{t:TypeId}{x:Operand}
  (hd:dstOk dst X.n) (h:memK tt (.box t x) (evT X.T) X.G nx K):∃F e,K F e∧EffOK F false nx e∧OpL P E ⟨dst,.box t x,T,pos,aft,gd⟩ F false X e:=by
 simp only[memK]at h
 have hxm:x∈(Op.box t x).operands:=by simp[Op.operands]
 split at h
 ·rename_i l ht
  have key:∀ty:Option TypeId,(∀u,ty=some u→u=t)→OpL P E ⟨dst,.box t x,T,pos,aft,gd⟩ [] false X ⟨.ref nx 0,[(nx,some (.cellsT ty l))],[nx],none⟩:=by
   intro ty hty
   refine alloc_L (cap:=0) hd fun X' _ hx I ρ a w hr hnd=>?_
   have hv:=hr.ev x
   rw[hx x hxm,ht]at hv
   obtain⟨us,e,hus⟩:=hv.agg_inv
   refine⟨.pointer (some ⟨w.heap.size,0,none⟩),.cells us t,?_,fun ρ' h1 h2=>⟨?_,?_⟩⟩
   ·simp[execOp,Instr.box,e,newVar_run,Value.cells]
   ·refine cells_of_block (T:=t) (by rw[h1]) ?_ (hus.mono (Imm.le_refl I) (fun _=>.inr) h2)
    have:ty.getD t=t:=by cases ty with
     | none=>rfl
     | some u=>exact hty u rfl
    rw[this,h1];exact heap_alloc_new
   ·have:=CA.ref (I:=I) (ρ:=ρ') (D:=dom X'.D nx) (id:=nx) (off:=0) (.inl rfl)
    rw[h1]at this;exact this
  have eok:∀ob,EffOK [] false nx ⟨.ref nx 0,[(nx,some ob)],[nx],none⟩:=fun ob=>⟨fun i=>by simp;try omega,by simp,fun _=>rfl⟩
  cases hty:typedB tt t with
  | true =>
   rw[hty,cond_true]at h
   exact⟨_,_,h,eok _,key (some t) fun u hu=>by cases hu;rfl⟩
  | false =>
   rw[hty,cond_false]at h
   exact⟨_,_,h,eok _,key none fun u hu=>by cases hu⟩
 ·rename_i hne
  obtain⟨h1,h2⟩:=h
  refine⟨_,_,h2,⟨fun i=>by simp;try omega,by simp,fun _=>rfl⟩,alloc_L (cap:=0) hd fun X' _ hx I ρ a w hr hnd=>?_⟩
  have hv:=hr.ev x
  rw[hx x hxm]at hv
  have hone:=hv.one h1
  refine⟨.pointer (some ⟨w.heap.size,0,none⟩),.cells #[a.eval x] t,?_,fun ρ' h3 h4=>⟨?_,?_⟩⟩
  ·simp[execOp,Instr.box,newVar_run,hone.2]
  ·refine cells_of_block (by rw[h3]) (by rw[h3];exact heap_alloc_new) ⟨rfl,fun i hi=>?_⟩
   have:i=0:=by simpa using hi
   subst this
   exact hv.mono (Imm.le_refl I) (fun _=>.inr) h4
  ·have:=CA.ref (I:=I) (ρ:=ρ') (D:=dom X'.D nx) (id:=nx) (off:=0) (.inl rfl)
   rw[h3]at this;exact this
theorem Rel.renew {E:Env}{I:Imm}{ρ:Nat→RB}{D:Nat→Prop}{G:Objs}{g:Ghost}{w w':World}(h:Rel E I ρ D G g w){old:Option Nat}{nx:Nat}(hnx:¬D nx)(hold:∀id,old=some id→∃o,G id=some o)(r:RB)
  (henv:World.env w'=World.env w) (hsz:w.heap.size≤w'.heap.size)
  (hb:∀b,b < w.heap.size→(∀id,old=some id→(ρ id).isnil=false→b≠(ρ id).blk)→w'.heap[b]?=w.heap[b]?)
  (hr:r.isnil=false→r.blk < w'.heap.size∧(w.heap.size≤r.blk∨∃id,old=some id∧(ρ id).isnil=false∧r.blk=(ρ id).blk)) {ob:AObj}
  (ho:ORel I (upd ρ nx r) (dom D nx) (fun b=>w'.heap[b]?) nx ob) :
  Rel E I (upd ρ nx r) (dom D nx) (fun i=>if i=nx then some ob else if old=some i then none else G i) g w':=by
 obtain⟨own,h⟩:=h
 have hoo:∀id,old=some id→(ρ id).isnil=false→own (ρ id).blk=.obj id:=fun id hid hn=>by
  obtain⟨o,ho⟩:=hold id hid
  exact h.ownd id o ho hn
 have hsafe:∀b,own b≠.free→(∀id,old=some id→own b≠.obj id)→w'.heap[b]?=w.heap[b]?:=by
  intro b hb1 hb2
  refine hb b (h.lt b hb1) fun id hid hn e=>?_
  exact hb2 id hid (by rw[e];exact hoo id hid hn)
 have hrblk:∀b,own b≠.free→(∀id,old=some id→own b≠.obj id)→r.isnil=false→b≠r.blk:=by
  intro b hb1 hb2 hn e
  rcases (hr hn).2 with hge|⟨id,hid,hn2,e2⟩
  ·have:=h.lt b hb1;omega
  ·exact hb2 id hid (by rw[e,e2];exact hoo id hid hn2)
 let own':Nat→Own:=fun b=>if r.isnil=false∧b=r.blk then .obj nx else (match own b with | .obj i=>if old=some i then .free else .obj i|o=>o)
 have hown':∀b,own b≠.free→(∀id,old=some id→own b≠.obj id)→own' b=own b:=by
  intro b hb1 hb2
  show (if r.isnil=false∧b=r.blk then Own.obj nx else _)=_
  rw[if_neg (fun e=>hrblk b hb1 hb2 e.1 e.2)]
  cases hob:own b with
  | obj i=>simp only[];rw[if_neg (fun e=>hb2 i e hob)]
  | _=>rfl
 refine⟨own',⟨henv.trans h.env,?_,?_,?_,?_,?_,?_⟩⟩
 ·intro b hb'
  by_cases e:r.isnil=false∧b=r.blk
  ·rw[e.2];exact (hr e.1).1
  ·have:own b≠.free:=by
    intro e2
    apply hb'
    show (if r.isnil=false∧b=r.blk then Own.obj nx else _)=_
    rw[if_neg e,e2]
   have:=h.lt b this
   omega
 ·intro b c hc
  obtain⟨h1,h2⟩:=h.imm b c hc
  have ha:own b≠.free:=by rw[h1];intro e;cases e
  have hb2:∀id,old=some id→own b≠.obj id:=fun id _=>by rw[h1];intro e;cases e
  exact⟨(hown' b ha hb2).trans h1,by rw[hsafe b ha hb2];exact h2⟩
 ·intro i o e
  split at e
  ·exact .inl ‹_›
  ·split at e
   ·cases e
   ·exact .inr (h.key i o e)
 ·intro i o e
  split at e
  ·rename_i e2;subst e2;cases e;exact ho
  ·split at e
   ·cases e
   ·rename_i hne
    refine ORel.mono (Imm.le_refl I) (fun _=>.inr) (upd_ne hnx) (h.key i o e) ?_ (h.obj i o e)
    intro hn
    have h1:=h.ownd i o e hn
    exact hsafe _ (by rw[h1];intro e;cases e) (fun id hid=>by rw[h1];intro e3;cases e3;exact hne hid)
 ·intro i o e hn
  split at e
  ·rename_i e2;subst e2
   rw[upd_same]at hn ⊢
   show (if r.isnil=false∧r.blk=r.blk then Own.obj i else _)=_
   rw[if_pos ⟨hn,rfl⟩]
  ·split at e
   ·cases e
   ·rename_i hne
    rw[upd_ne hnx i (h.key i o e)]at hn ⊢
    have h1:=h.ownd i o e hn
    rw[hown' _ (by rw[h1];intro e;cases e) (fun id hid=>by rw[h1];intro e3;cases e3;exact hne hid)]
    exact h1
 ·have:gheap own' w'=gheap own w:=by
   funext b
   unfold gheap
   cases hob:own b with
   | gst =>
    have ha:own b≠.free:=by rw[hob];intro e;cases e
    have hb2:∀id,old=some id→own b≠.obj id:=fun id _=>by rw[hob];intro e;cases e
    rw[hown' b ha hb2,hob]
    exact hsafe b ha hb2
   | _ =>
    have:own' b≠.gst:=by
     show (if r.isnil=false∧b=r.blk then Own.obj nx else _)≠_
     split
     ·intro e;cases e
     ·rw[hob];simp only[];first|(intro e;cases e;done)|(split<;>(intro e;cases e))
    cases ho':own' b with
    | gst=>exact absurd ho' this
    | _=>rfl
  rw[this];exact h.gst
def rowOf (l:List AVal)(n sz:Nat):RowC :=
 bif Nat.beq sz 1 then
  match l with
  | .d (.tree _)::_=>(match allTrees l with|some r=>.trees r|none=>.gen n 1 fun i=>l.getD i .any)
  | .d (.str _)::_=>(match allStrs l with|some r=>.strs r|none=>.gen n 1 fun i=>l.getD i .any)
  | .d (.int k _)::_=>(match allInts k l with|some r=>.ints k r|none=>.gen n 1 fun i=>l.getD i .any)
  | _=>.gen n 1 fun i=>l.getD i .any
 else .gen n sz fun i=>l.getD i .any
theorem foldl_zipIdx (off:Nat):∀(l:List Value) (k:Nat) (cs:Array Value),(l.zipIdx k).foldl (fun cs (p:Value×Nat)=>cs.setIfInBounds (off+p.2) p.1) cs=splV cs (off+k) l
 | [],_,_=>rfl
 | v::r,k,cs=>by
  simp only[List.zipIdx_cons,List.foldl_cons,splV]
  rw[foldl_zipIdx off r (k+1)]
  rfl
theorem fill_ok {I:Imm}{ρ:Nat→RB}{D:Nat→Prop}{offs:List (Nat×Nat)}{place:Nat→Option (Nat×Nat)}(hp:∀j p,offs[j]?=some p→place j=some p) :
  ∀(ps:List (Nat×AVal)) (qs:List (Nat×Value)) (vs r:List AVal) (cs:Array Value),CAs I ρ D vs cs→ps.map (·.1)=qs.map (·.1)→All2 I ρ D (ps.map (·.2)) (qs.map (·.2))→fillA offs vs ps=some r →
   ∃cs',Instr.fill place cs qs=some cs'∧CAs I ρ D r cs'
 | [],[],vs,r,cs,h,_,_,hf=>by simp[fillA]at hf;subst hf;exact⟨cs,rfl,h⟩
 | [],_::_,_,_,_,_,h,_,_=>by simp at h
 | _::_,[],_,_,_,_,h,_,_=>by simp at h
 | (j,x)::ps,(k,v)::qs,vs,r,cs,h,hm,ha,hf=>by
  simp only[List.map_cons,List.cons.injEq]at hm
  obtain⟨rfl,hm⟩:=hm
  obtain⟨hv,ha⟩:=ha
  simp only[]at hv
  simp only[fillA]at hf
  split at hf
  ·cases hf
  ·rename_i o s ho
   have hpl:=hp j _ ho
   split at hf
   ·rename_i l
    rw[Bool.cond_eq_ite]at hf
    split at hf
    ·rename_i hc
     simp only[Bool.and_eq_true]at hc
     replace hc:l.length=s∧o+s≤vs.length:=⟨Nat.eq_of_beq_eq_true hc.1,Nat.le_of_ble_eq_true hc.2⟩
     obtain⟨us,rfl,hus⟩:=hv.agg_inv
     have h2:All2 I ρ D l us.toList:=All2.of l us.toList (by simpa using hus.1) (fun i hi=>by simpa using hus.2 i hi)
     obtain⟨cs',h3,h4⟩:=fill_ok hp ps qs _ r _ (CAs.spl (o:=o) h h2) hm ha hf
     refine⟨cs',?_,h4⟩
     have e1:us.size=s:=by rw[hus.1];exact hc.1
     have e2:¬(o+us.size > cs.size):=by rw[h.1,e1];omega
     have e3:us.zipIdx.foldl (fun cs (p:Value×Nat)=>cs.setIfInBounds (o+p.2) p.1) cs=splV cs o us.toList:=by
      have:=foldl_zipIdx o us.toList 0 cs
      rw[Nat.add_zero]at this
      rw[←this,←Array.toList_zipIdx,Array.foldl_toList]
     subst e1
     have e4:¬cs.size < o+us.size:=by omega
     simp[Instr.fill,hpl,Value.cells,e4]
     have e5:us.zipIdx.size=us.size:=by simp
     rw[←e5]
     rw[e3];exact h3
    ·cases hf
   ·rename_i hne
    rw[Bool.cond_eq_ite]at hf
    split at hf
    ·rename_i hc
     simp only[Bool.and_eq_true]at hc
     replace hc:(x.one=true∧s=1)∧o < vs.length:=⟨⟨hc.1.1,Nat.eq_of_beq_eq_true hc.1.2⟩,Nat.le_of_ble_eq_true hc.2⟩
     have h1:=hv.one hc.1.1
     obtain⟨cs',h3,h4⟩:=fill_ok hp ps qs _ r _ (CAs.set h o hv) hm ha hf
     refine⟨cs',?_,h4⟩
     simp only[Instr.fill,hpl,h1.2]
     have e5:=h.1
     have e6:o < cs.size:=by omega
     have e7:s=1:=hc.1.2
     subst e7
     simpa [Nat.succ_le_of_lt e6,Nat.not_lt_of_le (Nat.succ_le_of_lt e6)] using h3
    ·cases hf
theorem build_ok {P:Program}{E:Env}{tt:List (Nat×TI)}(htt:TTok P tt){dst:Option Tmp}{T:TypeId}{pos:String}{aft:Array Edge}{gd:Option (Nat×Bool)}{X:FS}{nx:Nat}{K:List Nat→Eff→Prop}{t:TypeId}{ps:Array (Nat×Operand)}
  (hd:dstOk dst X.n) (h:memK tt (.build t ps) (evT X.T) X.G nx K):∃F e,K F e∧EffOK F false nx e∧OpL P E ⟨dst,.build t ps,T,pos,aft,gd⟩ F false X e:=by
 simp only[memK,forceL_eq,fillK_eq]at h
 split at h
 ·rename_i i hi
  have hT:=htt t i hi
  split at h
  ·rename_i n e hfs
   split at h
   ·rename_i l hl
    refine⟨_,_,h,.one,read_L hd fun X' _ hx _ I ρ a w hr=>?_⟩
    obtain⟨ti,hti,hsize,_,hzero⟩:=hT.info
    obtain⟨te,hte,hesz⟩:=hT.arr n e hfs
    have hall:All2 I ρ X'.D ((ps.toList.map fun p=>(p.1,evT X.T p.2)).map (·.2)) ((ps.map fun (i,x)=>(i,a.eval x)).toList.map (·.2)):=by
     refine All2.of _ _ (by simp) fun j hj=>?_
     have hj':j < ps.size:=by simpa using hj
     have hm:ps[j].2∈(Op.build t ps).operands:=by
      simp only[Op.operands,List.mem_toArray,List.mem_map]
      exact⟨ps[j],by simp,rfl⟩
     have:=hr.ev ps[j].2
     rw[hx _ hm]at this
     simp[hj']
     exact this
    obtain⟨cs',h1,h2⟩:=fill_ok (place:=fun k=>some (k*i.esz,i.esz)) (by
      intro j p hp
      rw[List.getElem?_map]at hp
      by_cases hj:j < n
      ·simp[hj]at hp;subst hp;rfl
      ·simp[hj]at hp) _ _ _ l i.zero.cells (zero_CAs (I:=I) (ρ:=ρ) (D:=X'.D) i.zero.cells) (by simp) hall hl
    have hb:P.built t (ps.map fun (i,x)=>(i,a.eval x)).toList=some cs':=by
     unfold Program.built
     have hu:=hT.und
     rw[hfs]at hu
     simp only[hti,hu,hzero,hte,hesz]
     exact h1
    refine⟨.agg cs',?_,.agg h2.1 h2.2⟩
    simp only[execOp,Sem.run_bind,run_build w t _ cs' hb,Result.andThen_ok]
    rfl
   ·exact h.elim
  ·obtain⟨hs,h⟩:=h
   have hst:∃fs,i.desc=.struct fs:=by
    cases hdd:i.desc<;>rw[hdd]at hs<;>first|exact⟨_,rfl⟩|exact hs.elim
   obtain⟨fs,hfs⟩:=hst
   split at h
   ·rename_i l hl
    refine⟨_,_,h,.one,read_L hd fun X' _ hx _ I ρ a w hr=>?_⟩
    obtain⟨ti,hti,hsize,_,hzero⟩:=hT.info
    have hall:All2 I ρ X'.D ((ps.toList.map fun p=>(p.1,evT X.T p.2)).map (·.2)) ((ps.map fun (i,x)=>(i,a.eval x)).toList.map (·.2)):=by
     refine All2.of _ _ (by simp) fun j hj=>?_
     have hj':j < ps.size:=by simpa using hj
     have hm:ps[j].2∈(Op.build t ps).operands:=by
      simp only[Op.operands,List.mem_toArray,List.mem_map]
      exact⟨ps[j],by simp,rfl⟩
     have:=hr.ev ps[j].2
     rw[hx _ hm]at this
     simp[hj']
     exact this
    obtain⟨cs',h1,h2⟩:=fill_ok (place:=fun x=>i.offs.toArray[x]?) (by simp) _ _ _ l i.zero.cells (zero_CAs (I:=I) (ρ:=ρ) (D:=X'.D) i.zero.cells) (by simp) hall hl
    have hb:P.built t (ps.map fun (i,x)=>(i,a.eval x)).toList=some cs':=by
     unfold Program.built
     have hu:=hT.und
     rw[hfs]at hu
     simp only[hti,hu,hzero,hT.offm fs hfs]
     exact h1
    refine⟨.agg cs',?_,.agg h2.1 h2.2⟩
    simp only[execOp,Sem.run_bind,run_build w t _ cs' hb,Result.andThen_ok]
    rfl
   ·exact h.elim
 ·exact h.elim
theorem allTrees_ok:∀{l:List AVal} {r:List Tree},allTrees l=some r→r.length=l.length∧∀i,i < l.length→l.getD i .any=.d (.tree (r.getD i .nil))
 | [],r,h=>by simp[allTrees]at h;subst h;exact⟨rfl,fun i hi=>by simp at hi⟩
 | x::l,r,h=>by
  cases x with
  | d y =>
   cases y with
   | tree t =>
    cases hr:allTrees l with
    | none=>simp[allTrees,hr]at h
    | some r' =>
     simp[allTrees,hr]at h
     subst h
     have ih:=allTrees_ok hr
     refine⟨by simp[ih.1],fun i hi=>?_⟩
     cases i with
     | zero=>rfl
     | succ i=>simpa using ih.2 i (by simpa using hi)
   | _=>simp[allTrees]at h
  | _=>simp[allTrees]at h
theorem allStrs_ok:∀{l:List AVal} {r:List ByteArray},allStrs l=some r→r.length=l.length∧∀i,i < l.length→l.getD i .any=.d (.str (r.getD i ByteArray.empty))
 | [],r,h=>by simp[allStrs]at h;subst h;exact⟨rfl,fun i hi=>by simp at hi⟩
 | x::l,r,h=>by
  cases x with
  | d y =>
   cases y with
   | str t =>
    cases hr:allStrs l with
    | none=>simp[allStrs,hr]at h
    | some r' =>
     simp[allStrs,hr]at h
     subst h
     have ih:=allStrs_ok hr
     refine⟨by simp[ih.1],fun i hi=>?_⟩
     cases i with
     | zero=>rfl
     | succ i=>simpa using ih.2 i (by simpa using hi)
   | _=>simp[allStrs]at h
  | _=>simp[allStrs]at h
theorem allInts_ok {k:IntKind}:∀{l:List AVal} {r:List Int},allInts k l=some r→r.length=l.length∧∀i,i < l.length→l.getD i .any=.d (.int k (r.getD i 0))
 | [],r,h=>by simp[allInts]at h;subst h;exact⟨rfl,fun i hi=>by simp at hi⟩
 | x::l,r,h=>by
  cases x with
  | d y =>
   cases y with
   | int k' t =>
    by_cases hk:k=k'
    case neg=>simp[allInts,hk]at h
    subst hk
    cases hr:allInts k l with
    | none=>simp[allInts,hr]at h
    | some r' =>
     simp[allInts,hr]at h
     subst h
     have ih:=allInts_ok hr
     refine⟨by simp[ih.1],fun i hi=>?_⟩
     cases i with
     | zero=>rfl
     | succ i=>simpa using ih.2 i (by simpa using hi)
   | _=>simp[allInts]at h
  | _=>simp[allInts]at h
theorem rowOf_ok {l:List AVal}{n sz:Nat}(hl:l.length=n*sz):(rowOf l n sz).len=n∧(rowOf l n sz).sz=sz∧∀i,i < n*sz→(rowOf l n sz).cell i=l.getD i .any:=by
 unfold rowOf
 cases hb:Nat.beq sz 1 with
 | false=>exact⟨rfl,rfl,fun _ _=>rfl⟩
 | true =>
  have hs:=Nat.eq_of_beq_eq_true hb
  subst hs
  rw[Nat.mul_one]at hl
  simp only[cond_true,Nat.mul_one]
  split
  ·split
   ·rename_i r hr
    have:=allTrees_ok hr
    exact⟨by simp only[RowC.len];omega,rfl,fun i hi=>(this.2 i (by omega)).symm⟩
   ·exact⟨rfl,rfl,fun _ _=>rfl⟩
  ·split
   ·rename_i r hr
    have:=allStrs_ok hr
    exact⟨by simp only[RowC.len];omega,rfl,fun i hi=>(this.2 i (by omega)).symm⟩
   ·exact⟨rfl,rfl,fun _ _=>rfl⟩
  ·split
   ·rename_i r hr
    have:=allInts_ok hr
    exact⟨by simp only[RowC.len];omega,rfl,fun i hi=>(this.2 i (by omega)).symm⟩
   ·exact⟨rfl,rfl,fun _ _=>rfl⟩
  ·exact⟨rfl,rfl,fun _ _=>rfl⟩
def RowC.app:RowC→RowC→Option RowC
 | .trees a,.trees b=>some (.trees (a++b))
 | .strs a,.strs b=>some (.strs (a++b))
 | .bools a,.bools b=>some (.bools (a++b))
 | .ints k a,.ints k' b=>if k=k' then some (.ints k (a++b)) else none
 | .gen 0 sz _,s=>if s.sz=sz then some s else none
 | .gen n sz f,.gen m sz' g=>if sz=sz' then some (.gen (n+m) sz fun i=>if i < n*sz then f i else g (i - n*sz)) else none
 | r,s=>if r.sz=s.sz then some (.gen (r.len+s.len) r.sz fun i=>if i < r.len*r.sz then r.cell i else s.cell (i - r.len*r.sz)) else none
theorem RowC.app_ok {r s t:RowC}(h:r.app s=some t):t.len=r.len+s.len∧t.sz=s.sz∧r.sz=s.sz∧(∀i,i < r.len*s.sz→t.cell i=r.cell i)∧∀j,j < s.len*s.sz→t.cell (r.len*s.sz+j)=s.cell j:=by
 have lem:∀{α:Type} (a b:List α) (z:α) (i:Nat),i < a.length→(a++b).getD i z=a.getD i z:=fun a b z i hi=>by simp[List.getElem?_append_left hi]
 have lem2:∀{α:Type} (a b:List α) (z:α) (i:Nat),(a++b).getD (a.length+i) z=b.getD i z:=fun a b z i=>by simp[List.getElem?_append_right]
 unfold RowC.app at h
 split at h
 ·cases h;exact⟨by simp[RowC.len],rfl,rfl,fun i hi=>by simp only[RowC.cell];rw[lem _ _ _ _ (by simpa [RowC.len,RowC.sz] using hi)],fun j hj=>by simp only[RowC.cell,RowC.len,RowC.sz,Nat.mul_one];rw[lem2]⟩
 ·cases h;exact⟨by simp[RowC.len],rfl,rfl,fun i hi=>by simp only[RowC.cell];rw[lem _ _ _ _ (by simpa [RowC.len,RowC.sz] using hi)],fun j hj=>by simp only[RowC.cell,RowC.len,RowC.sz,Nat.mul_one];rw[lem2]⟩
 ·cases h;exact⟨by simp[RowC.len],rfl,rfl,fun i hi=>by simp only[RowC.cell];rw[lem _ _ _ _ (by simpa [RowC.len,RowC.sz] using hi)],fun j hj=>by simp only[RowC.cell,RowC.len,RowC.sz,Nat.mul_one];rw[lem2]⟩
 ·split at h
  ·rename_i hk
   subst hk
   cases h;exact⟨by simp[RowC.len],rfl,rfl,fun i hi=>by simp only[RowC.cell];rw[lem _ _ _ _ (by simpa [RowC.len,RowC.sz] using hi)],fun j hj=>by simp only[RowC.cell,RowC.len,RowC.sz,Nat.mul_one];rw[lem2]⟩
  ·cases h
 ·split at h
  ·rename_i hs
   cases h
   exact⟨by simp[RowC.len],rfl,hs.symm,fun i hi=>by simp[RowC.len]at hi,fun j hj=>by simp[RowC.len]⟩
  ·cases h
 ·split at h
  ·rename_i hs
   subst hs
   cases h
   refine⟨rfl,rfl,rfl,fun i hi=>?_,fun j hj=>?_⟩
   ·simp only[RowC.cell];rw[if_pos (by simpa [RowC.len,RowC.sz] using hi)]
   ·show (if _ < _ then _ else _)=_
    rw[if_neg (by simp only[RowC.len,RowC.sz];omega)]
    simp only[RowC.cell,RowC.len,RowC.sz,Nat.add_sub_cancel_left]
  ·cases h
 ·split at h
  ·rename_i hs
   cases h
   refine⟨rfl,hs,hs,fun i hi=>?_,fun j hj=>?_⟩
   ·show (if _ < _ then _ else _)=_
    rw[if_pos (by rw[hs];exact hi)]
   ·show (if _ < _ then _ else _)=_
    rw[hs,ifn,Nat.add_sub_cancel_left]
  ·cases h
def RowC.allOne:RowC→Prop
 | .gen n sz f=>∀i,i < n*sz→(f i).one=true
 | _=>True
theorem RowC.allOne_cell {r:RowC}(h:r.allOne){i:Nat}(hi:i < r.len*r.sz):(r.cell i).one=true:=by
 cases r<;>first|rfl|exact h i hi
def srcRow (get:Objs):AVal→Option (RowC×List Nat)
 | .d (.trees l)=>some (.trees l,[])
 | .row id m=>match get id with
  | some (.row _ r)=>bif Nat.beq r.len m then some (r,[id]) else none
  | _=>none
 | .d (.slice n sz f)=>some (.gen n sz fun i=>.d (f (i / sz) (i % sz)),[])
 | _=>none
def mem2K (tt:List (Nat×TI))(op:Op)(ev:Operand→AVal)(get:Objs)(nx:Nat)(K:List Nat→Eff→Prop):Prop :=
 match op with
 | .buildSlice t n ps =>
  match ttl tt t with
  | some i=>match i.desc with
   | .slice e=>Side (n≤maxN) <| Side (n*i.esz≤16777216) <| forceL (List.replicate (n*i.esz) .any) fun c0=>fillK ((List.range n).map fun k=>(k*i.esz,i.esz)) c0 (ps.toList.map fun p=>(p.1,ev p.2)) fun l=>K [] ⟨.row nx n,[(nx,some (.row e (rowOf l n i.esz)))],[nx],none⟩
   | _=>False
  | none=>False
 | .call { callee:=.builtin .len,args:=xs,argTypes:=ts } =>
  match xs.toList,ts.toList with
  | [x],[t]=>(match ttl tt t with
   | some i=>(match ev x with
    | .d (.str s)=>Side (i.desc=.string) <| K [] (one1 (.d (.int .i64 s.size)))
    | .d (.trees l)=>Side (match i.desc with | .slice _=>True|_=>False) <| Hyp (l.length≤maxN) (K [] (one1 (.d (.int .i64 l.length))))
    | .d (.slice n _ _)=>Side (match i.desc with | .slice _=>True|_=>False) <| Hyp (n≤maxN) (K [] (one1 (.d (.int .i64 n))))
    | .row _ n=>Side (match i.desc with | .slice _=>True|_=>False) <| Hyp (n≤maxN) (K [] (one1 (.d (.int .i64 n))))
    | .d .nils=>Side (match i.desc with | .slice _=>True|_=>False) <| K [] (one1 (.d (.int .i64 0)))
    | _=>False)
   | none=>False)
  | _,_=>False
 | .call { callee:=.builtin .min,args:=xs,argTypes:=_ } =>
  match xs.toList with
  | [x,y]=>(match ev x,ev y with
   | .d (.int k a),.d (.int _ b)=>K [] (one1 (.d (.int k (if b < a then b else a))))
   | _,_=>False)
  | _=>False
 | .call { callee:=.builtin .max,args:=xs,argTypes:=_ } =>
  match xs.toList with
  | [x,y]=>(match ev x,ev y with
   | .d (.int k a),.d (.int _ b)=>K [] (one1 (.d (.int k (if b > a then b else a))))
   | _,_=>False)
  | _=>False
 | .call { callee:=.builtin .append,args:=xs,argTypes:=ts } =>
  match xs.toList,ts.toList with
  | [x,y],[t,t']=>(match ttl tt t with
   | some i=>(match i.desc with
    | .slice e=>Side (t=t') <| Side (0 < i.esz) <| (match srcRow get (ev y) with
     | some (s,F)=>Side (s.sz=i.esz) <| Side (s.allOne) <| (match ev x with
      | .d .nils=>Side (s.len≤maxN∧s.len*i.ebytes≤140737488355328) <| K F ⟨.row nx s.len,[(nx,some (.row e s))],[nx],none⟩
      | .row id n=>(match get id with
       | some (.row e' r)=>Side (e=e') <| Side (r.len=n) <| (match r.app s with
        | some q=>Side (n+s.len≤maxN∧(n+s.len)*i.ebytes≤140737488355328) <| K (id::F) ⟨.row nx (n+s.len),[(id,none),(nx,some (.row e q))],[nx],none⟩
        | none=>False)
       | _=>False)
      | _=>False)
     | none=>False)
    | _=>False)
   | none=>False)
  | _,_=>False
 | _=>False
def Real (X:FS):Prop:=∃E I ρ a w,RelT E I ρ X a w
theorem fillA_length {offs:List (Nat×Nat)}:∀(qs:List (Nat×AVal)) (vs r:List AVal),fillA offs vs qs=some r→r.length=vs.length:=by
 intro qs
 induction qs with
 | nil=>intro vs r hr;simp[fillA]at hr;subst hr;rfl
 | cons q qs ih =>
  intro vs r hr
  obtain⟨j,x⟩:=q
  simp only[fillA]at hr
  split at hr
  ·cases hr
  ·split at hr
   ·rw[Bool.cond_eq_ite]at hr
    split at hr
    ·have:=ih _ _ hr;rwa [splA_length]at this
    ·cases hr
   ·rw[Bool.cond_eq_ite]at hr
    split at hr
    ·have:=ih _ _ hr;simpa using this
    ·cases hr
theorem buildSlice_run {P:Program}{t n:Nat}{ps:Array (Nat×Operand)}{e:TypeId}{i:TI}{l:List AVal}(hT:TIok P t i)(he:i.desc=.slice e)(h24:n*i.esz≤16777216){ev:Operand→AVal}
  (hl:fillA ((List.range n).map fun k=>(k*i.esz,i.esz)) (List.replicate (n*i.esz) .any) (ps.toList.map fun p=>(p.1,ev p.2))=some l) {I:Imm} {ρ:Nat→RB} {D:Nat→Prop} {val:Operand→Value}
  (hx:∀x∈(Op.buildSlice t n ps).operands,CA I ρ D (ev x) (val x)) (w:World) :
  ∃cs',(Instr.buildSlice t n (ps.map fun (i,x)=>(i,val x))).run P w=.ok (.slice (some ⟨w.heap.size,0,none⟩) n n) (w.alloc (.cells cs' e))∧CAs I ρ D l cs':=by
 obtain⟨f,hf1,hf2,_,z,hz,hzs⟩:=hT.elem e he
 have hu:=hT.und
 rw[he]at hu
 have hall:All2 I ρ D ((ps.toList.map fun p=>(p.1,ev p.2)).map (·.2)) ((ps.map fun (i,x)=>(i,val x)).toList.map (·.2)):=by
  refine All2.of _ _ (by simp) fun j hj=>?_
  have hj':j < ps.size:=by simpa using hj
  have hm:ps[j].2∈(Op.buildSlice t n ps).operands:=by
   simp only[Op.operands,List.mem_toArray,List.mem_map]
   exact⟨ps[j],by simp,rfl⟩
  have:=hx ps[j].2 hm
  simp[hj']
  exact this
 have key:∀init:Array Value,init.size=n*i.esz→∃cs',Instr.fill (fun k=>some (k*i.esz,i.esz)) init (ps.map fun (i,x)=>(i,val x)).toList=some cs'∧CAs I ρ D l cs':=by
  intro init hin
  refine fill_ok (place:=fun k=>some (k*i.esz,i.esz)) ?_ _ _ (List.replicate (n*i.esz) .any) l init ⟨by simp[hin],fun j hj=>?_⟩ (by simp) hall hl
  ·intro j p hp
   rw[List.getElem?_map]at hp
   by_cases hj:j < n
   ·simp[hj]at hp;subst hp;rfl
   ·simp[hj]at hp
  ·simp;exact .any
 have hsz:∀w,(sizeOf e).run P w=.ok i.esz w:=fun w=>by simp[sizeOf,typeInfo,hf1,hf2]
 have hzv:∀w,(zeroValue e).run P w=.ok z w:=fun w=>by simp[zeroValue,typeInfo,hf1,hz]
 by_cases h0:n*i.esz=0
 ·obtain⟨cs',h1,h2⟩:=key ((Array.range (n*i.esz)).map ((#[]:Array Value)[· % (#[]:Array Value).size]!)) (by simp)
  refine⟨cs',?_,h2⟩
  have h1':=h1
  rw[h0]at h1'
  simp only[Instr.buildSlice,Sem.run_bind,underlying,run_program,Result.andThen_ok,hu,Sem.run_pure,hsz,h0]
  simp only[Nat.not_lt_zero,gt_iff_lt,if_false,if_true]
  simp at h1' ⊢
  rw[h1']
  simp[newRow]
 ·obtain⟨cs',h1,h2⟩:=key ((Array.range (n*i.esz)).map (z.cells[· % z.cells.size]!)) (by simp)
  refine⟨cs',?_,h2⟩
  have hlt:¬(n*i.esz > 2 ^ 24):=by omega
  simp only[Instr.buildSlice,Sem.run_bind,underlying,run_program,Result.andThen_ok,hu,Sem.run_pure,hsz,if_neg hlt,if_neg h0,hzv]
  simp at h1 ⊢
  rw[h1]
  simp[newRow]
theorem buildSlice_ok {P:Program}{E:Env}{tt:List (Nat×TI)}(htt:TTok P tt){dst:Option Tmp}{T:TypeId}{pos:String}{aft:Array Edge}{gd:Option (Nat×Bool)}{X:FS}{nx:Nat}{K:List Nat→Eff→Prop}{t n:Nat}{ps:Array (Nat×Operand)}
  (hd:dstOk dst X.n) (h:mem2K tt (.buildSlice t n ps) (evT X.T) X.G nx K):∃F e,K F e∧EffOK F false nx e∧OpL P E ⟨dst,.buildSlice t n ps,T,pos,aft,gd⟩ F false X e:=by
 simp only[mem2K,forceL_eq,fillK_eq]at h
 split at h
 ·rename_i i hi
  have hT:=htt t i hi
  split at h
  ·rename_i e he
   obtain⟨hnm,h24,h⟩:=h
   split at h
   ·rename_i l hl
    refine⟨_,_,h,⟨fun i=>by simp;try omega,by simp,fun _=>rfl⟩,alloc_L (cap:=n) hd fun X' _ hx I ρ a w hr hnd=>?_⟩
    obtain⟨cs',hrun,hcs⟩:=buildSlice_run hT he h24 hl (fun x hm=>(by rw[←hx x hm];exact hr.ev x)) w
    refine⟨.slice (some ⟨w.heap.size,0,none⟩) n n,.cells cs' e,?_,fun ρ' h1 h2=>⟨.inr ?_,?_⟩⟩
    ·simp only[execOp,Sem.run_bind,hrun,Result.andThen_ok];rfl
    ·have hlen:l.length=n*i.esz:=by simpa using fillA_length _ _ _ hl
     have ho:=rowOf_ok hlen
     refine⟨by rw[h1],by rw[h1,ho.1];exact Nat.le_refl _,⟨by rw[ho.1];exact hnm,by rw[h1];unfold maxN at hnm;simp only[];omega⟩,cs',by rw[h1];exact heap_alloc_new,by rw[h1,ho.2.1,hcs.1,hlen],fun j hj=>?_⟩
     rw[ho.1,ho.2.1]at hj
     rw[ho.2.2 j hj]
     have:=hcs.2 j (by omega)
     rw[List.getD_eq_getElem?_getD,List.getElem?_eq_getElem (by omega)]
     exact this.mono (Imm.le_refl I) (fun _=>.inr) h2
    ·have:=CA.row (I:=I) (ρ:=ρ') (D:=dom X'.D nx) (id:=nx) (n:=n) (.inl rfl) (by rw[h1]) (by rw[h1];exact Nat.le_refl _) hnm
     rw[h1]at this;exact this
   ·exact h.elim
  ·exact h.elim
 ·exact h.elim
def lenOp (xs:Array Operand)(ts:Array TypeId):Op:=.call { callee:=.builtin .len,args:=xs,argTypes:=ts }
theorem run_len {P:Program}{w:World}{t:TypeId}{d:TypeDesc}(hu:P.underlying t=some d)(ty:TypeId) :
  (d=.string→∀s:ByteArray,(Builtin.len_ #[t] ty #[.string s]).run P w=.ok (.int .i64 s.size) w) ∧
  ((∃e,d=.slice e)→∀(a:Option Addr) (n c:Nat),(Builtin.len_ #[t] ty #[.slice a n c]).run P w=.ok (.int .i64 n) w):=by
 refine⟨fun h s=>?_,fun⟨e,h⟩ a n c=>?_⟩
 ·subst h;simp[Builtin.len_,underlying,hu,goInt]
 ·subst h;simp[Builtin.len_,underlying,hu,goInt]
theorem isSlice {d:TypeDesc}(h:match d with | .slice _=>True|_=>False):∃e,d=.slice e:=by
 cases d<;>first|exact⟨_,rfl⟩|exact h.elim
theorem arr1 {α:Type}{xs:Array α}{x:α}(h:xs.toList=[x]):xs=#[x]:=by
 cases xs;simp at h;subst h;rfl
theorem arr2 {α:Type}{xs:Array α}{x y:α}(h:xs.toList=[x,y]):xs=#[x,y]:=by
 cases xs;simp at h;subst h;rfl
theorem call1 {P:Program}{w:World}{val:Operand→Value}{dst:Option Tmp}{b:Builtin}{x:Operand}{t T:TypeId}{pos:String}{aft:Array Edge}{gd:Option (Nat×Bool)} :
  (execOp val ⟨dst,.call { callee:=.builtin b,args:=#[x],argTypes:=#[t] },T,pos,aft,gd⟩).run P w=(builtin b #[t] T #[match x with | .const _=>true|_=>false] #[val x]).run P w:=by
 cases x<;>simp[execOp,resolve,invoke]
theorem call2 {P:Program}{w:World}{val:Operand→Value}{dst:Option Tmp}{b:Builtin}{x y:Operand}{ts:Array TypeId}{T:TypeId}{pos:String}{aft:Array Edge}{gd:Option (Nat×Bool)} :
  (execOp val ⟨dst,.call { callee:=.builtin b,args:=#[x,y],argTypes:=ts },T,pos,aft,gd⟩).run P w=(builtin b ts T #[match x with | .const _=>true|_=>false,match y with | .const _=>true|_=>false] #[val x,val y]).run P w:=by
 cases x<;>cases y<;>simp[execOp,resolve,invoke]
theorem TrsI.len {I:Imm}{l:List Tree}{v:Value}(h:TrsI I l v):l.length≤maxN∧∃a c,v=.slice a l.length c:=by
 rcases h with⟨rfl,rfl⟩|⟨b,o,cap,cs,h1,h2,h3,_⟩
 ·exact⟨by simp[maxN],none,0,rfl⟩
 ·exact⟨h3,_,_,h1⟩
theorem len_ok {P:Program}{E:Env}{tt:List (Nat×TI)}(htt:TTok P tt){dst:Option Tmp}{T:TypeId}{pos:String}{aft:Array Edge}{gd:Option (Nat×Bool)}{X:FS}{nx:Nat}{K:List Nat→Eff→Prop}{xs:Array Operand}{ts:Array TypeId}
  (hd:dstOk dst X.n) (hreal:Real X) (h:mem2K tt (lenOp xs ts) (evT X.T) X.G nx K):∃F e,K F e∧EffOK F false nx e∧OpL P E ⟨dst,lenOp xs ts,T,pos,aft,gd⟩ F false X e:=by
 obtain⟨E0,I0,ρ0,a0,w0,hr0⟩:=hreal
 simp only[mem2K,lenOp]at h
 split at h
 ·rename_i x t hxs hts
  have hxs:=arr1 hxs
  have hts:=arr1 hts
  subst hxs hts
  have hxm:x∈(lenOp #[x] #[t]).operands:=by simp[lenOp,Op.operands,Call.operands]
  have hv0:=hr0.ev x
  split at h
  ·rename_i i hi
   have hT:=htt t i hi
   have hrun:∀(w:World) (val:Operand→Value) (n:Nat),((Builtin.len_ #[t] T #[val x]).run P w=.ok (.int .i64 n) w)→(execOp val ⟨dst,lenOp #[x] #[t],T,pos,aft,gd⟩).run P w=.ok (.value (.int .i64 n)) w:=by
    intro w val n hh
    unfold lenOp
    rw[call1]
    simp[builtin,hh]
   split at h
   ·rename_i s hx
    refine⟨_,_,h.2,.one,read_L hd fun X' _ hxx _ I ρ a w hr=>?_⟩
    have hv:=hr.ev x
    rw[hxx x hxm,hx]at hv
    refine⟨_,hrun w a.eval _ ?_,.d .int⟩
    rw[hv.str];exact (run_len hT.und T).1 h.1 s
   ·rename_i l hx
    rw[hx]at hv0
    refine⟨_,_,h.2.h hv0.trees.len.1,.one,read_L hd fun X' _ hxx _ I ρ a w hr=>?_⟩
    have hv:=hr.ev x
    rw[hxx x hxm,hx]at hv
    obtain⟨_,p,c,e⟩:=hv.trees.len
    refine⟨_,hrun w a.eval _ ?_,.d .int⟩
    rw[e];exact (run_len hT.und T).2 (isSlice h.1) _ _ _
   ·rename_i n sz f hx
    rw[hx]at hv0
    have hm:n≤maxN:=by
     generalize a0.eval x=v at hv0
     cases hv0 with|d hv0=>cases hv0 with
      | slice _ hm=>exact hm
      | slice0=>simp[maxN]
      | sliceE=>simp[maxN]
    refine⟨_,_,h.2.h hm,.one,read_L hd fun X' _ hxx _ I ρ a w hr=>?_⟩
    have hv:=hr.ev x
    rw[hxx x hxm,hx]at hv
    refine⟨_,hrun w a.eval n ?_,.d .int⟩
    generalize a.eval x=v at hv
    cases hv with|d hv=>cases hv with
     | slice=>exact (run_len hT.und T).2 (isSlice h.1) _ _ _
     | slice0=>exact (run_len hT.und T).2 (isSlice h.1) _ _ _
     | sliceE=>exact (run_len hT.und T).2 (isSlice h.1) _ _ _
   ·rename_i id n hx
    rw[hx]at hv0
    have hm:n≤maxN:=by
     generalize a0.eval x=v at hv0
     cases hv0 with
      | row _ _ _ hm=>exact hm
      | row0=>simp[maxN]
    refine⟨_,_,h.2.h hm,.one,read_L hd fun X' _ hxx _ I ρ a w hr=>?_⟩
    have hv:=hr.ev x
    rw[hxx x hxm,hx]at hv
    refine⟨_,hrun w a.eval n ?_,.d .int⟩
    generalize a.eval x=v at hv
    cases hv with
     | row=>exact (run_len hT.und T).2 (isSlice h.1) _ _ _
     | row0=>exact (run_len hT.und T).2 (isSlice h.1) _ _ _
   ·rename_i hx
    refine⟨_,_,h.2,.one,read_L hd fun X' _ hxx _ I ρ a w hr=>?_⟩
    have hv:=hr.ev x
    rw[hxx x hxm,hx]at hv
    refine⟨_,hrun w a.eval 0 ?_,.d .int⟩
    rw[hv.nils];exact (run_len hT.und T).2 (isSlice h.1) _ _ _
   ·exact h.elim
  ·exact h.elim
 ·exact h.elim
theorem min_ok {P:Program}{E:Env}{tt:List (Nat×TI)}{dst:Option Tmp}{T:TypeId}{pos:String}{aft:Array Edge}{gd:Option (Nat×Bool)}{X:FS}{nx:Nat}{K:List Nat→Eff→Prop}{xs:Array Operand}{ts:Array TypeId}
  (hd:dstOk dst X.n) (h:mem2K tt (.call { callee:=.builtin .min,args:=xs,argTypes:=ts }) (evT X.T) X.G nx K):∃F e,K F e∧EffOK F false nx e∧OpL P E ⟨dst,.call { callee:=.builtin .min,args:=xs,argTypes:=ts },T,pos,aft,gd⟩ F false X e:=by
 simp only[mem2K]at h
 split at h
 ·rename_i x y hxs
  have hxs:=arr2 hxs
  subst hxs
  split at h
  ·rename_i k a' k' b' hx hy
   refine⟨_,_,h,.one,read_L hd fun X' _ hxx _ I ρ a w hr=>?_⟩
   have hv:=hr.ev x
   rw[hxx x (by simp[Op.operands,Call.operands]),hx]at hv
   have hu:=hr.ev y
   rw[hxx y (by simp[Op.operands,Call.operands]),hy]at hu
   refine⟨_,?_,.d .int⟩
   rw[call2,hv.int,hu.int]
   simp only[builtin,Sem.run_bind,run_min_int2,Result.andThen_ok]
   rfl
  ·exact h.elim
 ·exact h.elim
theorem max_ok {P:Program}{E:Env}{tt:List (Nat×TI)}{dst:Option Tmp}{T:TypeId}{pos:String}{aft:Array Edge}{gd:Option (Nat×Bool)}{X:FS}{nx:Nat}{K:List Nat→Eff→Prop}{xs:Array Operand}{ts:Array TypeId}
  (hd:dstOk dst X.n) (h:mem2K tt (.call { callee:=.builtin .max,args:=xs,argTypes:=ts }) (evT X.T) X.G nx K):∃F e,K F e∧EffOK F false nx e∧OpL P E ⟨dst,.call { callee:=.builtin .max,args:=xs,argTypes:=ts },T,pos,aft,gd⟩ F false X e:=by
 simp only[mem2K]at h
 split at h
 ·rename_i x y hxs
  have hxs:=arr2 hxs
  subst hxs
  split at h
  ·rename_i k a' k' b' hx hy
   refine⟨_,_,h,.one,read_L hd fun X' _ hxx _ I ρ a w hr=>?_⟩
   have hv:=hr.ev x
   rw[hxx x (by simp[Op.operands,Call.operands]),hx]at hv
   have hu:=hr.ev y
   rw[hxx y (by simp[Op.operands,Call.operands]),hy]at hu
   refine⟨_,?_,.d .int⟩
   rw[call2,hv.int,hu.int]
   simp only[builtin,Sem.run_bind,run_max_int2,Result.andThen_ok]
   rfl
  ·exact h.elim
 ·exact h.elim
theorem src_cells {E:Env}{I:Imm}{ρ:Nat→RB}{X:FS}{a:Act}{w:World}(hr:RelT E I ρ X a w){x:AVal}{v:Value}{s:RowC}{F:List Nat}(hv:CA I ρ X.D x v)(hs:srcRow X.G x=some (s,F))(hpos:0 < s.sz) :
  (v=.slice none 0 0∧s.len=0)∨∃(ad:Addr) (cap:Nat) (news:List Value),v=.slice (some ad) s.len cap∧news.length=s.len*s.sz∧(∀j u,news[j]?=some u→w.cell? (ad.add j)=some u)∧∀j,j < s.len*s.sz→CA I ρ X.D (s.cell j) (news.getD j undef):=by
 unfold srcRow at hs
 split at hs
 ·rename_i l
  cases hs
  rcases hv.trees with⟨rfl,rfl⟩|⟨b,o,cap,cs,h1,h2,h3,h4,h5⟩
  ·exact .inl ⟨rfl,rfl⟩
  ·refine .inr ⟨⟨b,o,none⟩,cap,(List.range l.length).map cs,h1,by simp[RowC.len,RowC.sz],fun j u hj=>?_,fun j hj=>?_⟩
   ·rw[List.getElem?_map]at hj
    by_cases hjl:j < l.length
    ·simp[hjl]at hj;subst hj;rw[add_addr];exact Imm.cell_world hr.rel (h4 j hjl)
    ·simp[hjl]at hj
   ·simp only[RowC.len,RowC.sz,Nat.mul_one]at hj
    simp only[RowC.cell]
    have:=h5 j hj
    simp[hj]
    exact .d (.tree this)
 ·rename_i id m
  split at hs
  ·rename_i el r hg
   rw[Bool.cond_eq_ite]at hs
   split at hs
   ·rename_i hb
    have hb:=Nat.eq_of_beq_eq_true hb
    cases hs
    have ho:=rel_obj hr hg
    rcases ho with⟨h1,h2⟩|⟨h1,h2,h3,cs,h4,h5,h6⟩
    ·cases hv with
     | row _ hn=>rw[h1]at hn;cases hn
     | row0=>exact .inl ⟨rfl,h2⟩
    ·cases hv with
     | row0 _ hn=>rw[h1]at hn;cases hn
     | row hid hn hc hm =>
      have hle:s.len*s.sz≤cs.size:=by rw[h5];exact Nat.mul_le_mul_right _ h2
      refine .inr ⟨⟨(ρ id).blk,0,none⟩,(ρ id).cap,cs.toList.take (s.len*s.sz),by rw[hb],by simp;omega,fun j u hj=>?_,fun j hj=>?_⟩
      ·rw[List.getElem?_take]at hj
       split at hj
       ·rename_i hlt
        rw[add_addr,Nat.zero_add,cell_of_block h4 (by omega)]
        have:j < cs.size:=by omega
        simp[this]at hj ⊢
        exact hj
       ·cases hj
      ·have:=h6 j hj
       have hjs:j < cs.size:=by omega
       simpa [List.getElem?_take,hj,hjs] using this
   ·cases hs
  ·cases hs
 ·rename_i n sz f
  cases hs
  cases hv with|d hv=>cases hv with
   | slice0=>exact .inl ⟨rfl,rfl⟩
   | sliceE =>
    rename_i ad
    exact .inr ⟨ad,0,[],rfl,by simp[RowC.len],fun j u hj=>by simp at hj,fun j hj=>by simp[RowC.len]at hj⟩
   | slice hl hm hc hd =>
    rename_i b o cap cs
    simp only[RowC.sz]at hpos
    have hdm:∀j,j < n*sz→j / sz < n∧j % sz < sz:=fun j hj=>⟨(Nat.div_lt_iff_lt_mul hpos).2 hj,Nat.mod_lt _ hpos⟩
    refine .inr ⟨⟨b,o,none⟩,cap,(List.range (n*sz)).map fun j=>cs (j / sz) (j % sz),rfl,by simp[RowC.len,RowC.sz],fun j u hj=>?_,fun j hj=>?_⟩
    ·rw[List.getElem?_map]at hj
     by_cases hjl:j < n*sz
     ·simp[hjl]at hj;subst hj
      obtain⟨h1,h2⟩:=hdm j hjl
      have:=hc _ _ h1 h2
      rw[add_addr]
      have e:o+j / sz*sz+j % sz=o+j:=by rw[Nat.add_assoc,Nat.div_add_mod']
      rw[e]at this
      exact Imm.cell_world hr.rel this
     ·simp[hjl]at hj
    ·simp only[RowC.len,RowC.sz]at hj
     obtain⟨h1,h2⟩:=hdm j hj
     have:=hd _ _ h1 h2
     simp[hj,RowC.cell]
     exact .d this
 ·cases hs
structure Appended (w w':World)(old:Option Nat)(e size k:Nat)(v':Value)(xs:List Value):Prop where
 env:World.env w'=World.env w
 grow:w.heap.size≤w'.heap.size
 block:∀b,b < w.heap.size→some b≠old→w'.heap[b]?=w.heap[b]?
 res:(v'=.slice none 0 0∧k=0)∨∃g cap cur,v'=.slice (some ⟨g,0,none⟩) k cap∧g < w'.heap.size∧(w.heap.size≤g∨some g=old)∧w'.heap[g]?=some (.cells cur e (0,0))∧k≤cap∧cap≤9223372036854775807 ∧
  cur.size=cap*size∧∀j,j < k*size→cur.getD j undef=xs.getD j undef
theorem getD_app_left {a b:List Value}{j:Nat}(h:j < a.length):(a++b).getD j undef=a.getD j undef:=by simp[List.getElem?_append_left h]
theorem getD_app_right {a b:List Value}{j:Nat}:(a++b).getD (a.length+j) undef=b.getD j undef:=by simp[List.getElem?_append_right]
theorem run_append_all {P:Program}{w:World}{t ty e:TypeId}{i:TypeInfo}{z:Value}(ht:P.underlying t=some (.slice e))(hi:P.info? e=some i)(hz:i.zero=some z)(hzs:z.cells.size=i.size)
  {v:Value} {n:Nat} {olds:List Value} {old:Option Nat}
  (hv:(v=.slice none 0 0∧n=0∧olds=[]∧old=none)∨∃g cap cur,v=.slice (some ⟨g,0,none⟩) n cap∧old=some g∧w.heap[g]?=some (.cells cur e (0,0))∧n≤cap∧cap≤9223372036854775807∧cur.size=cap*i.size∧olds=cur.toList.take (n*i.size))
  {x:Value} {m:Nat} {news:List Value} (hx:(x=.slice none 0 0∧m=0∧news=[])∨∃(ad:Addr) (c:Nat),x=.slice (some ad) m c∧news.length=m*i.size∧∀j u,news[j]?=some u→w.cell? (ad.add j)=some u)
  (h1:∀u∈news,u.oneCell'=true) (hm:n+m≤maxN) (hb:(n+m)*i.bytes≤140737488355328) :
  ∃v' w',(Builtin.append_ #[t,t] ty #[v,x]).run P w=.ok v' w'∧Appended w w' old e i.size (n+m) v' (olds++news):=by
 unfold maxN at hm
 have hcapb:∀(o:Nat),grownCap w (n+m) o e≤9223372036854775807:=fun o=>by
  have:=grownCap_le_maxLen w (n+m) o e (by unfold maxLen;omega)
  unfold maxLen at this;omega
 rcases hx with⟨rfl,rfl,rfl⟩|⟨ad,c,rfl,hl,hnews⟩
 ·rcases hv with⟨rfl,rfl,rfl,rfl⟩|⟨g,cap,cur,rfl,rfl,hg,hn,hc,hcs,ho⟩
  ·refine⟨.slice none 0 0,w,?_,rfl,Nat.le_refl _,fun _ _ _=>rfl,.inl ⟨rfl,rfl⟩⟩
   simp[Builtin.append_,run_underlying ht,sizeOf,typeInfo,hi,Builtin.lenOf,Builtin.firstCells]
  ·have hgl:g < w.heap.size:=(Array.getElem?_eq_some_iff.1 hg).1
   refine⟨.slice (some ⟨g,0,none⟩) n cap,w,?_,rfl,Nat.le_refl _,fun _ _ _=>rfl,.inr ⟨g,cap,cur,rfl,hgl,.inr rfl,hg,hn,hc,hcs,fun j hj=>?_⟩⟩
   ·simp[Builtin.append_,run_underlying ht,sizeOf,typeInfo,hi,Builtin.lenOf,Builtin.firstCells,hn,storeCells]
   ·have hjc:j < cur.size:=by rw[hcs];exact Nat.lt_of_lt_of_le hj (Nat.mul_le_mul_right _ hn)
    subst ho
    have hj':j < n*i.size:=by simpa using hj
    simp[hj',hjc]
 ·rcases hv with⟨rfl,rfl,rfl,rfl⟩|⟨g,cap,cur,rfl,rfl,hg,hn,hc,hcs,ho⟩
  ·by_cases hm0:m=0
   ·subst hm0
    have:news=[]:=List.eq_nil_of_length_eq_zero (by simpa using hl)
    subst this
    refine⟨.slice none 0 0,w,?_,rfl,Nat.le_refl _,fun _ _ _=>rfl,.inl ⟨rfl,rfl⟩⟩
    simp[Builtin.append_,run_underlying ht,sizeOf,typeInfo,hi,Builtin.lenOf,Builtin.firstCells,loadCells,loadCellsFrom]
   ·have hr:=run_append_nil (P:=P) w t ty e i z ht hi hz ad m c news hl hnews (by omega) (by omega) (by have hb:=hb;simp only[Nat.zero_add]at hb;omega)
    have hge:=grownCap_ge w m 0 e
    refine⟨_,_,hr,rfl,by simp,fun b hb' _=>?_,.inr ⟨w.heap.size,grownCap w m 0 e,_,by rw[Nat.zero_add],by simp,.inl (Nat.le_refl _),heap_alloc_new (w:=w.drew),by omega,by have:=hcapb 0;rwa [Nat.zero_add]at this,?_,?_⟩⟩
    ·exact heap_alloc_lt (w:=w.drew) hb'
    ·simp only[Array.size_append,List.size_toArray,size_zeroCells,hzs,hl,←Nat.add_mul]
     congr 1;omega
    ·intro j hj
     rw[Nat.zero_add]at hj
     have hj':j < news.length:=by omega
     simp[Array.getElem?_append_left,hj']
  ·have hgl:g < w.heap.size:=(Array.getElem?_eq_some_iff.1 hg).1
   have hol:olds.length=n*i.size:=by
    subst ho;simp[hcs,Nat.min_eq_left hn]
   by_cases hroom:n+m≤cap
   ·have hfit:n*i.size+news.length≤cur.size:=by rw[hl,hcs,←Nat.add_mul];exact Nat.mul_le_mul_right _ hroom
    have hr:=run_append_room (P:=P) w t ty e i ht hi g n cap cur hg ad m c news hl hnews h1 hroom hfit
    refine⟨_,_,hr,rfl,by simp[World.setRow],fun k hk hne=>setRow_other w g k _ (fun e=>hne (by rw[e])),.inr ⟨g,cap,_,rfl,by simpa [World.setRow] using hgl,.inr rfl,setRow_heap w g cur _ e _ hg,hroom,hc,?_,?_⟩⟩
    ·simp only[List.size_toArray,List.length_append,List.length_take,List.length_drop,Array.length_toList];omega
    ·intro j hj
     have hj':j < (olds++news).length:=by rw[List.length_append,hol,hl,←Nat.add_mul];exact hj
     rw[←ho]
     simp only[Array.getD_eq_getD_getElem?,List.getElem?_toArray]
     rw[←List.getD_eq_getElem?_getD,getD_app_left hj']
   ·have hon:∀j u,olds[j]?=some u→w.cell? ((⟨g,0,none⟩:Addr).add j)=some u:=by
     intro j u hu
     subst ho
     rw[List.getElem?_take]at hu
     split at hu
     ·rename_i hlt
      have hjc:j < cur.size:=by rw[hcs];exact Nat.lt_of_lt_of_le hlt (Nat.mul_le_mul_right _ hn)
      rw[add_addr,Nat.zero_add,cell_of_block hg hjc]
      simp[hjc]at hu ⊢
      exact hu
     ·cases hu
    have hr:=run_append_grow (P:=P) w t ty e i z ht hi hz ⟨g,0,none⟩ n cap olds hol hon ad m c news hl hnews (by omega) (by omega) (growslice_fits (by omega) hb)
    have hge:=grownCap_ge w (n+m) cap e
    refine⟨_,_,hr,rfl,by simp,fun b hb' _=>heap_alloc_lt (w:=w.drew) hb',.inr ⟨w.heap.size,_,_,rfl,by simp,.inl (Nat.le_refl _),heap_alloc_new (w:=w.drew),hge,hcapb cap,?_,?_⟩⟩
    ·simp only[Array.size_append,List.size_toArray,size_zeroCells,hzs,hol,hl,←Nat.add_mul]
     congr 1;omega
    ·intro j hj
     have hj':j < (olds++news).length:=by rw[List.length_append,hol,hl,←Nat.add_mul];exact hj
     have e1:olds.toArray++news.toArray=(olds++news).toArray:=by simp
     rw[e1]
     simp only[Array.getD_eq_getD_getElem?,Array.getElem?_append_left (show j < (olds++news).toArray.size by simpa using hj'),List.getElem?_toArray,List.getD_eq_getElem?_getD]
theorem run_append_new {P:Program}{w:World}{t ty e:TypeId}{i:TypeInfo}{z:Value}(ht:P.underlying t=some (.slice e))(hi:P.info? e=some i)(hz:i.zero=some z)(hzs:z.cells.size=i.size)
  {v:Value} {n:Nat} {olds:List Value}
  (hv:(v=.slice none 0 0∧n=0∧olds=[])∨∃ad:Addr,v=.slice (some ad) n n∧olds.length=n*i.size∧∀j u,olds[j]?=some u→w.cell? (ad.add j)=some u)
  {ad:Addr} {c m:Nat} {news:List Value} (hl:news.length=m*i.size) (hnews:∀j u,news[j]?=some u→w.cell? (ad.add j)=some u) (hm0:0 < m) (hm:n+m≤maxN) (hb:(n+m)*i.bytes≤140737488355328) :
  ∃cap cur,(Builtin.append_ #[t,t] ty #[v,.slice (some ad) m c]).run P w=.ok (.slice (some ⟨w.heap.size,0,none⟩) (n+m) cap) (w.drew.alloc (.cells cur e (0,0)))∧n+m≤cap∧cur.size=cap*i.size ∧
   ∀j,j < (n+m)*i.size→cur.getD j undef=(olds++news).getD j undef:=by
 unfold maxN at hm
 rcases hv with⟨rfl,rfl,rfl⟩|⟨ao,rfl,hol,hon⟩
 ·have hr:=run_append_nil (P:=P) w t ty e i z ht hi hz ad m c news hl hnews (by omega) (by omega) (by have hb:=hb;simp only[Nat.zero_add]at hb;omega)
  have hge:=grownCap_ge w m 0 e
  rw[Nat.zero_add]
  refine⟨_,_,hr,by omega,?_,?_⟩
  ·simp only[Array.size_append,List.size_toArray,size_zeroCells,hzs,hl,←Nat.add_mul]
   congr 1;omega
  ·intro j hj
   have hj':j < news.length:=by omega
   simp[Array.getElem?_append_left,hj']
 ·have hr:=run_append_grow (P:=P) w t ty e i z ht hi hz ao n n olds hol hon ad m c news hl hnews (by omega) (by omega) (growslice_fits (by omega) hb)
  have hge:=grownCap_ge w (n+m) n e
  refine⟨_,_,hr,hge,?_,?_⟩
  ·simp only[Array.size_append,List.size_toArray,size_zeroCells,hzs,hol,hl,←Nat.add_mul]
   congr 1;omega
  ·intro j hj
   have hj':j < (olds++news).length:=by rw[List.length_append,hol,hl,←Nat.add_mul];exact hj
   have e1:olds.toArray++news.toArray=(olds++news).toArray:=by simp
   rw[e1]
   simp only[Array.getD_eq_getD_getElem?,Array.getElem?_append_left (show j < (olds++news).toArray.size by simpa using hj'),List.getElem?_toArray,List.getD_eq_getElem?_getD]
def oldU (old:Option Nat)(nx:Nat)(ob:AObj):List (Nat×Option AObj):=match old with
 | some id=>[(id,none),(nx,some ob)]
 | none=>[(nx,some ob)]
theorem append_ok {P:Program}{E:Env}{tt:List (Nat×TI)}(htt:TTok P tt){dst:Option Tmp}{T:TypeId}{pos:String}{aft:Array Edge}{gd:Option (Nat×Bool)}{X:FS}{nx:Nat}{K:List Nat→Eff→Prop}{xs:Array Operand}{ts:Array TypeId}
  (hd:dstOk dst X.n) (h:mem2K tt (.call { callee:=.builtin .append,args:=xs,argTypes:=ts }) (evT X.T) X.G nx K) :
  ∃F e,K F e∧EffOK F false nx e∧OpL P E ⟨dst,.call { callee:=.builtin .append,args:=xs,argTypes:=ts },T,pos,aft,gd⟩ F false X e:=by
 simp only[mem2K]at h
 split at h
 ·rename_i x y t t' hxs hts
  have hxs:=arr2 hxs
  have hts:=arr2 hts
  subst hxs hts
  split at h
  ·rename_i i hi
   have hT:=htt t i hi
   split at h
   ·rename_i el he
    obtain⟨rfl,hpos,h⟩:=h
    obtain⟨f,hf1,hf2,hf3,z,hz,hzs⟩:=hT.elem el he
    have hu:=hT.und
    rw[he]at hu
    split at h
    ·rename_i s F hsrc
     obtain⟨hsz,hone,h⟩:=h
     have hxm:x∈(Op.call { callee:=.builtin .append,args:=#[x,y],argTypes:=#[t,t] }).operands:=by simp[Op.operands,Call.operands]
     have hym:y∈(Op.call { callee:=.builtin .append,args:=#[x,y],argTypes:=#[t,t] }).operands:=by simp[Op.operands,Call.operands]
     have key:∀(old:Option Nat) (r:RowC) (q:RowC) (n:Nat) (F':List Nat),(∀id∈F,id∈F')→(∀id,old=some id→id∈F')→(n+s.len≤maxN∧(n+s.len)*i.ebytes≤140737488355328) →
       q.len=n+s.len→q.sz=i.esz→(∀j,j < n*i.esz→q.cell j=r.cell j)→(∀j,j < s.len*i.esz→q.cell (n*i.esz+j)=s.cell j) →
       ((evT X.T x=.d .nils∧n=0∧old=none)∨∃id,old=some id∧evT X.T x=.row id n∧X.G id=some (.row el r)∧r.len=n∧r.sz=i.esz) →
       OpL P E ⟨dst,.call { callee:=.builtin .append,args:=#[x,y],argTypes:=#[t,t] },T,pos,aft,gd⟩ F' false X ⟨.row nx (n+s.len),oldU old nx (.row el q),[nx],none⟩:=by
      intro old r q n F' hF1 hF2 hbd hql hqs hq1 hq2 hcase X' ⟨hn,hx,hf,_⟩
      refine OpE.value (by rw[hn];exact hd) fun I ρ a w hr hfr=>?_
      have hnd:¬X'.D nx:=hfr nx (by simp)
      have hvx:=hr.ev x
      rw[hx x hxm]at hvx
      have hvy:=hr.ev y
      rw[hx y hym]at hvy
      have hsrc':srcRow X'.G (evT X.T y)=some (s,F):=by
       unfold srcRow at hsrc ⊢
       split at hsrc
       ·exact hsrc
       ·rename_i id m e
        split at hsrc
        ·rename_i el' r' hg
         rw[Bool.cond_eq_ite]at hsrc
         split at hsrc
         ·rename_i hb
          cases hsrc
          rw[hf id (hF1 id (by simp)),hg]
          simp[hb]
         ·cases hsrc
        ·cases hsrc
       ·exact hsrc
       ·cases hsrc
      have hsrcc:=src_cells hr hvy hsrc' (by omega)
      rw[hsz]at hsrcc
      have hnews:∃news:List Value,((a.eval y=.slice none 0 0∧s.len=0∧news=[])∨∃(ad:Addr) (c:Nat),a.eval y=.slice (some ad) s.len c∧news.length=s.len*f.size∧∀j u,news[j]?=some u→w.cell? (ad.add j)=some u) ∧
        (∀j,j < s.len*i.esz→CA I ρ X'.D (s.cell j) (news.getD j undef))∧news.length=s.len*i.esz:=by
       rcases hsrcc with⟨e1,e2⟩|⟨ad,c,news,e1,e2,e3,e4⟩
       ·exact⟨[],.inl ⟨e1,e2,rfl⟩,fun j hj=>by rw[e2]at hj;omega,by simp[e2]⟩
       ·exact⟨news,.inr ⟨ad,c,e1,by rw[hf2];exact e2,e3⟩,e4,e2⟩
      obtain⟨news,hn1,hn2,hn3⟩:=hnews
      have hn4:∀u∈news,u.oneCell'=true:=by
       intro u hu
       obtain⟨j,hj,hje⟩:=List.getElem_of_mem hu
       have h5:=hn2 j (by omega)
       have h6:=(h5.one (RowC.allOne_cell hone (by rw[hsz];omega))).1
       simpa [hj,hje] using h6
      have holds:∃(olds:List Value) (ob:Option Nat),((a.eval x=.slice none 0 0∧n=0∧olds=[]∧ob=none)∨∃g cap cur,a.eval x=.slice (some ⟨g,0,none⟩) n cap∧ob=some g∧w.heap[g]?=some (.cells cur el (0,0))∧n≤cap∧cap≤9223372036854775807∧cur.size=cap*f.size∧olds=cur.toList.take (n*f.size)) ∧
        (∀j,j < n*i.esz→CA I ρ X'.D (r.cell j) (olds.getD j undef))∧olds.length=n*i.esz∧(∀g,ob=some g→∃id,old=some id∧(ρ id).isnil=false∧g=(ρ id).blk)∧(∀id,old=some id→(ρ id).isnil=false→ob=some (ρ id).blk):=by
       rcases hcase with⟨e1,e2,e3⟩|⟨id,e1,e2,e3,e4,e5⟩
       ·rw[e1]at hvx
        exact⟨[],none,.inl ⟨hvx.nils,e2,rfl,rfl⟩,fun j hj=>by rw[e2]at hj;omega,by simp[e2],fun g hg=>(by cases hg),fun id hid=>by rw[e3]at hid;cases hid⟩
       ·rw[e2]at hvx
        have hg':X'.G id=some (.row el r):=by rw[hf id (hF2 id e1)];exact e3
        have ho:=rel_obj hr hg'
        generalize hax:a.eval x=v at hvx
        rcases ho with⟨h1,h2⟩|⟨h1,h2,h3,cs,h4,h5,h6⟩
        ·cases hvx with
         | row _ hnn=>rw[h1]at hnn;cases hnn
         | row0=>exact⟨[],none,.inl ⟨rfl,rfl,rfl,rfl⟩,fun j hj=>by omega,by simp,fun g hg=>(by cases hg),fun id' hid hnn=>by rw[e1]at hid;cases hid;rw[h1]at hnn;cases hnn⟩
        ·cases hvx with
         | row0 _ hnn=>rw[h1]at hnn;cases hnn
         | row hid hnn hc hm =>
          rw[e4,e5]at h6
          rw[e5]at h5
          have hle:n*i.esz≤cs.size:=by rw[h5];exact Nat.mul_le_mul_right _ hc
          refine⟨cs.toList.take (n*i.esz),some (ρ id).blk,.inr ⟨(ρ id).blk,(ρ id).cap,cs,rfl,rfl,h4,hc,h3.2,by rw[hf2];exact h5,by rw[hf2]⟩,fun j hj=>?_,by simp;omega,fun g hg=>⟨id,e1,h1,(by cases hg;rfl)⟩,fun id' hid' _=>by rw[e1]at hid';cases hid';rfl⟩
          have:=h6 j hj
          have hjc:j < cs.size:=by omega
          simpa [List.getElem?_take,hj,hjc] using this
      obtain⟨olds,ob,ho1,ho2,ho3,ho4,ho5⟩:=holds
      obtain⟨v',w',hrun,hap⟩:=run_append_all (P:=P) (w:=w) (ty:=T) hu hf1 hz (by rw[hzs,hf2]) ho1 hn1 hn4 hbd.1 (by rw[hf3];exact hbd.2)
      have hdom:(fun i=>i∈[nx]∨X'.D i)=dom X'.D nx:=by funext i;simp[dom]
      have hexec:(execOp a.eval ⟨dst,.call { callee:=.builtin .append,args:=#[x,y],argTypes:=#[t,t] },T,pos,aft,gd⟩).run P w=.ok (.value v') w':=by
       rw[call2];simp only[builtin,Sem.run_bind,hrun,Result.andThen_ok];rfl
      have hG:∀ob':AObj,putG X'.G (oldU old nx ob')=fun i=>if i=nx then some ob' else if old=some i then none else X'.G i:=by
       intro ob'
       funext i
       cases old with
       | none=>simp[oldU,putG]
       | some id=>simp[oldU,putG,eq_comm]
      have hold:∀id,old=some id→∃o,X'.G id=some o:=by
       intro id hid
       rcases hcase with⟨_,_,e3⟩|⟨id',e1,e2,e3,_⟩
       ·rw[e3]at hid;cases hid
       ·rw[e1]at hid;cases hid;exact⟨_,by rw[hf id (hF2 id e1)];exact e3⟩
      have hblk:∀b,b < w.heap.size→(∀id,old=some id→(ρ id).isnil=false→b≠(ρ id).blk)→w'.heap[b]?=w.heap[b]?:=by
       intro b hb1 hb2
       refine hap.block b hb1 fun e=>?_
       obtain⟨id,h1,h2,h3⟩:=ho4 b e.symm
       exact hb2 id h1 h2 h3
      have hcells:∀{D':Nat→Prop} {ρ':Nat→RB},(∀id,X'.D id→D' id)→(∀id,X'.D id→ρ' id=ρ id)→∀j,j < (n+s.len)*i.esz→CA I ρ' D' (q.cell j) ((olds++news).getD j undef):=by
       intro D' ρ' hD hρ j hj
       by_cases hj1:j < n*i.esz
       ·rw[hq1 j hj1,getD_app_left (by omega)]
        exact (ho2 j hj1).mono (Imm.le_refl I) hD hρ
       ·obtain⟨j',rfl⟩:∃j',j=n*i.esz+j':=⟨j - n*i.esz,by omega⟩
        have hj2:j' < s.len*i.esz:=by rw[Nat.add_mul]at hj;omega
        rw[hq2 j' hj2,←ho3,getD_app_right]
        exact (hn2 j' hj2).mono (Imm.le_refl I) hD hρ
      rcases hap.res with⟨e1,e2⟩|⟨g,cap,cur,e1,e2,e3,e4,e5,e6,e7,e8⟩
      ·refine⟨v',w',.inl hexec,I,upd ρ nx ⟨0,0,true⟩,Imm.le_refl I,upd_ne hnd,?_,?_⟩
       ·simp only[hdom,hG,Option.getD_none]
        refine hr.rel.renew (ob:=.row el q) hnd hold ⟨0,0,true⟩ hap.env hap.grow hblk (fun h=>by cases h) (Or.inl ⟨by rw[upd_same],by rw[hql];exact e2⟩)
       ·simp only[hdom]
        rw[e1,e2]
        exact .row0 (.inl rfl) (by rw[upd_same])
      ·refine⟨v',w',.inl hexec,I,upd ρ nx ⟨g,cap,false⟩,Imm.le_refl I,upd_ne hnd,?_,?_⟩
       ·simp only[hdom,hG,Option.getD_none]
        refine hr.rel.renew (ob:=.row el q) hnd hold ⟨g,cap,false⟩ hap.env hap.grow hblk (fun _=>⟨e2,?_⟩) (Or.inr ⟨by rw[upd_same],by rw[upd_same,hql];exact e5,⟨by rw[hql];exact hbd.1,by rw[upd_same];exact e6⟩,cur,by rw[upd_same];exact e4,by rw[upd_same,hqs,e7,hf2],fun j hj=>?_⟩)
        ·rcases e3 with e3|e3
         ·exact .inl e3
         ·obtain⟨id,h1,h2,h3⟩:=ho4 g e3.symm
          exact .inr ⟨id,h1,h2,h3⟩
        ·rw[hql,hqs]at hj
         rw[e8 j (by rw[hf2];exact hj)]
         exact hcells (fun _=>.inr) (upd_ne hnd) j hj
       ·simp only[hdom]
        rw[e1]
        have:=CA.row (I:=I) (ρ:=upd ρ nx ⟨g,cap,false⟩) (D:=dom X'.D nx) (id:=nx) (n:=n+s.len) (.inl rfl) (by rw[upd_same]) (by rw[upd_same];exact e5) hbd.1
        rw[upd_same]at this;exact this
     split at h
     ·rename_i hxn
      obtain⟨hbd,h⟩:=h
      have:=key none s s 0 F (fun _ h=>h) (fun id hid=>by cases hid) (by simpa using hbd) (by simp) hsz (fun j hj=>by omega) (fun j hj=>by simp) (.inl ⟨hxn,rfl,rfl⟩)
      simp only[Nat.zero_add]at this
      exact⟨_,_,h,⟨fun i=>by simp;try omega,by simp,fun _=>rfl⟩,this⟩
     ·rename_i id n hxn
      split at h
      ·rename_i el' r hg
       obtain⟨rfl,hrl,h⟩:=h
       split at h
       ·rename_i q hq
        obtain⟨hbd,h⟩:=h
        obtain⟨a1,a2,a3,a4,a5⟩:=RowC.app_ok hq
        rw[hsz]at a3 a4 a5
        have:=key (some id) r q n (id::F) (fun _ h=>by simp[h]) (fun id' hid=>by cases hid;simp) hbd (by rw[a1,hrl]) (by rw[a2,hsz]) (fun j hj=>a4 j (by rw[hrl];exact hj)) (fun j hj=>by rw[←hrl];exact a5 j hj) (.inr ⟨id,rfl,hxn,hg,hrl,a3⟩)
        exact⟨_,_,h,⟨fun i=>by simp;try omega,by simp,fun _=>rfl⟩,this⟩
       ·exact h.elim
      ·exact h.elim
     ·exact h.elim
    ·exact h.elim
   ·exact h.elim
  ·exact h.elim
 ·exact h.elim
end Go.Mq
namespace Go.Mq
open Go
def pack (ρ:Nat→RB)(D:Nat→Prop)(G:Objs)(g:Ghost):Ghost where
 P I hh:=∃own:Nat→Own,(∀b,own b≠.free→hh b≠none)∧(∀b,own b≠.imm)∧(∀id o,G id=some o→D id)∧(∀id o,G id=some o→ORel I ρ D hh id o) ∧
  (∀id o,G id=some o→(ρ id).isnil=false→own (ρ id).blk=.obj id)∧g.P I (fun b=>match own b with | .gst=>hh b|_=>none)
 mono I J _ hI:=fun⟨own,h1,h2,h3,h4,h5,h6⟩=>⟨own,h1,h2,h3,fun id o e=>(h4 id o e).mono hI (fun _ h=>h) (fun _ _=>rfl) (h3 id o e) (fun _=>rfl),h5,g.mono I J _ hI h6⟩
section
variable {E : Env} {I : Imm} {ρ ρ' ρ₁ ρ₂ : Nat → RB} {D D' D₁ D₂ : Nat → Prop} {G G' G₁ G₂ : Objs} {g : Ghost} {w : World}
theorem heap_ne_none {b:Nat}(h:b < w.heap.size):w.heap[b]?≠none:=by
 rw[Array.getElem?_eq_getElem h];intro e;cases e
theorem Rel.swap (h:Rel E I ρ₁ D₁ G₁ (pack ρ₂ D₂ G₂ g) w):Rel E I ρ₂ D₂ G₂ (pack ρ₁ D₁ G₁ g) w:=by
 obtain⟨own,h⟩:=h
 obtain⟨own2,p1,p2,p3,p4,p5,p6⟩:=h.gst
 have hin:∀b,own2 b≠.free→own b=.gst:=by
  intro b hb
  have:=p1 b hb
  unfold gheap at this
  cases ho:own b with
  | gst=>rfl
  | _=>rw[ho]at this;exact absurd rfl this
 have hgh:∀b,own b=.gst→gheap own w b=w.heap[b]?:=fun b hb=>by unfold gheap;rw[hb]
 let ownN:Nat→Own:=fun b=>match own b with
  | .gst=>own2 b
  | .obj _=>.gst
  | o=>o
 let ownG:Nat→Own:=fun b=>match own b with
  | .gst=>(match own2 b with | .gst=>.gst|_=>.free)
  | .obj i=>.obj i
  | _=>.free
 have ownN_of:∀b i,own2 b=.obj i→ownN b=.obj i:=by
  intro b i hb
  show (match own b with | .gst=>own2 b | .obj _=>Own.gst|o=>o)=_
  rw[hin b (by rw[hb];intro e;cases e)];exact hb
 have N1:∀b i,ownN b=.obj i→own b=.gst∧own2 b=.obj i:=by
  intro b i hb
  have hb:(match own b with | .gst=>own2 b | .obj _=>Own.gst|o=>o)=.obj i:=hb
  cases ho:own b<;>rw[ho]at hb<;>first|exact⟨rfl,hb⟩|cases hb
 have Ng:∀b,ownN b=.gst↔(own b=.gst∧own2 b=.gst)∨∃i,own b=.obj i:=by
  intro b
  show (match own b with | .gst=>own2 b | .obj _=>Own.gst|o=>o)=.gst↔_
  cases ho:own b<;>simp
 refine⟨ownN,⟨h.env,?_,?_,p3,?_,?_,?_⟩⟩
 ·intro b hb
  apply h.lt b
  intro e
  apply hb
  show (match own b with | .gst=>own2 b | .obj _=>Own.gst|o=>o)=_
  rw[e]
 ·intro b c hb
  obtain⟨h1,h2⟩:=h.imm b c hb
  refine⟨?_,h2⟩
  show (match own b with | .gst=>own2 b | .obj _=>Own.gst|o=>o)=_
  rw[h1]
 ·intro id o e
  refine (p4 id o e).mono (Imm.le_refl I) (fun _ h=>h) (fun _ _=>rfl) (p3 id o e) fun hn=>?_
  have:=p5 id o e hn
  exact (hgh _ (hin _ (by rw[this];intro e;cases e))).symm
 ·intro id o e hn
  exact ownN_of _ _ (p5 id o e hn)
 ·refine⟨ownG,?_,?_,h.key,?_,?_,?_⟩
  ·intro b hb
   have hb:(match own b with | .gst=>(match own2 b with | .gst=>Own.gst|_=>.free) | .obj i=>.obj i|_=>.free)≠.free:=hb
   unfold gheap
   have hlt:b < w.heap.size:=h.lt b (by intro e;rw[e]at hb;exact hb rfl)
   have:ownN b=.gst:=by
    rw[Ng]
    cases ho:own b with
    | gst =>
     rw[ho]at hb
     cases ho2:own2 b with
     | gst=>exact .inl ⟨rfl,rfl⟩
     | _=>rw[ho2]at hb;exact absurd rfl hb
    | obj i=>exact .inr ⟨i,rfl⟩
    | _=>rw[ho]at hb;exact absurd rfl hb
   rw[this];exact heap_ne_none hlt
  ·intro b e
   have e:(match own b with | .gst=>(match own2 b with | .gst=>Own.gst|_=>.free) | .obj i=>.obj i|_=>.free)=.imm:=e
   cases ho:own b<;>rw[ho]at e<;>first|(cases e;done)|(cases ho2:own2 b<;>rw[ho2]at e<;>cases e)
  ·intro id o e
   refine (h.obj id o e).mono (Imm.le_refl I) (fun _ h=>h) (fun _ _=>rfl) (h.key id o e) fun hn=>?_
   have:=h.ownd id o e hn
   unfold gheap
   rw[(Ng _).2 (.inr ⟨id,this⟩)]
  ·intro id o e hn
   have:=h.ownd id o e hn
   show (match own (ρ₁ id).blk with | .gst=>(match own2 (ρ₁ id).blk with | .gst=>Own.gst|_=>.free) | .obj i=>.obj i|_=>.free)=_
   rw[this]
  ·have:(fun b=>match ownG b with | .gst=>gheap ownN w b|_=>none)=(fun b=>match own2 b with | .gst=>gheap own w b|_=>none):=by
    funext b
    show (match (match own b with | .gst=>(match own2 b with | .gst=>Own.gst|_=>.free) | .obj i=>.obj i|_=>.free) with | .gst=>gheap ownN w b|_=>none)=_
    cases ho:own b with
    | gst =>
     cases ho2:own2 b with
     | gst=>simp only[];rw[hgh b ho];unfold gheap;rw[(Ng b).2 (.inl ⟨ho,ho2⟩)]
     | _=>rfl
    | _ =>
     cases ho2:own2 b with
     | gst=>have:=hin b (by rw[ho2];intro e;cases e);rw[ho]at this;cases this
     | _=>rfl
   rw[this];exact p6
theorem Rel.aside (h:Rel E I ρ D G g w):Rel E I ρ' D' (fun _=>none) (pack ρ D G g) w:=by
 obtain⟨own,h⟩:=h
 let ownN:Nat→Own:=fun b=>match own b with
  | .obj _=>.gst
  | o=>o
 let ownG:Nat→Own:=fun b=>match own b with
  | .imm=>.free
  | o=>o
 have Ng:∀b,ownN b=.gst↔own b=.gst∨∃i,own b=.obj i:=by
  intro b
  show (match own b with | .obj _=>Own.gst|o=>o)=.gst↔_
  cases ho:own b<;>simp
 refine⟨ownN,⟨h.env,?_,?_,fun _ _ e=>(by cases e),fun _ _ e=>(by cases e),fun _ _ e=>(by cases e),ownG,?_,?_,h.key,?_,?_,?_⟩⟩
 ·intro b hb
  apply h.lt b
  intro e
  apply hb
  show (match own b with | .obj _=>Own.gst|o=>o)=_
  rw[e]
 ·intro b c hb
  obtain⟨h1,h2⟩:=h.imm b c hb
  refine⟨?_,h2⟩
  show (match own b with | .obj _=>Own.gst|o=>o)=_
  rw[h1]
 ·intro b hb
  have hb:(match own b with | .imm=>Own.free|o=>o)≠.free:=hb
  have hlt:b < w.heap.size:=h.lt b (by intro e;rw[e]at hb;exact hb rfl)
  unfold gheap
  have:ownN b=.gst:=by
   rw[Ng]
   cases ho:own b with
   | gst=>exact .inl rfl
   | obj i=>exact .inr ⟨i,rfl⟩
   | _=>rw[ho]at hb;exact absurd rfl hb
  rw[this];exact heap_ne_none hlt
 ·intro b e
  have e:(match own b with | .imm=>Own.free|o=>o)=.imm:=e
  cases ho:own b<;>rw[ho]at e<;>cases e
 ·intro id o e
  refine (h.obj id o e).mono (Imm.le_refl I) (fun _ h=>h) (fun _ _=>rfl) (h.key id o e) fun hn=>?_
  have:=h.ownd id o e hn
  unfold gheap
  rw[(Ng _).2 (.inr ⟨id,this⟩)]
 ·intro id o e hn
  have:=h.ownd id o e hn
  show (match own (ρ id).blk with | .imm=>Own.free|o=>o)=_
  rw[this]
 ·have:(fun b=>match ownG b with | .gst=>gheap ownN w b|_=>none)=gheap own w:=by
   funext b
   show (match (match own b with | .imm=>Own.free|o=>o) with | .gst=>gheap ownN w b|_=>none)=_
   unfold gheap
   cases ho:own b with
   | gst=>simp only[];rw[(Ng b).2 (.inl ho)]
   | _=>rfl
  rw[this];exact h.gst
theorem Rel.join (h:Rel E I ρ D G₁ (pack ρ₂ D₂ G₂ g) w)(hD:∀id,D₂ id→D id)(hρ:∀id,D₂ id→ρ id=ρ₂ id):Rel E I ρ D (fun i=>match G₁ i with|some o=>some o|none=>G₂ i) g w:=by
 obtain⟨own,h⟩:=h
 obtain⟨own2,p1,p2,p3,p4,p5,p6⟩:=h.gst
 have hin:∀b,own2 b≠.free→own b=.gst:=by
  intro b hb
  have:=p1 b hb
  unfold gheap at this
  cases ho:own b with
  | gst=>rfl
  | _=>rw[ho]at this;exact absurd rfl this
 have hgh:∀b,own b=.gst→gheap own w b=w.heap[b]?:=fun b hb=>by unfold gheap;rw[hb]
 let ownN:Nat→Own:=fun b=>match own b with
  | .gst=>own2 b
  | o=>o
 refine⟨ownN,⟨h.env,?_,?_,?_,?_,?_,?_⟩⟩
 ·intro b hb
  apply h.lt b
  intro e
  apply hb
  show (match own b with | .gst=>own2 b|o=>o)=_
  rw[e]
 ·intro b c hb
  obtain⟨h1,h2⟩:=h.imm b c hb
  refine⟨?_,h2⟩
  show (match own b with | .gst=>own2 b|o=>o)=_
  rw[h1]
 ·intro i o e
  split at e
  ·cases e;exact h.key i _ ‹_›
  ·exact hD i (p3 i o e)
 ·intro i o e
  split at e
  ·cases e;exact h.obj i _ ‹_›
  ·refine (p4 i o e).mono (Imm.le_refl I) hD hρ (p3 i o e) fun hn=>?_
   have:=p5 i o e hn
   exact (hgh _ (hin _ (by rw[this];intro e;cases e))).symm
 ·intro i o e hn
  split at e
  ·have:=h.ownd i _ ‹_› hn
   show (match own (ρ i).blk with | .gst=>own2 (ρ i).blk|o=>o)=_
   rw[this]
  ·rw[hρ i (p3 i o e)]at hn ⊢
   have:=p5 i o e hn
   show (match own (ρ₂ i).blk with | .gst=>own2 (ρ₂ i).blk|o=>o)=_
   rw[hin _ (by rw[this];intro e;cases e)];exact this
 ·have:gheap ownN w=(fun b=>match own2 b with | .gst=>gheap own w b|_=>none):=by
   funext b
   unfold gheap
   show (match (match own b with | .gst=>own2 b|o=>o) with | .gst=>w.heap[b]?|_=>none)=_
   cases ho:own b with
   | gst=>cases ho2:own2 b<;>rfl
   | _ =>
    cases ho2:own2 b with
    | gst=>exact absurd (hin b (by rw[ho2];intro e;cases e)) (by rw[ho];intro e;cases e)
    | _=>rfl
  rw[this];exact p6
theorem Rel.back (h:Rel E I ρ₁ D₁ G₁ (pack ρ D G g) w):Rel E I ρ D G g w:=by
 have h2:=h.swap
 obtain⟨own,h2⟩:=h2
 obtain⟨own2,p1,p2,p3,p4,p5,p6⟩:=h2.gst
 have hin:∀b,own2 b≠.free→own b=.gst:=by
  intro b hb
  have:=p1 b hb
  unfold gheap at this
  cases ho:own b with
  | gst=>rfl
  | _=>rw[ho]at this;exact absurd rfl this
 let ownN:Nat→Own:=fun b=>match own b with
  | .gst=>(match own2 b with | .gst=>.gst|_=>.free)
  | o=>o
 refine⟨ownN,⟨h2.env,?_,?_,h2.key,h2.obj,?_,?_⟩⟩
 ·intro b hb
  apply h2.lt b
  intro e
  apply hb
  show (match own b with | .gst=>(match own2 b with | .gst=>Own.gst|_=>.free)|o=>o)=_
  rw[e]
 ·intro b c hb
  obtain⟨h1,h3⟩:=h2.imm b c hb
  refine⟨?_,h3⟩
  show (match own b with | .gst=>(match own2 b with | .gst=>Own.gst|_=>.free)|o=>o)=_
  rw[h1]
 ·intro i o e hn
  have:=h2.ownd i o e hn
  show (match own (ρ i).blk with | .gst=>(match own2 (ρ i).blk with | .gst=>Own.gst|_=>.free)|o=>o)=_
  rw[this]
 ·have:gheap ownN w=(fun b=>match own2 b with | .gst=>gheap own w b|_=>none):=by
   funext b
   unfold gheap
   show (match (match own b with | .gst=>(match own2 b with | .gst=>Own.gst|_=>.free)|o=>o) with | .gst=>w.heap[b]?|_=>none)=_
   cases ho:own b with
   | gst=>cases ho2:own2 b<;>rfl
   | _ =>
    cases ho2:own2 b with
    | gst=>exact absurd (hin b (by rw[ho2];intro e;cases e)) (by rw[ho];intro e;cases e)
    | _=>rfl
  rw[this];exact p6
end
end Go.Mq
namespace Go.Mq
open Go
def zeroRow (z:Value)(n:Nat):Option RowC:=match z with
 | .int k a=>some (.ints k (List.replicate n a))
 | .bool b=>some (.bools (List.replicate n b))
 | .pointer none=>some (.trees (List.replicate n .nil))
 | .string s=>some (.strs (List.replicate n s))
 | _=>none
theorem zeroRow_ok {z:Value}{n:Nat}{r:RowC}(h:zeroRow z n=some r):r.len=n∧r.sz=1∧z.cells=#[z]∧∀(I:Imm) (ρ:Nat→RB) (D:Nat→Prop) (i:Nat),i < n→CA I ρ D (r.cell i) z:=by
 have g:∀{α:Type} (x d:α) (i:Nat),i < n→(List.replicate n x).getD i d=x:=fun x d i hi=>by simp[hi]
 unfold zeroRow at h
 split at h
 ·cases h;exact⟨by simp[RowC.len],rfl,rfl,fun I ρ D i hi=>by simp only[RowC.cell];rw[g _ _ _ hi];exact .d .int⟩
 ·cases h;exact⟨by simp[RowC.len],rfl,rfl,fun I ρ D i hi=>by simp only[RowC.cell];rw[g _ _ _ hi];exact .d .bool⟩
 ·cases h;exact⟨by simp[RowC.len],rfl,rfl,fun I ρ D i hi=>by simp only[RowC.cell];rw[g _ _ _ hi];exact .d (.tree .nil)⟩
 ·cases h;exact⟨by simp[RowC.len],rfl,rfl,fun I ρ D i hi=>by simp only[RowC.cell];rw[g _ _ _ hi];exact .d .str⟩
 ·cases h
def bytesOf (l:List Int):ByteArray:=l.foldl (fun s n=>s.push (UInt8.ofNat n.toNat)) ByteArray.empty
def mem3K (tt:List (Nat×TI))(op:Op)(ev:Operand→AVal)(get:Objs)(nx:Nat)(K:List Nat→Eff→Prop):Prop :=
 match op with
 | .makeSlice t l c =>
  match ttl tt t with
  | some i=>match i.desc with
   | .slice e=>match ttl tt e with
    | some ie=>match ev l,ev c with
     | .d (.int _ a),.d (.int _ b)=>Side (a=b) <| Side (0≤a) <| Side (a≤16777216∧i.ebytes*a≤140737488355328) <| match zeroRow ie.zero a.toNat with
      | some r=>K [] ⟨.row nx a.toNat,[(nx,some (.row e r))],[nx],none⟩
      | none=>False
     | _,_=>False
    | none=>False
   | _=>False
  | none=>False
 | .makeMap _ none=>K [] ⟨.mp nx,[(nx,some (.set []))],[nx],none⟩
 | .lookup t m k false =>
  match ttl tt t with
  | some i=>match i.desc with
   | .map kt et=>match ttl tt kt,ttl tt et with
    | some ik,some ie=>Side (ik.desc=.string) <| Side (ie.zero=.bool false) <| match ev m,ev k with
     | .mp id,.d (.str s)=>match get id with
      | some (.set l)=>K [id] (one1 (.d (.bool (memB s l))))
      | _=>False
     | _,_=>False
    | _,_=>False
   | _=>False
  | none=>False
 | .mapUpdate t m k x =>
  match ttl tt t with
  | some i=>match i.desc with
   | .map kt _=>match ttl tt kt with
    | some ik=>Side (ik.desc=.string) <| match ev m,ev k,ev x with
     | .mp id,.d (.str s),.d (.bool b)=>Side (b=true) <| match get id with
      | some (.set l)=>K [id] ⟨.und,[(id,some (.set (s::l)))],[],none⟩
      | _=>False
     | _,_,_=>False
    | none=>False
   | _=>False
  | none=>False
 | .mapEntry t m k =>
  match ttl tt t with
  | some i=>match i.desc with
   | .map kt et=>match ttl tt kt,ttl tt et with
    | some ik,some ie=>Side (ik.desc=.string) <| Side (ie.zero=.bool false) <| match ev m,ev k with
     | .mp id,.d (.str s)=>match get id with
      | some (.set l)=>Side (memB s l=false) <| K [id] ⟨.tuple [.d (.bool false),.d (.int .i64 (uniqB l).length)],[(id,some (.setp l s))],[],none⟩
      | _=>False
     | _,_=>False
    | _,_=>False
   | _=>False
  | none=>False
 | .entryStore _ m n x =>
  match ev m,ev n,ev x with
  | .mp id,.d (.int _ k),.d (.bool b)=>Side (b=true) <| match get id with
   | some (.setp l s)=>Side (k=(uniqB l).length) <| K [id] ⟨.und,[(id,some (.set (s::l)))],[],none⟩
   | _=>False
  | _,_,_=>False
 | .convert s d x =>
  match ttl tt s,ttl tt d,ev x with
  | some i,some j,.row id n=>match i.desc with
   | .slice e=>match ttl tt e with
    | some ie=>Side (ie.desc=.int .u8) <| Side (j.desc=.string) <| match get id with
     | some (.row _ (.ints .u8 l))=>Side (l.length=n) <| K [id] (one1 (.d (.str (bytesOf l))))
     | _=>False
    | none=>False
   | _=>False
  | _,_,_=>False
 | _=>False
theorem findNow_str {s:ByteArray}:∀(es:List MapEntry) (i:Nat),(∀e∈es,∃s',e.key=.string s'∧e.val=.bool true) →
  (∃j,Instr.findNow .string (.string s) es i=some (some (i+j,.bool true))∧∃e,es[j]?=some e∧e.key=.string s)∨(Instr.findNow .string (.string s) es i=some none∧∀e∈es,e.key≠.string s)
 | [],i,_=>.inr ⟨rfl,fun e he=>by simp at he⟩
 | e::es,i,h=>by
  obtain⟨s',h1,h2⟩:=h e (by simp)
  simp only[Instr.findNow,h1,Instr.sameNow]
  by_cases hs:s=s'
  ·subst hs
   have hb:(s == s)=true:=(MapKept.bytes_beq s s).2 rfl
   refine .inl ⟨0,by simp[h2,hb],e,rfl,h1⟩
  ·have hb:(s == s')=false:=by
    cases hq:s == s' with
    | true=>exact absurd ((MapKept.bytes_beq s s').1 hq) hs
    | false=>rfl
   rw[hb]
   rcases findNow_str es (i+1) (fun e he=>h e (by simp[he])) with⟨j,h3,e',h4,h5⟩|⟨h3,h4⟩
   ·refine .inl ⟨j+1,?_,e',by simpa using h4,h5⟩
    simp only[h3]
    congr 3
    omega
   ·refine .inr ⟨h3,fun e' he'=>?_⟩
    rcases List.mem_cons.1 he' with rfl|he'
    ·rw[h1];intro e;cases e;exact hs rfl
    ·exact h4 e' he'
section
variable {P : Program} {E : Env} {tt : List (Nat × TI)} {dst : Option Tmp} {T : TypeId} {pos : String} {aft : Array Edge} {gd : Option (Nat × Bool)} {X : FS} {nx : Nat} {K : List Nat → Eff → Prop}
theorem makeSlice_ok (htt:TTok P tt){t:Nat}{l c:Operand}(hd:dstOk dst X.n)(h:mem3K tt (.makeSlice t l c) (evT X.T) X.G nx K):∃F e,K F e∧EffOK F false nx e∧OpL P E ⟨dst,.makeSlice t l c,T,pos,aft,gd⟩ F false X e:=by
 simp only[mem3K]at h
 split at h
 ·rename_i i hi
  have hT:=htt t i hi
  split at h
  ·rename_i e he
   split at h
   ·rename_i ie hie
    have hTe:=htt e ie hie
    split at h
    ·rename_i k a k' b hl hc
     obtain⟨rfl,h0,⟨h1,h2⟩,h⟩:=h
     split at h
     ·rename_i r hr
      obtain⟨r1,r2,r3,r4⟩:=zeroRow_ok hr
      obtain⟨f,hf1,hf2,hf3,z,hz,hzs⟩:=hT.elem e he
      obtain⟨f',hg1,hg2,hg3,hg4⟩:=hTe.info
      rw[hf1]at hg1;cases hg1
      have hzz:z=ie.zero:=by rw[hz]at hg4;cases hg4;rfl
      subst hzz
      have hsz:i.esz=1:=by rw[←hzs,r3];rfl
      have hu:=hT.und
      rw[he]at hu
      refine⟨_,_,h,⟨fun i=>by simp;try omega,by simp,fun _=>rfl⟩,alloc_L (cap:=a.toNat) hd fun X' _ hx I ρ ac w hr' hnd=>?_⟩
      have hlv:=hr'.ev l
      rw[hx l (by simp[Op.operands]),hl]at hlv
      have hcv:=hr'.ev c
      rw[hx c (by simp[Op.operands]),hc]at hcv
      have hrun:=run_makeSlice w t e f ie.zero hu hf1 hz k k' a a h0 (Int.le_refl _) (by rw[hf2,hsz];omega) (by rw[hf3];omega) (by omega)
      refine⟨.slice (some ⟨w.heap.size,0,none⟩) a.toNat a.toNat,.cells (madeCells ie.zero.cells (a.toNat*f.size)) e,?_,fun ρ' q1 q2=>⟨.inr ?_,?_⟩⟩
      ·simp only[execOp,hlv.int,hcv.int,Sem.run_bind,hrun,Result.andThen_ok];rfl
      ·refine⟨by rw[q1],by rw[q1,r1];exact Nat.le_refl _,⟨by rw[r1];unfold maxN;omega,by rw[q1];simp only[];omega⟩,madeCells ie.zero.cells (a.toNat*f.size),by rw[q1];exact heap_alloc_new,by rw[q1,r2,size_madeCells,hf2,hsz],fun j hj=>?_⟩
       rw[r1,r2,Nat.mul_one]at hj
       have:(madeCells ie.zero.cells (a.toNat*f.size)).getD j undef=ie.zero:=by
        rw[r3]
        unfold madeCells
        rw[hf2,hsz,Nat.mul_one]
        simp[hj,Nat.mod_one]
       rw[this]
       exact r4 I ρ' _ j hj
      ·have:=CA.row (I:=I) (ρ:=ρ') (D:=dom X'.D nx) (id:=nx) (n:=a.toNat) (.inl rfl) (by rw[q1]) (by rw[q1];exact Nat.le_refl _) (by unfold maxN;omega)
       rw[q1]at this;exact this
     ·exact h.elim
    ·exact h.elim
   ·exact h.elim
  ·exact h.elim
 ·exact h.elim
theorem makeMap_ok {t:Nat}(hd:dstOk dst X.n)(h:mem3K tt (.makeMap t none) (evT X.T) X.G nx K):∃F e,K F e∧EffOK F false nx e∧OpL P E ⟨dst,.makeMap t none,T,pos,aft,gd⟩ F false X e:=by
 simp only[mem3K]at h
 refine⟨_,_,h,⟨fun i=>by simp;try omega,by simp,fun _=>rfl⟩,alloc_L (cap:=0) hd fun X' _ hx I ρ a w hr hnd=>?_⟩
 refine⟨.map (some w.heap.size),.map #[] 0,rfl,fun ρ' h1 h2=>⟨?_,?_⟩⟩
 ·exact⟨by rw[h1],by rw[h1];exact heap_alloc_new⟩
 ·have:=CA.mp (I:=I) (ρ:=ρ') (D:=dom X'.D nx) (id:=nx) (.inl rfl)
  rw[h1]at this;exact this
theorem mp_inv' {I:Imm}{ρ:Nat→RB}{D:Nat→Prop}{id:Nat}{v:Value}(h:CA I ρ D (.mp id) v):v=.map (some (ρ id).blk):=by cases h;rfl
theorem set_old {l:List ByteArray}:(∀e∈(setA l).toList,∃s,e.key=.string s∧e.val=.bool true∧s∈l)∧∀s∈l,∃e∈(setA l).toList,e.key=.string s:=by
 refine⟨fun e he=>?_,fun s hs=>?_⟩
 ·obtain⟨s,h1,h2,h3,_⟩:=entsB_mem (by simpa [setA] using he)
  exact⟨s,h1,h2,uniqB_mem.1 h3⟩
 ·obtain⟨e,h1,h2⟩:=entsB_of (k:=0) (uniqB_mem.2 hs)
  exact⟨e,by simpa [setA] using h1,h2⟩
theorem setA_old {s:ByteArray}{l:List ByteArray}(h:memB s l=true):setA (s::l)=setA l∧uniqB (s::l)=uniqB l:=by
 have e:uniqB (s::l)=uniqB l:=by rw[uniqB,if_pos h]
 exact⟨by unfold setA;rw[e],e⟩
theorem setA_new {s:ByteArray}{l:List ByteArray}(h:memB s l=false):setA (s::l)=(setA l).push ⟨.string s,.bool true,(uniqB l).length⟩∧uniqB (s::l)=uniqB l++[s]:=by
 have e:uniqB (s::l)=uniqB l++[s]:=by rw[uniqB,if_neg (by simp[h])]
 refine⟨?_,e⟩
 unfold setA
 rw[e,entsB_app]
 simp
theorem run_getMap {w:World}{r:Nat}{es:Array MapEntry}{c:Nat}(h:w.heap[r]?=some (.map es c)):(getObj r).run P w=.ok (.map es c) w:=by
 simp[getObj,Sem.run,h]
theorem lookup_ok (htt:TTok P tt){t:Nat}{m k:Operand}(hd:dstOk dst X.n)(h:mem3K tt (.lookup t m k false) (evT X.T) X.G nx K):∃F e,K F e∧EffOK F false nx e∧OpL P E ⟨dst,.lookup t m k false,T,pos,aft,gd⟩ F false X e:=by
 simp only[mem3K]at h
 split at h
 ·rename_i i hi
  have hu:=(htt t i hi).und
  split at h
  ·rename_i kt et he
   rw[he]at hu
   split at h
   ·rename_i ik ie hik hie
    obtain⟨hk1,hz1,h⟩:=h
    have huk:=(htt kt ik hik).und
    rw[hk1]at huk
    split at h
    ·rename_i id s hm hs
     split at h
     ·rename_i l hg
      refine⟨_,_,h,.one,read_L hd fun X' _ hxx hgg I ρ a w hr=>?_⟩
      have hv:=hr.ev m
      rw[hxx m (by simp[Op.operands]),hm]at hv
      have hkv:=hr.ev k
      rw[hxx k (by simp[Op.operands]),hs]at hkv
      obtain⟨o1,o2⟩:=rel_obj hr (by rw[hgg id (by simp)];exact hg)
      obtain⟨o3,o4⟩:=set_old (l:=l)
      generalize setA l=es at *
      generalize (uniqB l).length=cl at *
      have hall:∀e∈es.toList,∃s',e.key=.string s'∧e.val=.bool true:=fun e he=>by
       obtain⟨s',q1,q2,_⟩:=o3 e he
       exact⟨s',q1,q2⟩
      have hck:∀(b:Bool) (w:World),(Instr.checkKey b 10000 kt (.string s)).run P w=.ok () w:=fun b w=>MapKept.run_checkKey huk (by simp[MapKept.IsKey]) b 9999
      refine⟨.bool (memB s l),?_,.d .bool⟩
      rcases findNow_str (s:=s) es.toList 0 hall with⟨j,f1,e,f2,f3⟩|⟨f1,f2⟩
      ·have hin:s∈l:=by
        obtain⟨s',q1,_,q3⟩:=o3 e (List.mem_of_getElem? f2)
        rw[f3]at q1;cases q1;exact q3
       have hfk:∀w:World,(Instr.findKey kt (.string s) es.toList).run P w=.ok (some (0+j,.bool true)) w:=fun w=>MapKept.run_findKey huk f1
       simp[execOp,Instr.lookup,underlying,hu,mp_inv' hv,hkv.str,run_getMap o2,hck,hfk,memB_iff.2 hin]
      ·have hni:memB s l=false:=by
        cases hq:memB s l with
        | true=>obtain⟨e,q1,q2⟩:=o4 s (memB_iff.1 hq);exact absurd q2 (f2 e q1)
        | false=>rfl
       have hfk:∀w:World,(Instr.findKey kt (.string s) es.toList).run P w=.ok none w:=fun w=>MapKept.run_findKey huk f1
       have hzr:∀w:World,(zeroValue et).run P w=.ok (.bool false) w:=fun w=>by rw[(htt et ie hie).run_zero,hz1]
       simp[execOp,Instr.lookup,underlying,hu,mp_inv' hv,hkv.str,run_getMap o2,hck,hfk,hzr,hni]
     ·exact h.elim
    ·exact h.elim
   ·exact h.elim
  ·exact h.elim
 ·exact h.elim
theorem mapUpdate_ok (htt:TTok P tt){t:Nat}{m k x:Operand}(hd:dstOk dst X.n)(h:mem3K tt (.mapUpdate t m k x) (evT X.T) X.G nx K):∃F e,K F e∧EffOK F false nx e∧OpL P E ⟨dst,.mapUpdate t m k x,T,pos,aft,gd⟩ F false X e:=by
 simp only[mem3K]at h
 split at h
 ·rename_i i hi
  have hu:=(htt t i hi).und
  split at h
  ·rename_i kt et he
   rw[he]at hu
   split at h
   ·rename_i ik hik
    obtain⟨hk1,h⟩:=h
    have huk:=(htt kt ik hik).und
    rw[hk1]at huk
    split at h
    ·rename_i id s b hm hs hx0
     obtain⟨rfl,h⟩:=h
     split at h
     ·rename_i l hg
      refine⟨_,_,h,⟨fun i=>by simp;try omega,by simp,fun _=>rfl⟩,store_L hd hg fun X' _ hxx hgg I ρ a w hr=>?_⟩
      have hv:=hr.ev m
      rw[hxx m (by simp[Op.operands]),hm]at hv
      have hkv:=hr.ev k
      rw[hxx k (by simp[Op.operands]),hs]at hkv
      have hxv:=hr.ev x
      rw[hxx x (by simp[Op.operands]),hx0]at hxv
      obtain⟨o1,o2⟩:=rel_obj hr hgg
      obtain⟨o3,o4⟩:=set_old (l:=l)
      have o2:w.heap[(ρ id).blk]?=some (.map (setA l) (uniqB l).length):=o2
      have hlt:(ρ id).blk < w.heap.size:=by
       rw[Array.getElem?_eq_some_iff]at o2;exact o2.1
      have hall:∀e∈(setA l).toList,∃s',e.key=.string s'∧e.val=.bool true:=fun e he=>by
       obtain⟨s',q1,q2,_⟩:=o3 e he
       exact⟨s',q1,q2⟩
      have hck:∀(b:Bool) (w:World),(Instr.checkKey b 10000 kt (.string s)).run P w=.ok () w:=fun b w=>MapKept.run_checkKey huk (by simp[MapKept.IsKey]) b 9999
      have fin:∀(es':Array MapEntry) (cl':Nat),es'=setA (s::l)→cl'=(uniqB (s::l)).length →
        ((execOp a.eval ⟨dst,.mapUpdate t m k x,T,pos,aft,gd⟩).run P w=.ok .skip { w with heap:=w.heap.setIfInBounds (ρ id).blk (.map es' cl') }) →
        ∃w',(execOp a.eval ⟨dst,.mapUpdate t m k x,T,pos,aft,gd⟩).run P w=.ok .skip w'∧(ρ id).isnil=false∧World.env w'=World.env w∧w'.heap.size=w.heap.size∧(∀b,b≠(ρ id).blk→w'.heap[b]?=w.heap[b]?)∧ORel I ρ X'.D (fun b=>w'.heap[b]?) id (.set (s::l)):=by
       intro es' cl' p1 p2 p3
       refine⟨_,p3,o1,rfl,by simp,fun b hb=>?_,o1,?_⟩
       ·simp only[];rw[Array.getElem?_setIfInBounds_ne (Ne.symm hb)]
       ·simp only[];rw[Array.getElem?_setIfInBounds_self_of_lt hlt,p1,p2]
      rcases findNow_str (s:=s) (setA l).toList 0 hall with⟨j,f1,e,f2,f3⟩|⟨f1,f2⟩
      ·have hfk:∀w:World,(Instr.findKey kt (.string s) (setA l).toList).run P w=.ok (some (0+j,.bool true)) w:=fun w=>MapKept.run_findKey huk f1
       have hej:(setA l)[j]?=some e:=by simpa using f2
       have hks:Instr.sameBits 10000 (.string s) (.string s)=true:=(MapKept.bytes_beq s s).2 rfl
       obtain⟨s',q1,q2,q3⟩:=o3 e (List.mem_of_getElem? f2)
       have hss:s'=s:=by rw[f3]at q1;cases q1;rfl
       subst hss
       obtain⟨g1,g2⟩:=setA_old (memB_iff.2 q3)
       refine fin ((setA l).modify j fun e=>{ e with key:=.string s',val:=.bool true }) (uniqB l).length ?_ (by rw[g2]) ?_
       ·rw[g1]
        refine Array.ext (by simp) fun i h1 h2=>?_
        rw[Array.getElem_modify]
        split
        ·rename_i hij
         subst hij
         have hee:(setA l)[j]=e:=by rw[Array.getElem?_eq_some_iff]at hej;exact hej.2
         rw[hee]
         cases e
         simp only at f3 q2
         subst f3 q2
         rfl
        ·rfl
       ·simp[execOp,Instr.mapUpdate,underlying,hu,mp_inv' hv,hkv.str,hxv.bool,run_getMap o2,hck,hfk,hej,f3,Instr.keyThatStays,hks,MapKept.run_setObj_map _ o2]
      ·have hfk:∀w:World,(Instr.findKey kt (.string s) (setA l).toList).run P w=.ok none w:=fun w=>MapKept.run_findKey huk f1
       have hni:memB s l=false:=by
        cases hq:memB s l with
        | true=>obtain⟨e,q1,q2⟩:=o4 s (memB_iff.1 hq);exact absurd q2 (f2 e q1)
        | false=>rfl
       obtain⟨g1,g2⟩:=setA_new hni
       refine fin ((setA l).push { key:=.string s,val:=.bool true,born:=(uniqB l).length }) ((uniqB l).length+1) g1.symm (by rw[g2];simp) ?_
       simp[execOp,Instr.mapUpdate,underlying,hu,mp_inv' hv,hkv.str,hxv.bool,run_getMap o2,hck,hfk,MapKept.run_setObj_map _ o2]
     ·exact h.elim
    ·exact h.elim
   ·exact h.elim
  ·exact h.elim
 ·exact h.elim
theorem mapEntry_ok (htt:TTok P tt){t:Nat}{m k:Operand}(hd:dstOk dst X.n)(h:mem3K tt (.mapEntry t m k) (evT X.T) X.G nx K):∃F e,K F e∧EffOK F false nx e∧OpL P E ⟨dst,.mapEntry t m k,T,pos,aft,gd⟩ F false X e:=by
 simp only[mem3K]at h
 split at h
 ·rename_i i hi
  have hu:=(htt t i hi).und
  split at h
  ·rename_i kt et he
   rw[he]at hu
   split at h
   ·rename_i ik ie hik hie
    obtain⟨hk1,hz1,h⟩:=h
    have huk:=(htt kt ik hik).und
    rw[hk1]at huk
    split at h
    ·rename_i id s hm hs
     split at h
     ·rename_i l hg
      obtain⟨hni,h⟩:=h
      refine⟨_,_,h,⟨fun i=>by simp;try omega,by simp,fun _=>rfl⟩,storeV_L hd hg fun X' _ hxx hgg I ρ a w hr=>?_⟩
      have hv:=hr.ev m
      rw[hxx m (by simp[Op.operands]),hm]at hv
      have hkv:=hr.ev k
      rw[hxx k (by simp[Op.operands]),hs]at hkv
      obtain⟨o1,o2⟩:=rel_obj hr hgg
      obtain⟨o3,o4⟩:=set_old (l:=l)
      have o2:w.heap[(ρ id).blk]?=some (.map (setA l) (uniqB l).length):=o2
      have hlt:(ρ id).blk < w.heap.size:=by
       rw[Array.getElem?_eq_some_iff]at o2;exact o2.1
      have hall:∀e∈(setA l).toList,∃s',e.key=.string s'∧e.val=.bool true:=fun e he=>by
       obtain⟨s',q1,q2,_⟩:=o3 e he
       exact⟨s',q1,q2⟩
      have hck:∀(b:Bool) (w:World),(Instr.checkKey b 10000 kt (.string s)).run P w=.ok () w:=fun b w=>MapKept.run_checkKey huk (by simp[MapKept.IsKey]) b 9999
      rcases findNow_str (s:=s) (setA l).toList 0 hall with⟨j,f1,e,f2,f3⟩|⟨f1,f2⟩
      ·exfalso
       obtain⟨s',q1,_,q3⟩:=o3 e (List.mem_of_getElem? f2)
       rw[f3]at q1
       cases q1
       rw[memB_iff.2 q3]at hni;cases hni
      ·have hfk:∀w:World,(Instr.findKey kt (.string s) (setA l).toList).run P w=.ok none w:=fun w=>MapKept.run_findKey huk f1
       have hzr:∀w:World,(zeroValue et).run P w=.ok (.bool false) w:=fun w=>by rw[(htt et ie hie).run_zero,hz1]
       refine⟨.tuple #[.bool false,goInt (uniqB l).length],{ w with heap:=w.heap.setIfInBounds (ρ id).blk (.map ((setA l).push ⟨.string s,.bool false,(uniqB l).length⟩) ((uniqB l).length+1)) },?_,?_,o1,rfl,by simp,fun b hb=>?_,o1,hni,?_⟩
       ·simp[execOp,Instr.mapEntry,underlying,hu,mp_inv' hv,hkv.str,run_getMap o2,hck,hfk,hzr,MapKept.run_setObj_map _ o2]
       ·refine .tuple rfl fun i hi=>?_
        have hi:i < 2:=by simpa using hi
        match i,hi with
        | 0,_=>exact .d .bool
        | 1,_=>exact .d .int
       ·simp only[];rw[Array.getElem?_setIfInBounds_ne (Ne.symm hb)]
       ·simp only[];rw[Array.getElem?_setIfInBounds_self_of_lt hlt]
     ·exact h.elim
    ·exact h.elim
   ·exact h.elim
  ·exact h.elim
 ·exact h.elim
theorem findIdx_push {l:List ByteArray}{x:MapEntry}{n:Nat}(hx:x.born=n)(hn:n=l.length):((entsB 0 l).toArray.push x).findIdx? (fun e=>(e.born:Int) == (n:Int))=some n:=by
 rw[Array.findIdx?_push]
 have h0:(entsB 0 l).toArray.findIdx? (fun e=>(e.born:Int) == (n:Int))=none:=by
  rw[Array.findIdx?_eq_none_iff]
  intro e he
  obtain⟨_,_,_,_,_,h⟩:=entsB_mem (by simpa using he)
  simp;omega
 rw[h0]
 simp[hx,entsB_len,hn]
theorem entryStore_ok {t:Nat}{m n x:Operand}(hd:dstOk dst X.n)(h:mem3K tt (.entryStore t m n x) (evT X.T) X.G nx K):∃F e,K F e∧EffOK F false nx e∧OpL P E ⟨dst,.entryStore t m n x,T,pos,aft,gd⟩ F false X e:=by
 simp only[mem3K]at h
 split at h
 ·rename_i id kk k b hm hs hx0
  obtain⟨rfl,h⟩:=h
  split at h
  ·rename_i l s hg
   obtain⟨rfl,h⟩:=h
   refine⟨_,_,h,⟨fun i=>by simp;try omega,by simp,fun _=>rfl⟩,store_L hd hg fun X' _ hxx hgg I ρ a w hr=>?_⟩
   have hv:=hr.ev m
   rw[hxx m (by simp[Op.operands]),hm]at hv
   have hkv:=hr.ev n
   rw[hxx n (by simp[Op.operands]),hs]at hkv
   have hxv:=hr.ev x
   rw[hxx x (by simp[Op.operands]),hx0]at hxv
   obtain⟨o1,o3,o2⟩:=rel_obj hr hgg
   have o2:w.heap[(ρ id).blk]?=some (.map ((setA l).push ⟨.string s,.bool false,(uniqB l).length⟩) ((uniqB l).length+1)):=o2
   have hlt:(ρ id).blk < w.heap.size:=by
    rw[Array.getElem?_eq_some_iff]at o2;exact o2.1
   obtain⟨g1,g2⟩:=setA_new o3
   have hidx:((setA l).push ⟨.string s,.bool false,(uniqB l).length⟩).findIdx? (fun e=>((e.born:Nat):Int) == (((uniqB l).length:Nat):Int))=some (uniqB l).length:=findIdx_push rfl rfl
   have hsz:(setA l).size=(uniqB l).length:=by simp[setA,entsB_len]
   have hmod:((setA l).push ⟨.string s,.bool false,(uniqB l).length⟩).modify (uniqB l).length (fun e=>{ e with val:=.bool true })=setA (s::l):=by
    rw[g1]
    refine Array.ext (by simp) fun i h1 h2=>?_
    rw[Array.getElem_modify,Array.getElem_push,Array.getElem_push]
    simp only[hsz]
    have h1':i < (uniqB l).length+1:=by simpa [hsz] using h1
    by_cases hi:i < (uniqB l).length
    ·rw[ifn,dif_pos hi,dif_pos hi]
    ·have:(uniqB l).length=i:=by omega
     rw[if_pos this,dif_neg hi,dif_neg hi]
   refine⟨{ w with heap:=w.heap.setIfInBounds (ρ id).blk (.map (setA (s::l)) ((uniqB l).length+1)) },?_,o1,rfl,by simp,fun b hb=>?_,o1,?_⟩
   ·simp[execOp,Instr.entryStore,mp_inv' hv,hkv.int,hxv.bool,run_getMap o2,asInt,asIntOf,hidx,hmod,MapKept.run_setObj_map _ o2]
   ·simp only[];rw[Array.getElem?_setIfInBounds_ne (Ne.symm hb)]
   ·simp only[];rw[Array.getElem?_setIfInBounds_self_of_lt hlt,g2];simp
  ·exact h.elim
 ·exact h.elim
theorem convB_ok (htt:TTok P tt){sT dT:Nat}{x:Operand}(hd:dstOk dst X.n)(h:mem3K tt (.convert sT dT x) (evT X.T) X.G nx K):∃F e,K F e∧EffOK F false nx e∧OpL P E ⟨dst,.convert sT dT x,T,pos,aft,gd⟩ F false X e:=by
 simp only[mem3K]at h
 split at h
 ·rename_i i j id n hi hj hx0
  have hu:=(htt sT i hi).und
  have hv:=(htt dT j hj).und
  split at h
  ·rename_i e he
   rw[he]at hu
   split at h
   ·rename_i ie hie
    obtain⟨h1,h2,h⟩:=h
    have hue:=(htt e ie hie).und
    rw[h1]at hue
    rw[h2]at hv
    split at h
    ·rename_i el l hg
     obtain⟨hn0,h⟩:=h
     refine⟨_,_,h,.one,read_L hd fun X' _ hxx hgg I ρ a w hr=>?_⟩
     have hxv:=hr.ev x
     rw[hxx x (by simp[Op.operands]),hx0]at hxv
     have hob:=rel_obj hr (by rw[hgg id (by simp)];exact hg)
     refine⟨.string (bytesOf l),?_,.d .str⟩
     generalize hvx:a.eval x=v at hxv
     cases hxv with
     | row hD hn hc hm =>
      subst hn0
      rcases hob with⟨q,_⟩|⟨_,b2,b3,cs,b4,b5,b6⟩
      ·rw[hn]at q;cases q
      ·simp only[RowC.len,RowC.sz,Nat.mul_one]at b2 b3 b5 b6
       have hl:(loadCells ⟨(ρ id).blk,0,none⟩ l.length).run P w=.ok (l.map (Value.int .u8)).toArray w:=by
        rw[run_loadCells_block (P:=P) b4 (by omega)]
        congr 2
        refine List.ext_getElem (by simp) fun j hj1 hj2=>?_
        have hj:j < l.length:=by simpa using hj1
        have:=(b6 j hj).int
        simp only[List.getD_eq_getElem?_getD,List.getElem?_eq_getElem hj,Option.getD_some]at this
        simp only[List.getElem_map,List.getElem_range,Nat.zero_add]
        exact this
       have hc:=run_bytesToString (P:=P) w ⟨(ρ id).blk,0,none⟩ l.length (ρ id).cap l hl
       simp[execOp,hvx,convert,underlying,hu,hv,hue,hc,bytesOf]
     | row0 hD hn =>
      have hl:l=[]:=by
       rcases hob with⟨_,q⟩|⟨q,_⟩
       ·exact List.length_eq_zero_iff.1 q
       ·rw[hn]at q;cases q
      subst hl
      simp[execOp,hvx,convert,underlying,hu,hv,hue,Conv.bytesToString,bytesOf]
    ·exact h.elim
   ·exact h.elim
  ·exact h.elim
 ·exact h.elim
end
end Go.Mq
namespace Go.Mq
open Go
def xK (tt:List (Nat×TI))(op:Op)(ev:Operand→AVal)(K:AVal→Prop):Prop :=
 match op with
 | .binOp o t x y p=>match ev x,ev y with
  | .d (.slice n sz f),.d .nils=>match o with
   | .eql=>match ttl tt t with
    | some i=>Side (match i.desc with | .slice _=>True|_=>False) <| Side (0 < n) <| K (.d (.bool false))
    | none=>False
   | _=>False
  | .d .nils,.d .nils=>match o with
   | .eql=>match ttl tt t with
    | some i=>Side (match i.desc with | .slice _=>True|_=>False) <| K (.d (.bool true))
    | none=>False
   | _=>False
  | _,_=>pureK tt (.binOp o t x y p) ev K
 | .slice t x lo hi mx=>match mx with
  | none=>pureK tt (.slice t x lo hi none) ev K
  | some m=>match lo,hi with
   | none,some h=>match ttl tt t with
    | some i=>Side (match i.desc with | .slice _=>True|_=>False) <| (match ev x,ev h,ev m with
     | .d (.slice n sz f),.d (.int _ b),.d (.int _ c)=>Side (i.esz=sz) <| Side (b=n∧c=n) <| K (.d (.tight n sz f))
     | .d .nils,.d (.int _ b),.d (.int _ c)=>Side (b=0∧c=0) <| K (.d (.tight 0 i.esz fun _ _=>.nils))
     | _,_,_=>False)
    | none=>False
   | _,_=>False
 | op=>pureK tt op ev K
theorem run_equalIn_nils {P:Program}{t e:TypeId}(he:P.underlying t=some (.slice e))(w:World)(d:Nat):(Op.equalIn (d+1) t (.slice none 0 0) (.slice none 0 0)).run P w=.ok true w:=by
 simp[Op.equalIn,underlying,he]
theorem xK_ok {P:Program}{tt:List (Nat×TI)}(htt:TTok P tt){op:Op}{ev:Operand→AVal}{K:AVal→Prop}(h:xK tt op ev K):∃r,K r∧PureOK P op ev r:=by
 unfold xK at h
 split at h
 ·rename_i o t x y p
  split at h
  ·rename_i n sz f hx hy
   split at h
   ·split at h
    ·rename_i i hi
     obtain⟨hd,h0,h⟩:=h
     refine⟨_,h,fun I ρ D val w dst T pos aft gd hv=>?_⟩
     have hsl:∃e,P.underlying t=some (.slice e):=by
      have hu:=(htt t i hi).und
      cases hdd:i.desc<;>rw[hdd]at hd hu<;>first|exact⟨_,hu⟩|exact hd.elim
     obtain⟨e,he⟩:=hsl
     have h1:=hv x (by simp[Op.operands])
     have h2:=hv y (by simp[Op.operands])
     rw[hx]at h1
     rw[hy]at h2
     have e2:=h2.nils
     refine⟨.bool false,?_,.d .bool⟩
     cases h1 with
     | d h1 =>
      generalize hvx:val x=v at h1
      cases h1 with
      | slice hl hm hc ht =>
       rename_i b o' cap cs
       have hne:∀(w:World),(Op.equal t (.slice (some ⟨b,o',none⟩) n cap) (.slice none 0 0)).run P w=.ok false w:=fun w=>run_equalIn_slice he _ _ _ w 9999
       simp[execOp,hvx,e2,eqGuard,binOp,hne]
      | slice0=>omega
      | sliceE=>omega
    ·exact h.elim
   ·exact h.elim
  ·rename_i hx hy
   split at h
   ·split at h
    ·rename_i i hi
     obtain⟨hd,h⟩:=h
     refine⟨_,h,fun I ρ D val w dst T pos aft gd hv=>?_⟩
     have hsl:∃e,P.underlying t=some (.slice e):=by
      have hu:=(htt t i hi).und
      cases hdd:i.desc<;>rw[hdd]at hd hu<;>first|exact⟨_,hu⟩|exact hd.elim
     obtain⟨e,he⟩:=hsl
     have h1:=hv x (by simp[Op.operands])
     have h2:=hv y (by simp[Op.operands])
     rw[hx]at h1
     rw[hy]at h2
     have e1:=h1.nils
     have e2:=h2.nils
     refine⟨.bool true,?_,.d .bool⟩
     have hne:∀(w:World),(Op.equal t (.slice none 0 0) (.slice none 0 0)).run P w=.ok true w:=fun w=>run_equalIn_nils he w 9999
     simp[execOp,e1,e2,eqGuard,binOp,hne]
    ·exact h.elim
   ·exact h.elim
  ·exact pureK_ok htt h
 ·rename_i t x lo hi mx
  split at h
  ·exact pureK_ok htt h
  ·rename_i m
   split at h
   ·rename_i hi'
    split at h
    ·rename_i i hti
     obtain⟨hd,h⟩:=h
     have hu:=(htt t i hti).und
     have hsl:∃e,i.desc=.slice e:=by
      cases hdd:i.desc<;>rw[hdd]at hd<;>first|exact⟨_,rfl⟩|exact hd.elim
     obtain⟨e,he⟩:=hsl
     obtain⟨ff,hf1,hf2,_⟩:=(htt t i hti).elem e he
     rw[he]at hu
     split at h
     ·rename_i n sz f k b k' c hx hb hc
      obtain⟨he1,⟨rfl,rfl⟩,h⟩:=h
      have hs:∀w,(sizeOf e).run P w=.ok sz w:=fun w=>by simp[sizeOf,typeInfo,hf1,hf2,he1]
      refine⟨_,h,fun I ρ D val w dst T pos aft gd hv=>?_⟩
      have h1:=hv x (by simp[Op.operands])
      have h2:=hv hi' (by simp[Op.operands])
      have h3:=hv m (by simp[Op.operands])
      rw[hx]at h1
      rw[hb]at h2
      rw[hc]at h3
      have hcd:Cd I (.slice n sz f) (val x):=by cases h1;assumption
      generalize hvx:val x=v at hcd
      cases hcd with
      | slice0 =>
       refine⟨.slice none 0 0,?_,.d .tight0⟩
       simp[execOp,hvx,h2.int,h3.int,Instr.sliceAt,Instr.slice,Instr.sliceBounds,Instr.sliceBound,underlying,hu,asIntOf,hs]
      | sliceE =>
       rename_i ad
       refine⟨.slice (some ad) 0 0,?_,.d .tightE⟩
       simp[execOp,hvx,h2.int,h3.int,Instr.sliceAt,Instr.slice,Instr.sliceBounds,Instr.sliceBound,underlying,hu,asIntOf,hs]
      | slice hl hm hcc hct =>
       rename_i bb o cap cs
       refine⟨.slice (some ⟨bb,o,none⟩) n n,?_,.d (.tight hm hcc hct)⟩
       have h6:(n:Int)≤((cap:Nat):Int):=by omega
       by_cases hc0:n=0
       ·subst hc0
        simp[execOp,hvx,h2.int,h3.int,Instr.sliceAt,Instr.slice,Instr.sliceBounds,Instr.sliceBound,underlying,hu,asIntOf,hs]
       ·simp[execOp,hvx,h2.int,h3.int,Instr.sliceAt,Instr.slice,Instr.sliceBounds,Instr.sliceBound,underlying,hu,asIntOf,hs,add_addr]
        intro hh;omega
     ·rename_i k b k' c hx hb hc
      obtain⟨⟨rfl,rfl⟩,h⟩:=h
      have hs:∀w,(sizeOf e).run P w=.ok i.esz w:=fun w=>by simp[sizeOf,typeInfo,hf1,hf2]
      refine⟨_,h,fun I ρ D val w dst T pos aft gd hv=>?_⟩
      have h1:=hv x (by simp[Op.operands])
      have h2:=hv hi' (by simp[Op.operands])
      have h3:=hv m (by simp[Op.operands])
      rw[hx]at h1
      rw[hb]at h2
      rw[hc]at h3
      refine⟨.slice none 0 0,?_,.d .tight0⟩
      simp[execOp,h1.nils,h2.int,h3.int,Instr.sliceAt,Instr.slice,Instr.sliceBounds,Instr.sliceBound,underlying,hu,asIntOf,hs]
     ·exact h.elim
    ·exact h.elim
   ·exact h.elim
 ·exact pureK_ok htt h
def allE:List AVal→Option (List Data)
 | []=>some []
 | .d x::r=>(allE r).map (x::·)
 | _=>none
theorem allE_ok:∀{l:List AVal} {r:List Data},allE l=some r→r.length=l.length∧∀i (h:i < l.length),l[i]=.d (r.getD i .nils)
 | [],r,h=>by simp[allE]at h;subst h;exact⟨rfl,fun i hi=>by simp at hi⟩
 | x::l,r,h=>by
  cases x with
  | d y =>
   cases hr:allE l with
   | none=>simp[allE,hr]at h
   | some r' =>
    simp[allE,hr]at h
    subst h
    have ih:=allE_ok hr
    refine⟨by simp[ih.1],fun i hi=>?_⟩
    cases i with
    | zero=>rfl
    | succ i=>simpa using ih.2 i (by simpa using hi)
  | _=>simp[allE]at h
def AVal.toD:AVal→Option Data
 | .d x=>some x
 | .agg l=>(allE l).map fun ds=>.agg ds.length fun i=>ds.getD i .nils
 | _=>none
theorem AVal.toD_ok {x:AVal}{y:Data}(h:x.toD=some y){I:Imm}{ρ:Nat→RB}{D:Nat→Prop}{v:Value}(e:CA I ρ D x v):Cd I y v:=by
 unfold AVal.toD at h
 split at h
 ·cases h;cases e;assumption
 ·rename_i l
  cases hr:allE l with
  | none=>rw[hr]at h;cases h
  | some ds =>
   rw[hr]at h
   cases h
   obtain⟨h1,h2⟩:=allE_ok hr
   cases e with
   | agg hl hc =>
    refine .agg (by omega) fun i hi=>?_
    have:=hc i (by omega)
    rw[h2 i (by omega)]at this
    cases this;assumption
 ·cases h
def unD:Data→AVal
 | .agg n f=>.agg ((List.range n).map fun i=>.d (f i))
 | x=>.d x
theorem unD_ok {I:Imm}{ρ:Nat→RB}{D:Nat→Prop}{x:Data}{v:Value}(h:Cd I x v):CA I ρ D (unD x) v:=by
 unfold unD
 split
 ·cases h with
  | agg hl hc =>
   refine .agg (by simpa using hl) fun i hi=>?_
   have hi':=hi
   simp only[List.length_map,List.length_range]at hi'
   rw[List.getElem_map,List.getElem_range]
   exact .d (hc i hi')
 ·exact .d h
def zeroA (i:TI):AVal:=match i.zero with
 | .agg cs=>.agg (cs.toList.map ofV)
 | z=>ofV z
theorem zeroA_ok {I:Imm}{ρ:Nat→RB}{D:Nat→Prop}(i:TI):CA I ρ D (zeroA i) i.zero:=by
 unfold zeroA
 split
 ·rename_i cs hz
  rw[hz]
  refine .agg (by simp) fun j hj=>?_
  have hj':j < cs.size:=by simpa using hj
  have:cs.getD j undef=cs[j]:=by simp[Array.getD,hj']
  rw[this]
  simp only[List.getElem_map,Array.getElem_toList]
  exact ofV_ok _
 ·exact ofV_ok _
def isC:Operand→Bool
 | .const _=>true
 | _=>false
theorem run_guard {P:Program}{o:BinOp}{t:TypeId}{x y:Operand}(h:(isC x || isC y)=true)(w:World):(eqGuard o t x y .nilIface .nilIface).run P w=.ok () w:=by
 cases x with
 | const v=>cases o<;>simp[eqGuard]
 | _=>cases y with
  | const v=>cases o<;>simp[eqGuard]
  | _=>simp[isC]at h
def iK (tt:List (Nat×TI))(op:Op)(ev:Operand→AVal)(K:AVal→Prop):Prop :=
 match op with
 | .makeInterface t x=>match ttl tt t with
  | some i=>Side (match i.desc with | .interface _=>False|_=>True) <| match (ev x).toD with
   | some y=>K (.d (.iface t y))
   | none=>K (.iface t (ev x))
  | none=>False
 | .typeAssert x _ t true=>match ttl tt t with
  | some i=>Side (match i.desc with | .interface _=>False|_=>True) <| match ev x with
   | .d (.iface t' y)=>bif Nat.beq t' t then K (.tuple [unD y,.d (.bool true)]) else K (.tuple [zeroA i,.d (.bool false)])
   | .d .nilI=>K (.tuple [zeroA i,.d (.bool false)])
   | _=>False
  | none=>False
 | .binOp o t x y p=>match ev x,ev y with
  | .d (.ptr n f off),.d (.tree .nil)=>match ttl tt t with
   | some i=>Side (match i.desc with | .pointer _=>True|_=>False) <| match o with
    | .eql=>K (.d (.bool false))
    | .neq=>K (.d (.bool true))
    | _=>False
   | none=>False
  | .d (.iface t' y),.d .nilI=>match ttl tt t with
   | some i=>Side (match i.desc with | .interface _=>True|_=>False) <| match o with
    | .eql=>K (.d (.bool false))
    | .neq=>K (.d (.bool true))
    | _=>False
   | none=>False
  | .d .nilI,.d .nilI=>match ttl tt t with
   | some i=>Side (match i.desc with | .interface _=>True|_=>False) <| Side ((isC x || isC y)=true) <| match o with
    | .eql=>K (.d (.bool true))
    | .neq=>K (.d (.bool false))
    | _=>False
   | none=>False
  | _,_=>xK tt (.binOp o t x y p) ev K
 | op=>xK tt op ev K
theorem run_eq_ptr {P:Program}{t e:TypeId}(he:P.underlying t=some (.pointer e))(w:World)(a:Addr)(d:Nat):(Op.equalIn (d+1) t (.pointer (some a)) (.pointer none)).run P w=.ok false w:=by
 simp[Op.equalIn,underlying,he]
theorem run_eq_if {P:Program}{t:TypeId}{m}(he:P.underlying t=some (.interface m))(w:World)(a:TypeId)(v:Value)(d:Nat):(Op.equalIn (d+1) t (.iface a v) .nilIface).run P w=.ok false w:=by
 simp[Op.equalIn,underlying,he]
theorem run_eq_nn {P:Program}{t:TypeId}{m}(he:P.underlying t=some (.interface m))(w:World)(d:Nat):(Op.equalIn (d+1) t .nilIface .nilIface).run P w=.ok true w:=by
 simp[Op.equalIn,underlying,he]
theorem CA.nilI {I:Imm}{ρ:Nat→RB}{D:Nat→Prop}{v:Value}(h:CA I ρ D (.d .nilI) v):v=.nilIface:=by
 cases h with|d h=>cases h;rfl
theorem iK_ok {P:Program}{tt:List (Nat×TI)}(htt:TTok P tt){op:Op}{ev:Operand→AVal}{K:AVal→Prop}(h:iK tt op ev K):∃r,K r∧PureOK P op ev r:=by
 unfold iK at h
 split at h
 ·rename_i t x
  split at h
  ·rename_i i hi
   obtain⟨hd,h⟩:=h
   have hu:=(htt t i hi).und
   have hrun:∀(v:Value) (w:World),(Instr.makeInterface t v).run P w=.ok (.iface t v) w:=by
    intro v w
    cases hdd:i.desc<;>rw[hdd]at hd hu<;>first|exact hd.elim|simp[Instr.makeInterface,underlying,hu]
   split at h
   ·rename_i y hy
    refine⟨_,h,fun I ρ D val w dst T pos aft gd hv=>⟨.iface t (val x),?_,.d (.iface (AVal.toD_ok hy (hv x (by simp[Op.operands]))))⟩⟩
    simp[execOp,hrun]
   ·refine⟨_,h,fun I ρ D val w dst T pos aft gd hv=>⟨.iface t (val x),?_,.iface (hv x (by simp[Op.operands]))⟩⟩
    simp[execOp,hrun]
  ·exact h.elim
 ·rename_i x xt t
  split at h
  ·rename_i i hi
   obtain⟨hd,h⟩:=h
   have hT:=htt t i hi
   have hu:=hT.und
   have hz:∀w:World,(zeroValue t).run P w=.ok i.zero w:=fun w=>hT.run_zero
   split at h
   ·rename_i t' y hx
    have hrun:∀(v:Value) (w:World),(Instr.typeAssert (.iface t' v) xt t true).run P w=.ok (.tuple (if t'=t then #[v,.bool true] else #[i.zero,.bool false])) w:=by
     intro v w
     by_cases e:t'=t
     ·cases hdd:i.desc<;>rw[hdd]at hd hu<;>first|exact hd.elim|simp[Instr.typeAssert,underlying,hu,e]
     ·cases hdd:i.desc<;>rw[hdd]at hd hu<;>first|exact hd.elim|simp[Instr.typeAssert,underlying,hu,e,hz]
    cases hb:Nat.beq t' t with
    | true =>
     rw[hb,cond_true]at h
     have e:=Nat.eq_of_beq_eq_true hb
     refine⟨_,h,fun I ρ D val w dst T pos aft gd hv=>?_⟩
     have h1:=hv x (by simp[Op.operands])
     rw[hx]at h1
     generalize hvx:val x=v at h1
     cases h1 with
     | d h1 =>
      cases h1 with
      | iface h1 =>
       rename_i v
       refine⟨.tuple #[v,.bool true],?_,.tuple rfl fun j hj=>?_⟩
       ·have hr:=hrun v w
        rw[if_pos e]at hr
        simp[execOp,hvx,hr]
       ·match j,hj with
        | 0,_=>exact unD_ok h1
        | 1,_=>exact .d .bool
    | false =>
     rw[hb,cond_false]at h
     have e:t'≠t:=fun e=>by rw[e,Nat.beq_refl]at hb;cases hb
     refine⟨_,h,fun I ρ D val w dst T pos aft gd hv=>?_⟩
     have h1:=hv x (by simp[Op.operands])
     rw[hx]at h1
     generalize hvx:val x=v at h1
     cases h1 with
     | d h1 =>
      cases h1 with
      | iface h1 =>
       rename_i v
       refine⟨.tuple #[i.zero,.bool false],?_,.tuple rfl fun j hj=>?_⟩
       ·have hr:=hrun v w
        rw[if_neg e]at hr
        simp[execOp,hvx,hr]
       ·match j,hj with
        | 0,_=>exact zeroA_ok i
        | 1,_=>exact .d .bool
   ·rename_i hx
    have hrun:∀(w:World),(Instr.typeAssert .nilIface xt t true).run P w=.ok (.tuple #[i.zero,.bool false]) w:=by
     intro w
     cases hdd:i.desc<;>rw[hdd]at hd hu<;>first|exact hd.elim|simp[Instr.typeAssert,underlying,hu,hz]
    refine⟨_,h,fun I ρ D val w dst T pos aft gd hv=>?_⟩
    have h1:=hv x (by simp[Op.operands])
    rw[hx]at h1
    refine⟨.tuple #[i.zero,.bool false],?_,.tuple rfl fun j hj=>?_⟩
    ·simp[execOp,h1.nilI,hrun]
    ·match j,hj with
     | 0,_=>exact zeroA_ok i
     | 1,_=>exact .d .bool
   ·exact h.elim
  ·exact h.elim
 ·rename_i o t x y p
  split at h
  ·rename_i n f off hx hy
   split at h
   ·rename_i i hi
    obtain⟨hd,h⟩:=h
    have hsl:∃e,P.underlying t=some (.pointer e):=by
     have hu:=(htt t i hi).und
     cases hdd:i.desc<;>rw[hdd]at hd hu<;>first|exact⟨_,hu⟩|exact hd.elim
    obtain⟨e,he⟩:=hsl
    have key:∀(I:Imm) (ρ:Nat→RB) (D:Nat→Prop) (val:Operand→Value),(∀z∈(Op.binOp o t x y p).operands,CA I ρ D (ev z) (val z))→(∃a,val x=.pointer (some a))∧val y=.pointer none:=by
     intro I ρ D val hv
     have h1:=hv x (by simp[Op.operands])
     have h2:=hv y (by simp[Op.operands])
     rw[hx]at h1
     rw[hy]at h2
     refine⟨?_,?_⟩
     ·generalize val x=v at h1
      cases h1 with|d h1=>cases h1;exact⟨_,rfl⟩
     ·have:=h2.tree
      generalize val y=v at this
      cases this;rfl
    have hne:∀(a:Addr) (w:World),(Op.equal t (.pointer (some a)) (.pointer none)).run P w=.ok false w:=fun a w=>run_eq_ptr he w a 9999
    split at h
    ·refine⟨_,h,fun I ρ D val w dst T pos aft gd hv=>⟨.bool false,?_,.d .bool⟩⟩
     obtain⟨⟨a,e1⟩,e2⟩:=key I ρ D val hv
     simp[execOp,e1,e2,eqGuard,binOp,hne]
    ·refine⟨_,h,fun I ρ D val w dst T pos aft gd hv=>⟨.bool true,?_,.d .bool⟩⟩
     obtain⟨⟨a,e1⟩,e2⟩:=key I ρ D val hv
     simp[execOp,e1,e2,eqGuard,binOp,hne]
    ·exact h.elim
   ·exact h.elim
  ·rename_i t' z hx hy
   split at h
   ·rename_i i hi
    obtain⟨hd,h⟩:=h
    have hsl:∃m,P.underlying t=some (.interface m):=by
     have hu:=(htt t i hi).und
     cases hdd:i.desc<;>rw[hdd]at hd hu<;>first|exact⟨_,hu⟩|exact hd.elim
    obtain⟨e,he⟩:=hsl
    have key:∀(I:Imm) (ρ:Nat→RB) (D:Nat→Prop) (val:Operand→Value),(∀z∈(Op.binOp o t x y p).operands,CA I ρ D (ev z) (val z))→(∃v,val x=.iface t' v)∧val y=.nilIface:=by
     intro I ρ D val hv
     have h1:=hv x (by simp[Op.operands])
     have h2:=hv y (by simp[Op.operands])
     rw[hx]at h1
     rw[hy]at h2
     refine⟨?_,h2.nilI⟩
     generalize val x=v at h1
     cases h1 with|d h1=>cases h1;exact⟨_,rfl⟩
    have hne:∀(v:Value) (w:World),(Op.equal t (.iface t' v) .nilIface).run P w=.ok false w:=fun v w=>run_eq_if he w t' v 9999
    split at h
    ·refine⟨_,h,fun I ρ D val w dst T pos aft gd hv=>⟨.bool false,?_,.d .bool⟩⟩
     obtain⟨⟨a,e1⟩,e2⟩:=key I ρ D val hv
     simp[execOp,e1,e2,eqGuard,binOp,hne]
    ·refine⟨_,h,fun I ρ D val w dst T pos aft gd hv=>⟨.bool true,?_,.d .bool⟩⟩
     obtain⟨⟨a,e1⟩,e2⟩:=key I ρ D val hv
     simp[execOp,e1,e2,eqGuard,binOp,hne]
    ·exact h.elim
   ·exact h.elim
  ·rename_i hx hy
   split at h
   ·rename_i i hi
    obtain⟨hd,hcst,h⟩:=h
    have hsl:∃m,P.underlying t=some (.interface m):=by
     have hu:=(htt t i hi).und
     cases hdd:i.desc<;>rw[hdd]at hd hu<;>first|exact⟨_,hu⟩|exact hd.elim
    obtain⟨e,he⟩:=hsl
    have hne:∀(w:World),(Op.equal t .nilIface .nilIface).run P w=.ok true w:=fun w=>run_eq_nn he w 9999
    split at h
    ·refine⟨_,h,fun I ρ D val w dst T pos aft gd hv=>⟨.bool true,?_,.d .bool⟩⟩
     have h1:=hv x (by simp[Op.operands])
     have h2:=hv y (by simp[Op.operands])
     rw[hx]at h1
     rw[hy]at h2
     simp[execOp,h1.nilI,h2.nilI,run_guard hcst,binOp,hne]
    ·refine⟨_,h,fun I ρ D val w dst T pos aft gd hv=>⟨.bool false,?_,.d .bool⟩⟩
     have h1:=hv x (by simp[Op.operands])
     have h2:=hv y (by simp[Op.operands])
     rw[hx]at h1
     rw[hy]at h2
     simp[execOp,h1.nilI,h2.nilI,run_guard hcst,binOp,hne]
    ·exact h.elim
   ·exact h.elim
  ·exact xK_ok htt h
 ·exact xK_ok htt h
end Go.Mq
namespace Go.Mq
open Go
def bytesI (s:ByteArray):List Int:=s.data.toList.map fun b=>(b.toNat:Int)
def ofI (l:List Int):ByteArray:=⟨(l.map fun n=>n.toNat.toUInt8).toArray⟩
theorem bytesI_length (s:ByteArray):(bytesI s).length=s.size:=by unfold bytesI;rw[List.length_map,Array.length_toList];rfl
def ConvSame (P:Program)(s d T:TypeId)(off n:Nat):Prop:=∀(w:World) (b:Nat),w.shape? b=some (T,n)→(convert s d (.pointer (some ⟨b,off,none⟩))).run P w=.ok (.pointer (some ⟨b,off,none⟩)) w
structure AppStr (P:Program)(t u e:TypeId):Prop where
 t:P.underlying t=some (.slice e)
 u:P.underlying u=some .string
 i:∃i,P.info? e=some i∧i.zero=some (.int .u8 0)∧i.size=1∧i.bytes=1
structure PtrTo (P:Program)(t:TypeId):Prop where
 h:∃te j,P.underlying t=some (.pointer te)∧P.info? te=some j
structure UStr (P:Program)(pt e:TypeId):Prop where
 p:P.underlying pt=some (.pointer e)
 c:P.cellsOf e=1
structure ExtSame (P:Program)(f:FuncId):Prop where
 h : ∃ fn e, P.funcs[f]? = some fn ∧ (fn.name == "runtime.NumGoroutine") = false ∧ fn.body.isNone = true ∧ Extern.findNext fn = none ∧ Extern.find fn = some e ∧ ∀ (x : Value) (w : World), (e #[x]).run P w = .ok x w
def uK (P:Program)(op:Op)(ev:Operand→AVal)(get:Objs)(nx:Nat)(K:List Nat→Eff→Prop):Prop:=match op with
 | .convert s d x=>match ev x with
  | .ref id off=>match get id with
   | some (.cellsT (some T) vs)=>Side (ConvSame P s d T off vs.length) <| K [id] (one1 (.ref id off))
   | _=>False
  | _=>False
 | .binOp o t x y _=>match ev x,ev y with
  | .ref i a,.ref j b=>Side (i=j∧a=b) <| Side (PtrTo P t) <| match o with
   | .eql=>K [] (one1 (.d (.bool true)))
   | .neq=>K [] (one1 (.d (.bool false)))
   | _=>False
  | .ref _ _,.d (.tree .nil)=>Side (PtrTo P t) <| match o with
   | .eql=>K [] (one1 (.d (.bool false)))
   | .neq=>K [] (one1 (.d (.bool true)))
   | _=>False
  | _,_=>False
 | .call { callee:=.builtin .append,args:=xs,argTypes:=ts }=>match xs.toList,ts.toList with
  | [x,y],[t,u]=>(match ev x,ev y with
   | .row id n,.d (.str s)=>(match get id with
    | some (.row e (.ints .u8 r))=>Side (AppStr P t u e) <| Side (r.length=n) <| Side (n+s.size≤maxN) <| K [id] ⟨.row nx (n+s.size),[(id,none),(nx,some (.row e (.ints .u8 (r++bytesI s))))],[nx],none⟩
    | _=>False)
   | _,_=>False)
  | _,_=>False
 | .call { callee:=.builtin .unsafeSliceData,args:=xs,argTypes:=_ }=>match xs.toList with
  | [x]=>(match ev x with
   | .row id n=>Side (0 < n) <| K [] (one1 (.ref id 0))
   | _=>False)
  | _=>False
 | .call { callee:=.builtin .unsafeString,args:=xs,argTypes:=ts }=>match xs.toList,ts.toList with
  | [x,y],[pt,_]=>(match ev x,ev y with
   | .ref id off,.d (.int .i64 n)=>(match get id with
    | some (.row e (.ints .u8 l))=>Side (UStr P pt e) <| Side (off=0∧n=l.length∧0 < l.length∧∀z∈l,0≤z∧z < 256) <| K [id] ⟨.d (.str (ofI l)),[(id,none)],[],none⟩
    | _=>False)
   | _,_=>False)
  | _,_=>False
 | _=>False
theorem Rel.lose {E:Env}{I:Imm}{ρ:Nat→RB}{D:Nat→Prop}{G:Objs}{g:Ghost}{w w':World}(h:Rel E I ρ D G g w){id:Nat}{o:AObj}(hg:G id=some o)(hn:(ρ id).isnil=false)
  (henv:World.env w'=World.env w) (hs:w.heap.size≤w'.heap.size) (hb:∀b,b < w.heap.size→b≠(ρ id).blk→w'.heap[b]?=w.heap[b]?):Rel E I ρ D (fun i=>if i=id then none else G i) g w':=by
 obtain⟨own,h⟩:=h
 have hown:=h.ownd id o hg hn
 refine⟨own,⟨henv.trans h.env,?_,?_,?_,?_,?_,?_⟩⟩
 ·intro b hb;have:=h.lt b hb;omega
 ·intro b c hc
  obtain⟨h1,h2⟩:=h.imm b c hc
  have hlt:=h.lt b (by rw[h1];intro e;cases e)
  refine⟨h1,?_⟩
  rw[hb b hlt (by intro e;rw[e,hown]at h1;cases h1)];exact h2
 ·intro i x e
  split at e
  ·cases e
  ·exact h.key i x e
 ·intro i x e
  split at e
  ·cases e
  ·rename_i e2
   refine ORel.mono (Imm.le_refl I) (fun _ h=>h) (fun _ _=>rfl) (h.key i x e) ?_ (h.obj i x e)
   intro hni
   have h1:=h.ownd i x e hni
   have hlt:=h.lt (ρ i).blk (by rw[h1];intro e;cases e)
   exact hb _ hlt (by intro e3;rw[e3,hown]at h1;cases h1;exact e2 rfl)
 ·intro i x e hni
  split at e
  ·cases e
  ·exact h.ownd i x e hni
 ·have:gheap own w'=gheap own w:=by
   funext b
   unfold gheap
   cases hob:own b with
   | gst=>have:=h.lt b (by rw[hob];intro e;cases e);exact hb b this (by intro e;rw[e,hown]at hob;cases hob)
   | _=>rfl
  rw[this];exact h.gst
theorem run_append_str {P:Program}{w:World}{t u ty e:TypeId}{i:TypeInfo}(ht:P.underlying t=some (.slice e))(hu:P.underlying u=some .string)(hi:P.info? e=some i)(hz:i.zero=some (.int .u8 0))
  (hsize:i.size=1) (hby:i.bytes=1) {v:Value} {n:Nat} {xs:List Value} (hown:w.ownsRow 0 e 1 v n xs) (s:ByteArray) (hle:n+s.size≤maxN) :
  ∃v' w',(Builtin.append_ #[t,u] ty #[v,.string s]).run P w=.ok v' w'∧w'.ownsRow 0 e 1 v' (n+s.size) (xs++Lib.strCells s)∧w.grownBy w' v.ownBlock ∧
   ∀g m c,v'=.slice (some ⟨g,0,none⟩) m c→w.heap.size≤g∨some g=v.ownBlock:=by
 unfold maxN at hle
 have h63:n+s.size≤maxLen:=by unfold maxLen;omega
 have hb:n+s.size≤140737488355328:=by omega
 rcases hown with⟨hxl,⟨rfl,rfl⟩|⟨g,cap,cur,rfl,hbg,hg,hnc,hcm,hcs,htake⟩⟩
 ·have hx:xs=[]:=List.eq_nil_of_length_eq_zero (by simpa using hxl)
  subst hx
  obtain⟨v',w',h1,⟨h2,h3⟩,h4,_⟩:=Lib.run_append_own_string (P:=P) w w.heap.size t u ty e i ht hu hi hz hsize hby _ 0 [] (World.ownsRow_nil w _ e 1) s h63 hb (Nat.le_refl _)
  refine⟨v',w',h1,⟨h2,?_⟩,h4,?_⟩
  ·rcases h3 with h3|⟨g,cap,cur,q1,q2,q3⟩
   ·exact .inl h3
   ·exact .inr ⟨g,cap,cur,q1,Nat.zero_le _,q3⟩
  ·intro g m c e1
   rcases h3 with⟨h3,_⟩|⟨g',cap,cur,q1,q2,q3⟩
   ·rw[h3]at e1;cases e1
   ·rw[q1]at e1;cases e1;exact .inl q2
 ·have hown:w.ownsRow 0 e 1 (.slice (some ⟨g,0,none⟩) n cap) n xs:=⟨hxl,.inr ⟨g,cap,cur,rfl,hbg,hg,hnc,hcm,hcs,htake⟩⟩
  obtain⟨v',w',h1,h2,h4,_⟩:=Lib.run_append_own_string (P:=P) w 0 t u ty e i ht hu hi hz hsize hby _ n xs hown s h63 hb (Nat.zero_le _)
  refine⟨v',w',h1,h2,h4,?_⟩
  by_cases hroom:n+s.size≤cap
  ·have hcs':cur.size=cap:=by simpa using hcs
   have hr:=Lib.run_append_room_string (P:=P) w t u ty e i ht hu hi hsize g n cap cur hg s hroom (by omega)
   rw[hr]at h1
   intro g' m c e1
   cases h1
   cases e1
   exact .inr rfl
  ·have holds:∀j u,xs[j]?=some u→w.cell? ((⟨g,0,none⟩:Addr).add j)=some u:=hown.cells (g:=g) rfl
   have hr:=Lib.run_append_grow_string (P:=P) w t u ty e i (.int .u8 0) ht hu hi hz ⟨g,0,none⟩ n cap xs (by rw[hsize];simpa using hxl) holds s (by omega) (by omega) (by rw[hby];exact growslice_fits (by omega) (by omega))
   rw[hr]at h1
   intro g' m c e1
   cases h1
   cases e1
   exact .inl (Nat.le_refl _)
section
variable {P : Program} {E : Env} {dst : Option Tmp} {T : TypeId} {pos : String} {aft : Array Edge} {gd : Option (Nat × Bool)} {X : FS} {nx : Nat} {K : List Nat → Eff → Prop}
theorem uconv_ok {s d:TypeId}{x:Operand}(hd:dstOk dst X.n)(h:uK P (.convert s d x) (evT X.T) X.G nx K) :
  ∃F e,K F e∧EffOK F false nx e∧OpL P E ⟨dst,.convert s d x,T,pos,aft,gd⟩ F false X e:=by
 simp only[uK]at h
 have hxm:x∈(Op.convert s d x).operands:=by simp[Op.operands]
 split at h
 ·rename_i id off ht
  split at h
  ·rename_i Ty vs hg
   obtain⟨h1,h2⟩:=h
   refine⟨_,_,h2,.one,read_L hd fun X' _ hx hF I ρ a w hr=>?_⟩
   have hv:=hr.ev x
   rw[hx x hxm,ht]at hv
   obtain⟨hn,cs,T',hb,hl,hcs⟩:=rel_obj hr (show X'.G id=some (.cellsT (some Ty) vs) by rw[hF id (by simp)];exact hg)
   have hb':w.heap[(ρ id).blk]?=some (.cells cs Ty (0,0)):=hb
   generalize hvx:a.eval x=v at hv
   cases hv with
   | ref hid =>
    refine⟨_,?_,.ref hid⟩
    have hsh:w.shape? (ρ id).blk=some (Ty,vs.length):=by unfold World.shape?;rw[hb'];simp[hl]
    simp only[execOp,hvx,Sem.run_bind,h1 w (ρ id).blk hsh,Result.andThen_ok];rfl
  ·exact h.elim
 ·exact h.elim
theorem ubin_ok {o:BinOp}{t:TypeId}{x y:Operand}{p:TypeId}(hd:dstOk dst X.n)(h:uK P (.binOp o t x y p) (evT X.T) X.G nx K) :
  ∃F e,K F e∧EffOK F false nx e∧OpL P E ⟨dst,.binOp o t x y p,T,pos,aft,gd⟩ F false X e:=by
 simp only[uK]at h
 have hxm:x∈(Op.binOp o t x y p).operands:=by simp[Op.operands]
 have hym:y∈(Op.binOp o t x y p).operands:=by simp[Op.operands]
 split at h
 ·rename_i i a j b hx hy
  obtain⟨⟨rfl,rfl⟩,⟨te,jj,h1,h2⟩,h⟩:=h
  have fin:∀r:Bool,(∀w:World,∀ad:Addr,(binOp o t (.pointer (some ad)) (.pointer (some ad))).run P w=.ok (.bool r) w)→OpL P E ⟨dst,.binOp o t x y p,T,pos,aft,gd⟩ [] false X (one1 (.d (.bool r))):=by
   intro r hrun
   refine read_L hd fun X' _ hxx hF I ρ a w hr=>?_
   have hv:=hr.ev x
   have hu:=hr.ev y
   rw[hxx x hxm,hx]at hv
   rw[hxx y hym,hy]at hu
   generalize hvx:a.eval x=v at hv
   generalize hvy:a.eval y=u at hu
   cases hv with
   | ref hid =>
    cases hu with
    | ref hid2 =>
     refine⟨_,?_,.d .bool⟩
     simp only[execOp,hvx,hvy,Sem.run_bind,run_guard_plain (op:=o) (t:=t) (x:=x) (y:=y) (w:=w) (P:=P) (show Value.pointer (some (⟨(ρ i).blk,_,none⟩:Addr))≠.nilIface by simp) (show ∀c,Value.pointer (some (⟨(ρ i).blk,_,none⟩:Addr))≠.agg c by simp),Result.andThen_ok,hrun];rfl
  split at h
  ·refine⟨_,_,h,.one,fin true fun w ad=>?_⟩
   have h0:=Lib.run_neq_ptr_same (P:=P) w ad h1 h2
   have:∀d:Nat,(Op.equalIn (d+1) t (.pointer (some ad)) (.pointer (some ad))).run P w=.ok true w:=fun d=>by
    simp[Op.equalIn,run_underlying h1,sizeOf,typeInfo,h2,run_sameAddr_same]
   simp only[binOp]
   simp[Op.equal,Op.maxDepth,this 9999]
  ·exact⟨_,_,h,.one,fin false fun w ad=>Lib.run_neq_ptr_same (P:=P) w ad h1 h2⟩
  ·exact h.elim
 ·rename_i i a hx hy
  obtain⟨⟨te,jj,h1,h2⟩,h⟩:=h
  have fin:∀r:Bool,(∀w:World,∀ad:Addr,(binOp o t (.pointer (some ad)) (.pointer none)).run P w=.ok (.bool r) w)→OpL P E ⟨dst,.binOp o t x y p,T,pos,aft,gd⟩ [] false X (one1 (.d (.bool r))):=by
   intro r hrun
   refine read_L hd fun X' _ hxx hF I ρ a w hr=>?_
   have hv:=hr.ev x
   have hu:=hr.ev y
   rw[hxx x hxm,hx]at hv
   rw[hxx y hym,hy]at hu
   generalize hvx:a.eval x=v at hv
   generalize hvy:a.eval y=u at hu
   cases hv with
   | ref hid =>
    have hu:=hu.tree
    cases hu with
    | nil =>
     refine⟨_,?_,.d .bool⟩
     simp only[execOp,hvx,hvy,Sem.run_bind,run_guard_plain (op:=o) (t:=t) (x:=x) (y:=y) (w:=w) (P:=P) (show Value.pointer (some (⟨(ρ i).blk,_,none⟩:Addr))≠.nilIface by simp) (show ∀c,Value.pointer (some (⟨(ρ i).blk,_,none⟩:Addr))≠.agg c by simp),Result.andThen_ok,hrun];rfl
  have heq:∀(w:World) (ad:Addr),(Op.equal t (.pointer (some ad)) (.pointer none)).run P w=.ok false w:=by
   intro w ad
   have:=run_eq_ptr h1 w ad 9999
   simpa [Op.equal,Op.maxDepth] using this
  split at h
  ·refine⟨_,_,h,.one,fin false fun w ad=>?_⟩
   simp[binOp,heq]
  ·refine⟨_,_,h,.one,fin true fun w ad=>?_⟩
   simp[binOp,heq]
  ·exact h.elim
 ·exact h.elim
theorem uapp_ok {xs:Array Operand}{ts:Array TypeId}(hd:dstOk dst X.n)(h:uK P (.call { callee:=.builtin .append,args:=xs,argTypes:=ts }) (evT X.T) X.G nx K) :
  ∃F e,K F e∧EffOK F false nx e∧OpL P E ⟨dst,.call { callee:=.builtin .append,args:=xs,argTypes:=ts },T,pos,aft,gd⟩ F false X e:=by
 simp only[uK]at h
 split at h
 ·rename_i x y t u hxs hts
  have hxs:=arr2 hxs
  have hts:=arr2 hts
  subst hxs hts
  have hxm:x∈(Op.call { callee:=.builtin .append,args:=#[x,y],argTypes:=#[t,u] }).operands:=by simp[Op.operands,Call.operands]
  have hym:y∈(Op.call { callee:=.builtin .append,args:=#[x,y],argTypes:=#[t,u] }).operands:=by simp[Op.operands,Call.operands]
  split at h
  ·rename_i id n s hx hy
   split at h
   ·rename_i e r hg
    obtain⟨⟨ht,hu,i,hi,hz,hsz,hby⟩,hrn,hle,h⟩:=h
    refine⟨_,_,h,⟨fun i=>by simp;try omega,by simp,fun _=>rfl⟩,?_⟩
    intro X' ⟨hn,hxx,hf,_⟩
    refine OpE.value (by rw[hn];exact hd) fun I ρ a w hr hfr=>?_
    have hnd:¬X'.D nx:=hfr nx (by simp)
    have hvx:=hr.ev x
    rw[hxx x hxm,hx]at hvx
    have hvy:=hr.ev y
    rw[hxx y hym,hy]at hvy
    have hvy:=hvy.str
    have hg':X'.G id=some (.row e (.ints .u8 r)):=by rw[hf id (by simp)];exact hg
    have ho:=rel_obj hr hg'
    have hown:∃olds,w.ownsRow 0 e 1 (a.eval x) n olds∧olds=r.map (fun z=>Value.int .u8 z):=by
     generalize hax:a.eval x=v at hvx
     rcases ho with⟨h1,h2⟩|⟨h1,h2,h3,cs,h4,h5,h6⟩
     ·have hr0:r=[]:=List.length_eq_zero_iff.1 h2
      subst hr0
      cases hvx with
      | row _ hnn=>rw[h1]at hnn;cases hnn
      | row0=>exact⟨[],by rw[←hrn];exact World.ownsRow_nil w 0 e 1,rfl⟩
     ·simp only[RowC.len,RowC.sz,Nat.mul_one]at h2 h5 h6 h3
      cases hvx with
      | row0 _ hnn=>rw[h1]at hnn;cases hnn
      | row hid hnn hc hm =>
       refine⟨cs.toList.take r.length,⟨by simp;omega,.inr ⟨_,_,cs,rfl,Nat.zero_le _,h4,hc,by unfold maxLen;omega,by rw[h5,Nat.mul_one],by rw[Nat.mul_one,hrn]⟩⟩,?_⟩
       apply List.ext_getElem
       ·simp;omega
       ·intro j hj1 hj2
        have hj:j < r.length:=by simpa using hj2
        have hc6:=h6 j hj
        have hjc:j < cs.size:=by omega
        simp only[RowC.cell]at hc6
        have:=hc6.int
        simp[hjc,hj]at this ⊢
        exact this
    obtain⟨olds,hown,hol⟩:=hown
    obtain⟨v',w',hrun,hown',hgrow,hwh⟩:=run_append_str (P:=P) (ty:=T) ht hu hi hz hsz hby hown s hle
    have hexec:(execOp a.eval ⟨dst,.call { callee:=.builtin .append,args:=#[x,y],argTypes:=#[t,u] },T,pos,aft,gd⟩).run P w=.ok (.value v') w':=by
     rw[call2];simp only[builtin,Sem.run_bind,hvy,hrun,Result.andThen_ok];rfl
    have hdom:(fun i=>i∈[nx]∨X'.D i)=dom X'.D nx:=by funext i;simp[dom]
    have hG:∀ob':AObj,putG X'.G [(id,none),(nx,some ob')]=fun i=>if i=nx then some ob' else if (some id:Option Nat)=some i then none else X'.G i:=by
     intro ob'
     funext i
     simp[putG,eq_comm]
    have henv:World.env w'=World.env w:=by
     unfold World.env;rw[hgrow.os,hgrow.tape,hgrow.output]
    have hob:∀k,(a.eval x).ownBlock=some k→(ρ id).isnil=false∧k=(ρ id).blk:=by
     intro k hk
     generalize hax:a.eval x=v at hvx hk
     cases hvx with
     | row _ hnn=>exact⟨hnn,by simpa [Value.ownBlock,eq_comm] using hk⟩
     | row0=>simp[Value.ownBlock]at hk
    have hblk:∀b,b < w.heap.size→(∀i,(some id:Option Nat)=some i→(ρ i).isnil=false→b≠(ρ i).blk)→w'.heap[b]?=w.heap[b]?:=by
     intro b hb1 hb2
     refine hgrow.block b hb1 fun e=>?_
     obtain⟨h1,h2⟩:=hob b e.symm
     exact hb2 id rfl h1 h2
    have hnews:olds++Lib.strCells s=(r++bytesI s).map (fun z=>Value.int .u8 z):=by
     rw[hol,List.map_append]
     congr 1
     simp[Lib.strCells,bytesI]
    rw[hnews]at hown'
    have hlen:(r++bytesI s).length=n+s.size:=by rw[List.length_append,bytesI_length,hrn]
    obtain⟨ho1,ho2⟩:=hown'
    rcases ho2 with⟨rfl,hz0⟩|⟨g,cap,cur,rfl,_,h4,h5,h6,h7,h8⟩
    ·refine⟨_,w',.inl hexec,I,upd ρ nx ⟨0,0,true⟩,Imm.le_refl I,upd_ne hnd,?_,?_⟩
     ·simp only[hdom,hG,Option.getD_none]
      exact hr.rel.renew (old:=some id) (ob:=.row e (.ints .u8 (r++bytesI s))) hnd (fun i hi=>⟨_,by cases hi;exact hg'⟩) ⟨0,0,true⟩ henv hgrow.size hblk (fun h=>by cases h) (Or.inl ⟨by rw[upd_same],by simp only[RowC.len];rw[hlen];exact hz0⟩)
     ·simp only[hdom]
      rw[hz0]
      exact .row0 (.inl rfl) (by rw[upd_same])
    ·have hgw:w.heap.size≤g∨∃i,(some id:Option Nat)=some i∧(ρ i).isnil=false∧g=(ρ i).blk:=by
      rcases hwh _ _ _ rfl with h|h
      ·exact .inl h
      ·obtain⟨q1,q2⟩:=hob g h.symm
       exact .inr ⟨id,rfl,q1,q2⟩
     refine⟨_,w',.inl hexec,I,upd ρ nx ⟨g,cap,false⟩,Imm.le_refl I,upd_ne hnd,?_,?_⟩
     ·simp only[hdom,hG,Option.getD_none]
      refine hr.rel.renew (old:=some id) (ob:=.row e (.ints .u8 (r++bytesI s))) hnd (fun i hi=>⟨_,by cases hi;exact hg'⟩) ⟨g,cap,false⟩ henv hgrow.size hblk (fun _=>⟨(Array.getElem?_eq_some_iff.1 h4).1,hgw⟩) (Or.inr ⟨by rw[upd_same],by rw[upd_same];simp only[RowC.len];rw[hlen];exact h5,⟨by simp only[RowC.len];rw[hlen];exact hle,by rw[upd_same];unfold maxLen at h6;omega⟩,cur,by rw[upd_same];exact h4,by rw[upd_same];simpa [RowC.sz] using h7,fun j hj=>?_⟩)
      simp only[RowC.len,RowC.sz,Nat.mul_one]at hj
      have e1:(cur.toList.take ((n+s.size)*1))[j]?=((r++bytesI s).map (fun z=>Value.int .u8 z))[j]?:=by rw[h8]
      rw[Nat.mul_one,←hlen,List.getElem?_take,if_pos hj]at e1
      have e2:cur.getD j undef=.int .u8 ((r++bytesI s).getD j 0):=by
       rw[List.getElem?_map,List.getElem?_eq_getElem hj]at e1
       simp only[Option.map_some]at e1
       rw[Array.getD_eq_getD_getElem?,List.getD_eq_getElem?_getD,List.getElem?_eq_getElem hj]
       rw[Array.getElem?_toList]at e1
       rw[e1];rfl
      rw[e2]
      exact .d .int
     ·simp only[hdom]
      have:=CA.row (I:=I) (ρ:=upd ρ nx ⟨g,cap,false⟩) (D:=dom X'.D nx) (id:=nx) (n:=n+s.size) (.inl rfl) (by rw[upd_same]) (by rw[upd_same];exact h5) hle
      rw[upd_same]at this;exact this
   ·exact h.elim
  ·exact h.elim
 ·exact h.elim
theorem udata_ok {xs:Array Operand}{ts:Array TypeId}(hd:dstOk dst X.n)(h:uK P (.call { callee:=.builtin .unsafeSliceData,args:=xs,argTypes:=ts }) (evT X.T) X.G nx K) :
  ∃F e,K F e∧EffOK F false nx e∧OpL P E ⟨dst,.call { callee:=.builtin .unsafeSliceData,args:=xs,argTypes:=ts },T,pos,aft,gd⟩ F false X e:=by
 simp only[uK]at h
 split at h
 ·rename_i x hxs
  have hxs:xs=#[x]:=by cases xs;simp at hxs;subst hxs;rfl
  subst hxs
  have hxm:x∈(Op.call { callee:=.builtin .unsafeSliceData,args:=#[x],argTypes:=ts }).operands:=by simp[Op.operands,Call.operands]
  split at h
  ·rename_i id n hx
   obtain⟨hn,h⟩:=h
   refine⟨_,_,h,.one,read_L hd fun X' _ hxx hF I ρ a w hr=>?_⟩
   have hv:=hr.ev x
   rw[hxx x hxm,hx]at hv
   generalize hvx:a.eval x=v at hv
   cases hv with
   | row hid hnn hc hm =>
    refine⟨_,?_,.ref hid⟩
    have hrun:=Lib.run_unsafeSliceData_row (P:=P) w ts T ⟨(ρ id).blk,0,none⟩ n (ρ id).cap (by omega)
    cases x<;>simp[execOp,resolve,invoke,builtin,hvx,hrun]
   | row0=>omega
  ·exact h.elim
 ·exact h.elim
theorem ustr_ok {xs:Array Operand}{ts:Array TypeId}(hd:dstOk dst X.n)(h:uK P (.call { callee:=.builtin .unsafeString,args:=xs,argTypes:=ts }) (evT X.T) X.G nx K) :
  ∃F e,K F e∧EffOK F false nx e∧OpL P E ⟨dst,.call { callee:=.builtin .unsafeString,args:=xs,argTypes:=ts },T,pos,aft,gd⟩ F false X e:=by
 simp only[uK]at h
 split at h
 ·rename_i x y pt it hxs hts
  have hxs:=arr2 hxs
  have hts:=arr2 hts
  subst hxs hts
  have hxm:x∈(Op.call { callee:=.builtin .unsafeString,args:=#[x,y],argTypes:=#[pt,it] }).operands:=by simp[Op.operands,Call.operands]
  have hym:y∈(Op.call { callee:=.builtin .unsafeString,args:=#[x,y],argTypes:=#[pt,it] }).operands:=by simp[Op.operands,Call.operands]
  split at h
  ·rename_i id off n hx hy
   split at h
   ·rename_i e l hg
    obtain⟨⟨hp,hc⟩,⟨rfl,rfl,hl0,hl⟩,h⟩:=h
    refine⟨_,_,h,⟨fun i=>by simp;try omega,by simp,fun _=>rfl⟩,?_⟩
    intro X' ⟨hn,hxx,hf,_⟩
    refine OpE.value (by rw[hn];exact hd) fun I ρ a w hr hfr=>?_
    have hvx:=hr.ev x
    rw[hxx x hxm,hx]at hvx
    have hvy:=hr.ev y
    rw[hxx y hym,hy]at hvy
    have hvy:=hvy.int
    have hg':X'.G id=some (.row e (.ints .u8 l)):=by rw[hf id (by simp)];exact hg
    have ho:=rel_obj hr hg'
    rcases ho with⟨h1,h2⟩|⟨h1,h2,h3,cs,h4,h5,h6⟩
    ·simp only[RowC.len]at h2;omega
    ·simp only[RowC.len,RowC.sz,Nat.mul_one]at h2 h5 h6 h3
     have h4:w.heap[(ρ id).blk]?=some (.cells cs e (0,0)):=h4
     generalize hax:a.eval x=v at hvx
     cases hvx with
     | ref hid =>
      let u:List UInt8:=l.map fun n=>n.toNat.toUInt8
      have hul:u.length=l.length:=by simp[u]
      have hsh:w.shape? (ρ id).blk=some (e,cs.size):=by unfold World.shape?;rw[h4]
      have hcell:∀j x,u[j]?=some x→w.cell? ((⟨(ρ id).blk,0,none⟩:Addr).add j)=some (.int .u8 x.toNat):=by
       intro j x hj
       have hj1:j < l.length:=by rw[←hul];exact (List.getElem?_eq_some_iff.1 hj).1
       have hj2:=h6 j hj1
       simp only[RowC.cell]at hj2
       rw[add_addr,Nat.zero_add,cell_of_block h4 (by omega),hj2.int]
       congr 2
       have hz:=hl _ (List.getElem_mem hj1)
       simp only[u,List.getElem?_map,List.getElem?_eq_getElem hj1,Option.map_some,Option.some.injEq]at hj
       subst hj
       rw[List.getD_eq_getElem?_getD,List.getElem?_eq_getElem hj1,Option.getD_some]
       have:(Nat.toUInt8 l[j].toNat).toNat=l[j].toNat:=by
        show (UInt8.ofNat _).toNat=_
        rw[UInt8.toNat_ofNat']
        omega
       rw[this];omega
      have hrun:=Lib.run_unsafeString_row (P:=P) w pt it T e hp hc (ρ id).blk cs.size hsh u (by intro e0;rw[e0]at hul;simp at hul;omega) (by rw[hul];omega) (by rw[hul];have:=h3.1;unfold maxN at this;omega) hcell
      rw[hul]at hrun
      have hexec:(execOp a.eval ⟨dst,.call { callee:=.builtin .unsafeString,args:=#[x,y],argTypes:=#[pt,it] },T,pos,aft,gd⟩).run P w=.ok (.value (.string (ofI l))) (w.freeze ⟨(ρ id).blk,0,none⟩ l.length):=by
       rw[call2];simp only[builtin,Sem.run_bind,hax,hvy,hrun,Result.andThen_ok];rfl
      have hdom:(fun i=>i∈([]:List Nat)∨X'.D i)=X'.D:=by funext i;simp
      refine⟨_,_,.inl hexec,I,ρ,Imm.le_refl I,fun _ _=>rfl,?_,?_⟩
      ·simp only[hdom,Option.getD_none]
       show Rel E I ρ X'.D (fun i=>if i=id then none else X'.G i) X'.g _
       refine Rel.lose hr.rel hg' h1 ?_ ?_ ?_
       ·unfold World.freeze;split<;>rfl
       ·unfold World.freeze;split<;>simp
       ·intro b hb hne
        unfold World.freeze
        split
        ·rfl
        ·simp only[Array.getElem?_modify]
         rw[if_neg (fun e=>hne e.symm)]
      ·exact .d .str
   ·exact h.elim
  ·exact h.elim
 ·exact h.elim
end
end Go.Mq
namespace Go.Mq
open Go
def Bodied (P : Program) (f : FuncId) : Prop := ∃ fn, P.funcs[f]? = some fn ∧ (fn.name == "runtime.NumGoroutine") = false ∧ fn.body.isNone = false
def CallC (P:Program)(f:FuncId)(args:List AVal)(G:Objs)(N:Nat)(g:Ghost)(r:AVal)(G':Objs)(N':Nat)(g':Ghost):Prop :=
 ∀E I ρ w (vs:Array Value),Rel E I ρ (· < N) G g w→All2 I ρ (· < N) args vs.toList →
  Calls P f vs w fun en w'=>∃I' ρ' v,I.le I'∧(∀id,id < N→ρ' id=ρ id)∧en=.returned v∧Rel E I' ρ' (· < N') G' g' w'∧CA I' ρ' (· < N') r v
def noObjs:Objs:=fun _=>none
def Pure (P:Program)(f:FuncId)(args:List AVal)(r:AVal):Prop:=Bodied P f∧∀g,CallC P f args noObjs 0 g r noObjs 0 g
def CallE (P:Program)(f:FuncId)(args:List AVal)(X:FS)(e:Eff):Prop :=
 ∀E I ρ w (vs:Array Value),Rel E I ρ X.D X.G X.g w→All2 I ρ X.D args vs.toList→(∀id∈e.nw,¬X.D id) →
  Calls P f vs w fun en w'=>∃I' ρ' v,I.le I'∧(∀id,X.D id→ρ' id=ρ id)∧en=.returned v∧Rel E I' ρ' (fun i=>i∈e.nw∨X.D i) (putG X.G e.u) (e.g.getD X.g) w'∧CA I' ρ' (fun i=>i∈e.nw∨X.D i) e.v v
def CallLoc (P:Program)(f:FuncId)(args:List AVal)(F:List Nat)(gu:Bool)(X:FS)(e:Eff):Prop :=
 ∀X':FS,(∀id∈F,X'.G id=X.G id)→(gu=true→X'.g=X.g)→CallE P f args X' e
mutual
def AVal.closed:AVal→Bool
 | .ref _ _=>false
 | .row _ _=>false
 | .mp _=>false
 | .fn _ l=>closedL l
 | .agg l=>closedL l
 | .tuple l=>closedL l
 | .iface _ x=>x.closed
 | _=>true
def closedL:List AVal→Bool
 | []=>true
 | x::l=>x.closed && closedL l
end
theorem closedL_get:∀{l:List AVal},closedL l=true→∀i (h:i < l.length),(l[i]).closed=true
 | [],_,i,h=>by simp at h
 | x::l,hc,i,h=>by
  simp only[closedL,Bool.and_eq_true]at hc
  cases i with
  | zero=>exact hc.1
  | succ i=>exact closedL_get hc.2 i (by simpa using h)
theorem CA.unbind {I:Imm}{ρ ρ':Nat→RB}{D D':Nat→Prop}{x:AVal}{v:Value}(h:CA I ρ D x v):x.closed=true→CA I ρ' D' x v:=by
 induction h with
 | d hd=>exact fun _=>.d hd
 | und=>exact fun _=>.und
 | any=>exact fun _=>.any
 | ref=>exact fun h=>by simp[AVal.closed]at h
 | row=>exact fun h=>by simp[AVal.closed]at h
 | row0=>exact fun h=>by simp[AVal.closed]at h
 | mp=>exact fun h=>by simp[AVal.closed]at h
 | fn hl _ ih=>exact fun h=>.fn hl fun i hi=>ih i hi (closedL_get (by simpa [AVal.closed] using h) i hi)
 | agg hl _ ih=>exact fun h=>.agg hl fun i hi=>ih i hi (closedL_get (by simpa [AVal.closed] using h) i hi)
 | tuple hl _ ih=>exact fun h=>.tuple hl fun i hi=>ih i hi (closedL_get (by simpa [AVal.closed] using h) i hi)
 | val=>exact fun _=>.val
 | iface _ ih=>exact fun h=>.iface (ih (by simpa [AVal.closed] using h))
theorem All2.unbind {I:Imm}{ρ ρ':Nat→RB}{D D':Nat→Prop}:∀{l:List AVal} {vs:List Value},All2 I ρ D l vs→closedL l=true→All2 I ρ' D' l vs
 | [],[],_,_=>trivial
 | [],_::_,h,_=>h.elim
 | _::_,[],h,_=>h.elim
 | _::_,_::_,h,hc=>by
  simp only[closedL,Bool.and_eq_true]at hc
  exact⟨h.1.unbind hc.1,All2.unbind h.2 hc.2⟩
theorem CallC.loc {P:Program}{f:FuncId}{args:List AVal}{r:AVal}{X:FS}(h:∀g,CallC P f args noObjs 0 g r noObjs 0 g)(hc:closedL args=true):CallLoc P f args [] false X (one1 r):=by
 intro X' _ _ E I ρ w vs hr ha _
 have h1:Rel E I ρ (· < 0) noObjs (pack ρ X'.D X'.G X'.g) w:=hr.aside
 refine (h _ E I ρ w vs h1 (ha.unbind hc)).mono ?_
 rintro en w' ⟨I',ρ',v,hI,_,he,hr',hv⟩
 refine⟨I',ρ,v,hI,fun _ _=>rfl,he,?_,?_⟩
 ·have:=hr'.back
  simpa [putG,one1] using this
 ·exact hv.mono (Imm.le_refl _) (fun id hid=>by simp at hid) (fun id hid=>by simp at hid)
theorem pure_loc {P:Program}{f:FuncId}{args:List AVal}{r:AVal}{X:FS}(h:Pure P f args r)(hc:closedL args=true):CallLoc P f args [] false X (one1 r):=CallC.loc h.2 hc
def CallG (P:Program)(f:FuncId)(args:List AVal)(X:FS)(nx:Nat)(K:List Nat→Bool→Eff→Prop):Prop :=
 (Bodied P f∧∃F gu e,EffOK F gu nx e∧CallLoc P f args F gu X e∧K F gu e)∨(ExtSame P f∧∃x,args=[x]∧K [] false (one1 x))
def CallK (P:Program)(fo:AVal)(args:List AVal)(X:FS)(nx:Nat)(K:List Nat→Bool→Eff→Prop):Prop :=
 match fo with
 | .fn f caps=>forceL (args++caps) fun l=>CallG P f l X nx K
 | _=>False
theorem CallG.pure {P:Program}{f:FuncId}{args:List AVal}{X:FS}{nx:Nat}{K:List Nat→Bool→Eff→Prop}{r:AVal}(h:Pure P f args r)(hc:closedL args=true)(hk:K [] false (one1 r)) :
  CallG P f args X nx K:=.inl ⟨h.1,[],false,one1 r,.one,pure_loc h hc,hk⟩
theorem fn_inv {I:Imm}{ρ:Nat→RB}{D:Nat→Prop}{f:FuncId}{l:List AVal}{v:Value}(h:CA I ρ D (.fn f l) v):∃cs,v=.func (.func f) #[] cs∧CAs I ρ D l cs:=by
 cases h with
 | fn hl hc=>exact⟨_,rfl,hl,hc⟩
theorem All2.append {I:Imm}{ρ:Nat→RB}{D:Nat→Prop}:∀{a b:List AVal} {u v:List Value},All2 I ρ D a u→All2 I ρ D b v→All2 I ρ D (a++b) (u++v)
 | [],_,[],_,_,h=>h
 | [],_,_::_,_,h,_=>h.elim
 | _::_,_,[],_,h,_=>h.elim
 | _::_,_,_::_,_,h,h2=>⟨h.1,All2.append h.2 h2⟩
theorem CAs.all2 {I:Imm}{ρ:Nat→RB}{D:Nat→Prop}{l:List AVal}{cs:Array Value}(h:CAs I ρ D l cs):All2 I ρ D l cs.toList :=
 All2.of l cs.toList (by simpa using h.1) (fun i hi=>by simpa using h.2 i hi)
def callOp (fo:Operand)(xs:Array Operand)(ts:Array TypeId):Op:=.call { callee:=.value fo,args:=xs,argTypes:=ts }
theorem run_callFunc {P:Program}{w:World}{f:FuncId}(h:Bodied P f)(args:Array Value):(callFunc f args).run P w=.ok (.enter f args) w:=by
 obtain⟨fn,h1,h2,h3⟩:=h
 have h2' : fn.name ≠ "runtime.NumGoroutine" := by simpa using h2
 have h3':fn.body≠none:=by intro e;rw[e]at h3;simp at h3
 simp[callFunc,h1,h2',h3']
theorem call_L {P:Program}{E:Env}{dst:Option Tmp}{fo:Operand}{xs:Array Operand}{ts:Array TypeId}{T:TypeId}{pos:String}{aft:Array Edge}{gd:Option (Nat×Bool)}{X:FS}{f:FuncId}{caps:List AVal}{F:List Nat}{gu:Bool}{e:Eff}
  (hd:dstOk dst X.n) (hf:evT X.T fo=.fn f caps) (hb:Bodied P f) (h:CallLoc P f (xs.toList.map (evT X.T)++caps) F gu X e):OpL P E ⟨dst,callOp fo xs ts,T,pos,aft,gd⟩ F gu X e:=by
 intro X' ⟨hn,hx,hF,hg⟩ I ρ a w hr hfr
 have hfm:fo∈(callOp fo xs ts).operands:=by simp[callOp,Op.operands,Call.operands]
 have hv:=hr.ev fo
 rw[hx fo hfm,hf]at hv
 obtain⟨cs,e1,hcs⟩:=fn_inv hv
 have hargs:All2 I ρ X'.D (xs.toList.map (evT X.T)) (xs.map a.eval).toList:=by
  refine All2.of _ _ (by simp) fun j hj=>?_
  have hj':j < xs.size:=by simpa using hj
  have hm:xs[j]∈(callOp fo xs ts).operands:=by simp[callOp,Op.operands,Call.operands]
  have:=hr.ev xs[j]
  rw[hx _ hm]at this
  simp[hj']
  exact this
 have hcall:=h X' hF hg E I ρ w ((xs.map a.eval)++cs) hr.rel (by simpa using hargs.append hcs.all2) hfr
 have hrun:(execOp a.eval ⟨dst,callOp fo xs ts,T,pos,aft,gd⟩).run P w=.ok (.enter f ((xs.map a.eval)++cs)) w:=by
  simp[execOp,callOp,resolve,e1,Deferred.ofValue,invoke,run_callFunc hb]
 unfold Oper.wp
 rw[hrun]
 simp only[Oper.upon]
 refine hcall.mono ?_
 rintro en w' ⟨I',ρ',v,hI,hρ,rfl,hr',hcv⟩
 refine⟨I',ρ',hI,hr',?_,?_,slot_put hr.size (by rw[hn];exact hd) (fun t=>(hr.slot t).mono hI (fun _=>.inr) hρ) hcv,fun id h=>.inr (hr.dom id h),fun id h=>(hρ id (hr.dom id h)).trans (hr.bas id h)⟩
 ·cases dst<;>simp[Act.put,hr.defs]
 ·have:=hr.size
  cases dst<;>simp[Act.put,FS.app,this]
theorem ext_L {P:Program}{E:Env}{dst:Option Tmp}{fo:Operand}{xs:Array Operand}{ts:Array TypeId}{T:TypeId}{pos:String}{aft:Array Edge}{gd:Option (Nat×Bool)}{X:FS}{f:FuncId}{caps:List AVal}{x:AVal}
  (hd:dstOk dst X.n) (hf:evT X.T fo=.fn f caps) (hb:ExtSame P f) (h:xs.toList.map (evT X.T)++caps=[x]):OpL P E ⟨dst,callOp fo xs ts,T,pos,aft,gd⟩ [] false X (one1 x):=by
 refine read_L hd fun X' hn hx hF I ρ a w hr=>?_
 have hfm:fo∈(callOp fo xs ts).operands:=by simp[callOp,Op.operands,Call.operands]
 have hv:=hr.ev fo
 rw[hx fo hfm,hf]at hv
 obtain⟨cs,e1,hcs⟩:=fn_inv hv
 have hargs:All2 I ρ X'.D (xs.toList.map (evT X.T)) (xs.map a.eval).toList:=by
  refine All2.of _ _ (by simp) fun j hj=>?_
  have hj':j < xs.size:=by simpa using hj
  have hm:xs[j]∈(callOp fo xs ts).operands:=by simp[callOp,Op.operands,Call.operands]
  have:=hr.ev xs[j]
  rw[hx _ hm]at this
  simp[hj']
  exact this
 have hall:All2 I ρ X'.D [x] ((xs.map a.eval)++cs).toList:=by
  rw[←h]
  simpa using hargs.append hcs.all2
 obtain⟨v,hv1,hv2⟩:∃v,(xs.map a.eval)++cs=#[v]∧CA I ρ X'.D x v:=by
  generalize hz:(xs.map a.eval)++cs=z at hall
  obtain⟨z⟩:=z
  match z,hall with
  | [v],hall=>exact⟨v,rfl,hall.1⟩
  | [],hall=>exact hall.elim
  | _::_::_,hall=>exact hall.2.elim
 obtain⟨fn,e,q1,q2,q3,q4,q5,q6⟩:=hb.h
 refine⟨v,?_,hv2⟩
 have hrun:=run_callFunc_extern q1 q2 q3 q4 q5 #[v] w
 rw[q6]at hrun
 simp[execOp,callOp,resolve,e1,Deferred.ofValue,invoke,hv1,hrun]
structure MethOK (P:Program)(t:TypeId)(m:String)(f:FuncId):Prop where
 row:∃i mi,P.info? t=some i∧i.methods.find? (·.name == m)=some mi∧mi.path=#[]∧mi.func=some (f,false)
 und:∃d,P.underlying t=some d∧(match d with | .pointer _=>False|_=>True)
theorem run_method {P:Program}{t:TypeId}{m:String}{f:FuncId}(h:MethOK P t m f)(v:Value)(w:World)(n:Nat):(method (n+1) t v m).run P w=.ok (f,v) w:=by
 obtain⟨i,mi,h1,h2,h3,h4⟩:=h.row
 obtain⟨d,h5,h6⟩:=h.und
 have hr:∀(o:Option String) (w:World),(receiverAt t (.val v) false o).run P w=.ok v w:=by
  intro o w
  cases d<;>first|exact h6.elim|simp[receiverAt,underlying,h5,Place.get]
 simp[method,typeInfo,h1,h2,h3,h4,follow,hr]
def InvG (P:Program)(t:TypeId)(m:String)(l:List AVal)(X:FS)(nx:Nat)(K:List Nat→Bool→Eff→Prop):Prop:=∃f,MethOK P t m f∧Bodied P f∧CallG P f l X nx K
def InvV (P:Program)(v:AVal)(m:String)(l:List AVal)(X:FS)(nx:Nat)(K:List Nat→Bool→Eff→Prop):Prop:=∃t y,v=.d (.iface t y)∧InvG P t m (unD y::l) X nx K
def invOp (r:Operand)(m:String)(xs:Array Operand)(ts:Array TypeId):Op:=.call { callee:=.invoke r m,args:=xs,argTypes:=ts }
theorem inv_L {P:Program}{E:Env}{dst:Option Tmp}{r:Operand}{m:String}{xs:Array Operand}{ts:Array TypeId}{T:TypeId}{pos:String}{aft:Array Edge}{gd:Option (Nat×Bool)}{X:FS}{t:TypeId}{y:Data}{f:FuncId}{F:List Nat}{gu:Bool}{e:Eff}
  (hd:dstOk dst X.n) (hf:evT X.T r=.d (.iface t y)) (hm:MethOK P t m f) (hb:Bodied P f) (h:CallLoc P f (unD y::xs.toList.map (evT X.T)) F gu X e):OpL P E ⟨dst,invOp r m xs ts,T,pos,aft,gd⟩ F gu X e:=by
 intro X' ⟨hn,hx,hF,hg⟩ I ρ a w hr hfr
 have hfm:r∈(invOp r m xs ts).operands:=by simp[invOp,Op.operands,Call.operands]
 have hv:=hr.ev r
 rw[hx r hfm,hf]at hv
 obtain⟨v,e1,hcv0⟩:∃v,a.eval r=.iface t v∧Cd I y v:=by
  generalize a.eval r=z at hv
  cases hv with|d hv=>cases hv;exact⟨_,rfl,‹_›⟩
 have hargs:All2 I ρ X'.D (xs.toList.map (evT X.T)) (xs.map a.eval).toList:=by
  refine All2.of _ _ (by simp) fun j hj=>?_
  have hj':j < xs.size:=by simpa using hj
  have hm:xs[j]∈(invOp r m xs ts).operands:=by simp[invOp,Op.operands,Call.operands]
  have:=hr.ev xs[j]
  rw[hx _ hm]at this
  simp[hj']
  exact this
 have hall:All2 I ρ X'.D (unD y::xs.toList.map (evT X.T)) (#[v]++xs.map a.eval).toList:=by
  simp only[Array.toList_append,List.cons_append,List.nil_append]
  exact⟨unD_ok hcv0,hargs⟩
 have hcall:=h X' hF hg E I ρ w (#[v]++xs.map a.eval) hr.rel hall hfr
 have hrun:(execOp a.eval ⟨dst,invOp r m xs ts,T,pos,aft,gd⟩).run P w=.ok (.enter f (#[v]++xs.map a.eval)) w:=by
  have hme:∀w:World,(method (P.types.size+Made.depth) t v m).run P w=.ok (f,v) w:=fun w=>run_method hm v w (P.types.size+99)
  have hex:(xs.map a.eval).extract 0 xs.size=xs.map a.eval:=by
   apply Array.ext'
   simp
   rw[List.take_of_length_le (by simp)]
  have h0:(#[Value.iface t v]++xs.map a.eval)[0]?=some (.iface t v):=by simp[Array.getElem?_append_left]
  simp[execOp,invOp,resolve,e1,invoke,h0,callMethod,hme,hex,run_callFunc hb]
 unfold Oper.wp
 rw[hrun]
 simp only[Oper.upon]
 refine hcall.mono ?_
 rintro en w' ⟨I',ρ',v,hI,hρ,rfl,hr',hcv⟩
 refine⟨I',ρ',hI,hr',?_,?_,slot_put hr.size (by rw[hn];exact hd) (fun t=>(hr.slot t).mono hI (fun _=>.inr) hρ) hcv,fun id h=>.inr (hr.dom id h),fun id h=>(hρ id (hr.dom id h)).trans (hr.bas id h)⟩
 ·cases dst<;>simp[Act.put,hr.defs]
 ·have:=hr.size
  cases dst<;>simp[Act.put,FS.app,this]
def convK (P:Program)(tt:List (Nat×TI))(s d:Nat)(x:Operand)(ev:Operand→AVal)(get:Objs)(nx:Nat)(K:List Nat→Bool→Eff→Prop):Prop :=
 match ev x with
 | .row _ _=>mem3K tt (.convert s d x) ev get nx (fun F e=>K F false e)
 | .ref _ _=>uK P (.convert s d x) ev get nx (fun F e=>K F false e)
 | _=>pureK tt (.convert s d x) ev (fun v=>K [] false (one1 v))
def appK (P:Program)(tt:List (Nat×TI))(xs:Array Operand)(ts:Array TypeId)(ev:Operand→AVal)(get:Objs)(nx:Nat)(K:List Nat→Bool→Eff→Prop):Prop :=
 match xs.toList with
 | [_,y]=>(match ev y with
  | .d (.str _)=>uK P (.call { callee:=.builtin .append,args:=xs,argTypes:=ts }) ev get nx (fun F e=>K F false e)
  | _=>mem2K tt (.call { callee:=.builtin .append,args:=xs,argTypes:=ts }) ev get nx (fun F e=>K F false e))
 | _=>False
structure EqSI (P:Program)(t:TypeId):Prop where
 gd:P.eqGuardType P.depth t=false
 eq:∀(a b:ByteArray) (m n:Int) (w:World),(Op.equal t (.agg #[.string a,.int .i64 m]) (.agg #[.string b,.int .i64 n])).run P w=.ok (decide (a=b) && decide (m=n)) w
def aggK (P:Program)(o:BinOp)(t:TypeId)(l:List AVal)(y:AVal)(K:AVal→Prop):Prop :=
 match l,y with
 | [.d (.str a),.d (.int .i64 m)],.agg [.d (.str b),.d (.int .i64 n)]=>Side (EqSI P t) <| match o with
  | .eql=>K (.d (.bool (decide (a=b) && decide (m=n))))
  | .neq=>K (.d (.bool (!(decide (a=b) && decide (m=n)))))
  | _=>False
 | _,_=>False
theorem two_inv {I:Imm}{ρ:Nat→RB}{D:Nat→Prop}{a:ByteArray}{m:Int}{v:Value}(h:CA I ρ D (.agg [.d (.str a),.d (.int .i64 m)]) v):v=.agg #[.string a,.int .i64 m]:=by
 obtain⟨cs,rfl,h1,h2⟩:=h.agg_inv
 have a0:=(h2 0 (by simp)).str
 have a1:=(h2 1 (by simp)).int
 congr 1
 apply Array.ext
 ·exact h1
 ·intro i hi1 hi2
  match i,hi1 with
  | 0,hi=>simpa [hi] using a0
  | 1,hi=>simpa [hi] using a1
  | i+2,hi=>rw[h1]at hi;simp at hi;omega
theorem agg_L {P:Program}{E:Env}{dst:Option Tmp}{o:BinOp}{t:TypeId}{x y:Operand}{p T:TypeId}{pos:String}{aft:Array Edge}{gd:Option (Nat×Bool)}{X:FS}{a b:ByteArray}{m n:Int}{r:Bool}
  (hd:dstOk dst X.n) (hx:evT X.T x=.agg [.d (.str a),.d (.int .i64 m)]) (hy:evT X.T y=.agg [.d (.str b),.d (.int .i64 n)]) (he:EqSI P t)
  (hr:(o=.eql∧r=(decide (a=b) && decide (m=n)))∨(o=.neq∧r=!(decide (a=b) && decide (m=n)))):OpL P E ⟨dst,.binOp o t x y p,T,pos,aft,gd⟩ [] false X (one1 (.d (.bool r))):=by
 refine read_L hd fun X' _ hxx hF I ρ act w hr2=>?_
 have hv:=hr2.ev x
 have hu:=hr2.ev y
 rw[hxx x (by simp[Op.operands]),hx]at hv
 rw[hxx y (by simp[Op.operands]),hy]at hu
 have e1:=two_inv hv
 have e2:=two_inv hu
 refine⟨.bool r,?_,.d .bool⟩
 have hg:(eqGuard o t x y (.agg #[.string a,.int .i64 m]) (.agg #[.string b,.int .i64 n])).run P w=.ok () w:=by
  rcases hr with⟨rfl,_⟩|⟨rfl,_⟩<;>simp[eqGuard,he.gd]
 rcases hr with⟨rfl,rfl⟩|⟨rfl,rfl⟩
 ·simp only[execOp,e1,e2,Sem.run_bind,hg,Result.andThen_ok]
  simp[binOp,he.eq]
 ·simp only[execOp,e1,e2,Sem.run_bind,hg,Result.andThen_ok]
  simp[binOp,he.eq]
def binG (P:Program)(tt:List (Nat×TI))(o:BinOp)(t:TypeId)(x y:Operand)(p:TypeId)(ev:Operand→AVal)(get:Objs)(nx:Nat)(K:List Nat→Bool→Eff→Prop):Prop :=
 match ev x with
 | .ref _ _=>uK P (.binOp o t x y p) ev get nx (fun F e=>K F false e)
 | .agg l=>aggK P o t l (ev y) (fun v=>K [] false (one1 v))
 | _=>iK tt (.binOp o t x y p) ev (fun v=>K [] false (one1 v))
def evOp (P:Program)(tt:List (Nat×TI))(op:Op)(X:FS)(nx:Nat)(K:List Nat→Bool→Eff→Prop):Prop :=
 match op with
 | .call { callee:=.value fo,args:=xs,argTypes:=_ }=>CallK P (evT X.T fo) (xs.toList.map (evT X.T)) X nx K
 | .call { callee:=.invoke r m,args:=xs,argTypes:=_ }=>InvV P (evT X.T r) m (xs.toList.map (evT X.T)) X nx K
 | .call { callee:=.builtin .append,args:=xs,argTypes:=ts }=>appK P tt xs ts (evT X.T) X.G nx K
 | .call { callee:=.builtin .unsafeSliceData,args:=xs,argTypes:=ts }=>uK P (.call { callee:=.builtin .unsafeSliceData,args:=xs,argTypes:=ts }) (evT X.T) X.G nx (fun F e=>K F false e)
 | .call { callee:=.builtin .unsafeString,args:=xs,argTypes:=ts }=>uK P (.call { callee:=.builtin .unsafeString,args:=xs,argTypes:=ts }) (evT X.T) X.G nx (fun F e=>K F false e)
 | .binOp o t x y p=>binG P tt o t x y p (evT X.T) X.G nx K
 | .call { callee:=.builtin b,args:=xs,argTypes:=ts }=>mem2K tt (.call { callee:=.builtin b,args:=xs,argTypes:=ts }) (evT X.T) X.G nx (fun F e=>K F false e)
 | .buildSlice t n ps=>mem2K tt (.buildSlice t n ps) (evT X.T) X.G nx (fun F e=>K F false e)
 | .load t a=>memK tt (.load t a) (evT X.T) X.G nx (fun F e=>K F false e)
 | .store t a x=>memK tt (.store t a x) (evT X.T) X.G nx (fun F e=>K F false e)
 | .alloc t=>memK tt (.alloc t) (evT X.T) X.G nx (fun F e=>K F false e)
 | .box t x=>memK tt (.box t x) (evT X.T) X.G nx (fun F e=>K F false e)
 | .build t ps=>memK tt (.build t ps) (evT X.T) X.G nx (fun F e=>K F false e)
 | .makeSlice t l c=>mem3K tt (.makeSlice t l c) (evT X.T) X.G nx (fun F e=>K F false e)
 | .makeMap t none=>mem3K tt (.makeMap t none) (evT X.T) X.G nx (fun F e=>K F false e)
 | .lookup t m k false=>mem3K tt (.lookup t m k false) (evT X.T) X.G nx (fun F e=>K F false e)
 | .mapUpdate t m k x=>mem3K tt (.mapUpdate t m k x) (evT X.T) X.G nx (fun F e=>K F false e)
 | .mapEntry t m k=>mem3K tt (.mapEntry t m k) (evT X.T) X.G nx (fun F e=>K F false e)
 | .entryStore t m n x=>mem3K tt (.entryStore t m n x) (evT X.T) X.G nx (fun F e=>K F false e)
 | .convert s d x=>convK P tt s d x (evT X.T) X.G nx K
 | op=>iK tt op (evT X.T) (fun v=>K [] false (one1 v))
def RealE (E:Env)(X:FS):Prop:=∃I ρ a w,RelT E I ρ X a w
theorem evOp_ok {P:Program}{E:Env}{tt:List (Nat×TI)}(htt:TTok P tt){dst:Option Tmp}{op:Op}{T:TypeId}{pos:String}{aft:Array Edge}{gd:Option (Nat×Bool)}{X:FS}{nx:Nat}
  {K:List Nat→Bool→Eff→Prop} (hd:dstOk dst X.n) (hreal:RealE E X) (h:evOp P tt op X nx K):∃F gu e,K F gu e∧EffOK F gu nx e∧OpL P E ⟨dst,op,T,pos,aft,gd⟩ F gu X e:=by
 have fromX:∀{op:Op},iK tt op (evT X.T) (fun v=>K [] false (one1 v))→∃F gu e,K F gu e∧EffOK F gu nx e∧OpL P E ⟨dst,op,T,pos,aft,gd⟩ F gu X e:=by
  intro op h
  obtain⟨r,hk,hp⟩:=iK_ok htt h
  exact⟨[],false,one1 r,hk,.one,pure_L hd hp⟩
 have fromP:∀{op:Op},pureK tt op (evT X.T) (fun v=>K [] false (one1 v))→∃F gu e,K F gu e∧EffOK F gu nx e∧OpL P E ⟨dst,op,T,pos,aft,gd⟩ F gu X e:=by
  intro op h
  obtain⟨r,hk,hp⟩:=pureK_ok htt h
  exact⟨[],false,one1 r,hk,.one,pure_L hd hp⟩
 have lift:∀{op:Op},(∃F e,K F false e∧EffOK F false nx e∧OpL P E ⟨dst,op,T,pos,aft,gd⟩ F false X e)→∃F gu e,K F gu e∧EffOK F gu nx e∧OpL P E ⟨dst,op,T,pos,aft,gd⟩ F gu X e:=by
  intro op ⟨F,e,h⟩
  exact⟨F,false,e,h⟩
 have hR:Real X:=by obtain⟨I,ρ,a,w,h⟩:=hreal;exact⟨E,I,ρ,a,w,h⟩
 unfold evOp at h
 split at h
 ·rename_i fo xs ts
  unfold CallK at h
  split at h
  ·rename_i f caps hf
   rw[forceL_eq]at h
   rcases h with⟨hb,F,gu,e,h1,h2,h3⟩|⟨hb,x,h1,h2⟩
   ·exact⟨F,gu,e,h3,h1,call_L hd hf hb h2⟩
   ·exact⟨[],false,one1 x,h2,.one,ext_L hd hf hb h1⟩
  ·exact h.elim
 ·rename_i r m xs ts
  obtain⟨t,y,hy,f,hm,hb,h⟩:=h
  unfold CallG at h
  rcases h with⟨_,F,gu,e,h1,h2,h3⟩|⟨hx,_⟩
  ·exact⟨F,gu,e,h3,h1,inv_L hd hy hm hb h2⟩
  ·obtain⟨fn,h1,_,h2⟩:=hb
   obtain⟨fn',_,h3,_,h4,_⟩:=hx.h
   rw[h1]at h3
   cases h3
   rw[h2]at h4
   cases h4
 ·rename_i xs ts
  unfold appK at h
  split at h
  ·split at h
   ·exact lift (uapp_ok hd h)
   ·exact lift (append_ok htt hd h)
  ·exact h.elim
 ·exact lift (udata_ok hd h)
 ·exact lift (ustr_ok hd h)
 ·rename_i o t x y p
  unfold binG at h
  split at h
  ·exact lift (ubin_ok hd h)
  ·rename_i l hx
   unfold aggK at h
   split at h
   ·rename_i a m b n hl hy
    obtain⟨he,h⟩:=h
    split at h
    ·exact⟨[],false,_,h,.one,agg_L hd (by assumption) (by assumption) he (.inl ⟨rfl,rfl⟩)⟩
    ·exact⟨[],false,_,h,.one,agg_L hd (by assumption) (by assumption) he (.inr ⟨rfl,rfl⟩)⟩
    ·exact h.elim
   ·exact h.elim
  ·exact fromX h
 ·rename_i b xs ts _ _ _
  cases b<;>first
   | exact lift (len_ok htt hd hR h)
   | exact lift (min_ok hd h)
   | exact lift (max_ok hd h)
   | exact lift (append_ok htt hd h)
   | exact h.elim
 ·exact lift (buildSlice_ok htt hd h)
 ·exact lift (load_ok htt hd h)
 ·exact lift (store_ok htt hd h)
 ·exact lift (alloc_ok htt hd h)
 ·exact lift (box_ok hd h)
 ·exact lift (build_ok htt hd h)
 ·exact lift (makeSlice_ok htt hd h)
 ·exact lift (makeMap_ok hd h)
 ·exact lift (lookup_ok htt hd h)
 ·exact lift (mapUpdate_ok htt hd h)
 ·exact lift (mapEntry_ok htt hd h)
 ·exact lift (entryStore_ok hd h)
 ·unfold convK at h
  split at h
  ·exact lift (convB_ok htt hd h)
  ·exact lift (uconv_ok hd h)
  ·exact fromP h
 ·exact fromX h
theorem CallG.mk {P:Program}{f:FuncId}{args:List AVal}{X:FS}{nx:Nat}{K:List Nat→Bool→Eff→Prop}(h:Bodied P f∧∃F gu e,EffOK F gu nx e∧CallLoc P f args F gu X e∧K F gu e):CallG P f args X nx K:=.inl h
attribute [irreducible] CallG InvV
end Go.Mq
namespace Go.Mq
open Go
def slotOf (ops:List Oper)(j:Nat):Option Tmp:=(ops[j]?).bind (·.dst)
def Wants (ops:List Oper)(o:Oper)(X:FS):Prop:=match o.guard with
 | none=>True
 | some (j,b)=>∃d,slotOf ops j=some d∧X.T d=.d (.bool b)
def Skips (ops:List Oper)(o:Oper)(X:FS):Prop:=match o.guard with
 | none=>False
 | some (j,b)=>∃d,slotOf ops j=some d∧(X.T d=.d (.bool (!b))∨X.T d=.und)
theorem getD_some {a:Array Value}{d:Nat}{v:Value}(h:a.getD d undef=v)(hv:v≠undef):a[d]?=some v:=by
 by_cases hd:d < a.size
 ·simp[hd]at h ⊢;exact h
 ·simp[hd]at h;exact absurd h.symm hv
theorem wants_ok {E:Env}{I:Imm}{ρ:Nat→RB}{X:FS}{a:Act}{w:World}{ops:List Oper}{o:Oper}(h:RelT E I ρ X a w)(hw:Wants ops o X):Region.wanted o (yielded ops.toArray a.tmps)=true:=by
 unfold Wants at hw
 unfold Region.wanted
 cases hg:o.guard with
 | none=>rfl
 | some p =>
  obtain⟨j,b⟩:=p
  rw[hg]at hw
  obtain⟨d,h1,h2⟩:=hw
  have hs:=h.slot d
  rw[h2]at hs
  have hs:=getD_some hs.bool (by simp[undef])
  have:yielded ops.toArray a.tmps j=some b:=by
   unfold yielded
   have e:((ops.toArray[j]?).bind (·.dst)).bind (a.tmps[·]?)=some (.bool b):=by
    have:(ops.toArray[j]?).bind (·.dst)=some d:=by simpa [slotOf] using h1
    rw[this];exact hs
   rw[e]
  simp[this]
theorem skips_ok {E:Env}{I:Imm}{ρ:Nat→RB}{X:FS}{a:Act}{w:World}{ops:List Oper}{o:Oper}(h:RelT E I ρ X a w)(hw:Skips ops o X):Region.wanted o (yielded ops.toArray a.tmps)=false:=by
 unfold Skips at hw
 unfold Region.wanted
 cases hg:o.guard with
 | none=>rw[hg]at hw;exact hw.elim
 | some p =>
  obtain⟨j,b⟩:=p
  rw[hg]at hw
  obtain⟨d,h1,h2⟩:=hw
  have hs:=h.slot d
  have hd:(ops.toArray[j]?).bind (·.dst)=some d:=by simpa [slotOf] using h1
  rcases h2 with h2|h2
  ·rw[h2]at hs
   have hs:=getD_some hs.bool (by simp[undef])
   have:yielded ops.toArray a.tmps j=some (!b):=by
    unfold yielded
    rw[hd];simp only[Option.bind_some,hs]
   simp[this]
  ·rw[h2]at hs
   have:yielded ops.toArray a.tmps j=none:=by
    unfold yielded
    rw[hd];simp only[Option.bind_some]
    generalize hu:a.tmps.getD d undef=u at hs
    cases hs
    cases ht:a.tmps[d]? with
    | none=>rfl
    | some v =>
     have:v=undef:=by
      have:=hu
      rw[Array.getD_eq_getD_getElem?,ht]at this
      simpa using this
     rw[this];rfl
   simp[this]
def skipE:Eff:=⟨.und,[],[],none⟩
inductive Chain (P:Program)(E:Env)(all:List Oper):List Oper→Nat→FS→List (List Nat×Bool×Eff)→FS→Prop
 | nil {nx:Nat} {X:FS}:Chain P E all [] nx X [] X
 | run {o:Oper} {rest:List Oper} {nx:Nat} {X Y:FS} {F:List Nat} {gu:Bool} {e:Eff} {es:List (List Nat×Bool×Eff)} (hw:Wants all o X) (he:EffOK F gu nx e) (hL:OpL P E o F gu X e)
   (hr:Chain P E all rest (nx+e.nw.length) (X.app o.dst e) es Y):Chain P E all (o::rest) nx X ((F,gu,e)::es) Y
 | skip {o:Oper} {rest:List Oper} {nx:Nat} {X Y:FS} {es:List (List Nat×Bool×Eff)} (hw:Skips all o X) (hd:dstOk o.dst X.n)
   (hr:Chain P E all rest nx (X.app o.dst skipE) es Y):Chain P E all (o::rest) nx X (([],false,skipE)::es) Y
theorem app_skip {X:FS}{dst:Option Tmp}:(X.app dst skipE).D=X.D∧(X.app dst skipE).G=X.G∧(X.app dst skipE).g=X.g∧(X.app dst skipE).n=X.n:=by
 refine⟨?_,rfl,rfl,rfl⟩
 funext i;simp[FS.app,skipE]
theorem relT_skip {E:Env}{I:Imm}{ρ:Nat→RB}{X:FS}{a:Act}{w:World}{dst:Option Tmp}(h:RelT E I ρ X a w)(hd:dstOk dst X.n):RelT E I ρ (X.app dst skipE) (a.put dst undef) w:=by
 obtain⟨h1,h2,h3,h4⟩:=app_skip (X:=X) (dst:=dst)
 refine⟨?_,?_,?_,?_,by rw[h1];exact h.dom,h.bas⟩
 ·rw[h1,h2,h3];exact h.rel
 ·cases dst<;>simp[Act.put,h.defs]
 ·have:=h.size;cases dst<;>simp[Act.put,h4,this]
 ·rw[h1];exact slot_put h.size hd h.slot .und
theorem Oper.wp_post {P:Program}{o:Oper}{a:Act}{w:World}{K K':Act→World→Prop}{Q:Exit→Act→World→Prop}(h:o.wp P a w K (fun _ _ _=>False))(hk:∀a w,K a w→K' a w):o.wp P a w K' Q:=by
 unfold Oper.wp at *
 generalize (execOp a.eval o).run P w=r at *
 cases r with
 | ok n w' =>
  cases n<;>simp only[Oper.upon]at h ⊢ <;>
   first
    | exact hk _ _ h
    | exact Calls.mono h (fun e w'' he=>by cases e<;>first|exact hk _ _ he|exact he.elim|(obtain⟨_,_,hf⟩:=he;exact hf.elim))
    | exact Rows.mono h (fun _ _ he=>hk _ _ he)
 | halt x w'=>cases x<;>simp only[Oper.upon]at h
theorem chain_seq {P:Program}{E:Env}{all:List Oper}{Q:Exit→Act→World→Prop}{Y:FS}{I0:Imm}(hQ:∀I ρ a w,I0.le I→RelT E I ρ Y a w→Q .normal a w) :
  ∀{l:List Oper} {nx:Nat} {X:FS} {es:List (List Nat×Bool×Eff)},Chain P E all l nx X es Y→(∀id,X.D id↔id < nx)→∀(k:Nat),all.drop k=l→∀I ρ a w,I0.le I→RelT E I ρ X a w→wpOps P all.toArray Q (List.range' k l.length) a w:=by
 intro l nx X es hc
 induction hc with
 | nil=>intro _ k _ I ρ a w hI0 h;exact hQ I ρ a w hI0 h
 | @run o rest nx X Y F gu e es hw he hL hr ih =>
  intro hD k hk I ρ a w hI0 h
  have hko:all[k]?=some o:=by
   have:=congrArg (·[0]?) hk
   simpa using this
  have hk':all.drop (k+1)=rest:=by
   have:=congrArg List.tail hk
   simpa using this
  simp only[List.length_cons,List.range'_succ,wpOps]
  have:all.toArray[k]?=some o:=by simpa using hko
  rw[this]
  simp only[wants_ok h hw,if_true]
  left
  have hE:=hL X ⟨rfl,fun _ _=>rfl,fun _ _=>rfl,fun _=>rfl⟩
  have hfr:∀id∈e.nw,¬X.D id:=fun id hid hd=>by
   have:=(he.nw id).1 hid
   have:=(hD id).1 hd
   omega
  refine Oper.wp_post (hE I ρ a w h hfr) ?_
  rintro a' w' ⟨I',ρ',hle,hr'⟩
  refine ih hQ ?_ (k+1) hk' I' ρ' a' w' (Imm.le_trans hI0 hle) hr'
  intro id
  show id∈e.nw∨X.D id↔_
  rw[he.nw,hD];omega
 | @skip o rest nx X Y es hw hd hr ih =>
  intro hD k hk I ρ a w hI0 h
  have hko:all[k]?=some o:=by
   have:=congrArg (·[0]?) hk
   simpa using this
  have hk':all.drop (k+1)=rest:=by
   have:=congrArg List.tail hk
   simpa using this
  simp only[List.length_cons,List.range'_succ,wpOps]
  have:all.toArray[k]?=some o:=by simpa using hko
  rw[this]
  simp only[skips_ok h hw,Bool.false_eq_true,if_false]
  refine ih hQ ?_ (k+1) hk' I ρ _ w hI0 (relT_skip h hd)
  intro id
  rw[app_skip.1,hD]
def val {α:Type}(init:α)(w:Nat→Option α)(S:Nat→Bool):Nat→α
 | 0=>init
 | n+1=>if S n then (w n).getD (val init w S n) else val init w S n
theorem val_congr {α:Type}{init:α}{w:Nat→Option α}{S S':Nat→Bool}:∀{n:Nat},(∀k,k < n→w k≠none→S k=S' k)→val init w S n=val init w S' n
 | 0,_=>rfl
 | n+1,h=>by
  have ih:=val_congr (init:=init) (n:=n) fun k hk=>h k (by omega)
  simp only[val,ih]
  cases hw:w n with
  | none=>simp
  | some v=>rw[h n (by omega) (by rw[hw];simp)]
def addB (S:Nat→Bool)(i:Nat):Nat→Bool:=fun k=>Nat.beq k i || S k
theorem beq_ne {a b:Nat}(h:a≠b):Nat.beq a b=false:=by
 cases hb:Nat.beq a b with
 | false=>rfl
 | true=>exact absurd (Nat.eq_of_beq_eq_true hb) h
theorem beq_self (a:Nat):Nat.beq a a=true:=by induction a with
 | zero=>rfl
 | succ n ih=>exact ih
theorem val_add {α:Type}{init:α}{w:Nat→Option α}{S:Nat→Bool}{i:Nat}:∀{n:Nat},i < n→S i=false→(∀k,k < n→k≠i→w k≠none→w i≠none→S k=true→k < i)→val init w (addB S i) n=(w i).getD (val init w S n)
 | 0,hi,_,_=>by omega
 | n+1,hi,hS,h=>by
  by_cases e:i=n
  ·subst e
   have h1:addB S i i=true:=by simp[addB]
   have h2:val init w (addB S i) i=val init w S i:=val_congr fun k hk _=>by
    have:Nat.beq k i=false:=beq_ne (by omega)
    simp[addB,this]
   simp only[val,h1,if_true,hS,Bool.false_eq_true,if_false,h2]
  ·have hlt:i < n:=by omega
   have h1:addB S i n=S n:=by
    have:Nat.beq n i=false:=beq_ne (by omega)
    simp[addB,this]
   have ih:=val_add (init:=init) hlt hS fun k hk=>h k (by omega)
   simp only[val,h1,ih]
   cases hw:w n with
   | none=>simp
   | some v =>
    cases hwi:w i with
    | none=>simp
    | some u =>
     have:S n≠true:=fun hs=>by
      have:=h n (by omega) (by omega) (by rw[hw];simp) (by rw[hwi];simp) hs
      omega
     simp[this]
def ancOne (acc:List Nat)(o:Oper):Nat:=o.after.toList.foldl (fun m e=>bif Region.binds .any e then m ||| 2 ^ e.on ||| acc.getD e.on 0 else m) 0
def ancs:List Oper→List Nat→List Nat
 | [],acc=>acc
 | o::r,acc=>ancs r (acc++[ancOne acc o])
def Deps (S:Nat→Bool)(o:Oper):Prop:=∀e∈o.after,Region.binds .any e=true→S e.on=true
def Closed (ops:List Oper)(S:Nat→Bool):Prop:=∀i o,ops[i]?=some o→S i=true→Deps S o
theorem testBit_foldl {acc:List Nat}{k:Nat}:∀(l:List Edge) (m:Nat),(l.foldl (fun m e=>bif Region.binds .any e then m ||| 2 ^ e.on ||| acc.getD e.on 0 else m) m).testBit k=true →
  m.testBit k=true∨∃e∈l,Region.binds .any e=true∧(k=e.on∨(acc.getD e.on 0).testBit k=true)
 | [],m,h=>.inl h
 | e::l,m,h=>by
  simp only[List.foldl_cons]at h
  rcases testBit_foldl l _ h with h|⟨e',h1,h2,h3⟩
  ·cases hb:Region.binds .any e with
   | false=>rw[hb]at h;exact .inl h
   | true =>
    rw[hb]at h
    simp only[cond_true,Nat.testBit_or,Bool.or_eq_true,Nat.testBit_two_pow,decide_eq_true_eq]at h
    rcases h with (h|h)|h
    ·exact .inl h
    ·exact .inr ⟨e,by simp,hb,.inl h.symm⟩
    ·exact .inr ⟨e,by simp,hb,.inr h⟩
  ·exact .inr ⟨e',by simp[h1],h2,h3⟩
def AncOK (ops:List Oper)(acc:List Nat):Prop:=∀i k,(acc.getD i 0).testBit k=true→∃o,ops[i]?=some o∧∃e∈o.after,Region.binds .any e=true∧(k=e.on∨(e.on < i∧(acc.getD e.on 0).testBit k=true))
theorem ancs_ok {ops:List Oper}:∀(l:List Oper) (acc:List Nat),ops.drop acc.length=l→AncOK ops acc→AncOK ops (ancs l acc)
 | [],acc,_,h=>h
 | o::l,acc,hd,h=>by
  have ho:ops[acc.length]?=some o:=by
   have:=congrArg (·[0]?) hd
   simpa using this
  have hd':ops.drop (acc++[ancOne acc o]).length=l:=by
   have:=congrArg List.tail hd
   simpa using this
  refine ancs_ok l _ hd' fun i k hk=>?_
  by_cases hi:i < acc.length
  ·have e1:(acc++[ancOne acc o]).getD i 0=acc.getD i 0:=by simp[List.getElem?_append_left hi]
   rw[e1]at hk
   obtain⟨o',h1,e,h2,h3,h4⟩:=h i k hk
   refine⟨o',h1,e,h2,h3,?_⟩
   rcases h4 with h4|⟨h4,h5⟩
   ·exact .inl h4
   ·refine .inr ⟨h4,?_⟩
    have:(acc++[ancOne acc o]).getD e.on 0=acc.getD e.on 0:=by simp[List.getElem?_append_left (show e.on < acc.length by omega)]
    rw[this];exact h5
  ·by_cases hi2:i=acc.length
   ·subst hi2
    have e1:(acc++[ancOne acc o]).getD acc.length 0=ancOne acc o:=by simp
    rw[e1]at hk
    rcases testBit_foldl _ _ hk with h0|⟨e,h1,h2,h3⟩
    ·simp at h0
    ·refine⟨o,ho,e,by simpa using h1,h2,?_⟩
     rcases h3 with h3|h3
     ·exact .inl h3
     ·have hlt:e.on < acc.length:=by
       rcases Nat.lt_or_ge e.on acc.length with h'|h'
       ·exact h'
       ·simp[List.getElem?_eq_none h']at h3
      refine .inr ⟨hlt,?_⟩
      have:(acc++[ancOne acc o]).getD e.on 0=acc.getD e.on 0:=by simp[List.getElem?_append_left hlt]
      rw[this];exact h3
   ·have e1:(acc++[ancOne acc o]).getD i 0=0:=by
     have:(acc++[ancOne acc o]).length≤i:=by simp;omega
     simp[List.getElem?_eq_none this]
    rw[e1]at hk;simp at hk
theorem anc_in {ops:List Oper}{acc:List Nat}(h:AncOK ops acc){S:Nat→Bool}(hc:Closed ops S):∀(i:Nat) (o:Oper),ops[i]?=some o→Deps S o→∀k,(acc.getD i 0).testBit k=true→S k=true:=by
 intro i
 induction i using Nat.strongRecOn with
 | _ i ih =>
  intro o ho hd k hk
  obtain⟨o',h1,e,h2,h3,h4⟩:=h i k hk
  rw[ho]at h1;cases h1
  have he:=hd e h2 h3
  rcases h4 with rfl|⟨h4,h5⟩
  ·exact he
  ·obtain⟨o2,ho2,_⟩:=h e.on k h5
   exact ih e.on h4 o2 ho2 (hc e.on o2 ho2 he) k h5
def backB (ops:List Oper):Bool:=(List.range ops.length).all fun i=>(ops.getD i default).after.all fun e=>!Region.binds .any e || Nat.blt e.on i
theorem anc_lt {ops:List Oper}{acc:List Nat}(h:AncOK ops acc)(hb:backB ops=true):∀(i:Nat) k,(acc.getD i 0).testBit k=true→k < i:=by
 intro i
 induction i using Nat.strongRecOn with
 | _ i ih =>
  intro k hk
  obtain⟨o,h1,e,h2,h3,h4⟩:=h i k hk
  have hi:i < ops.length:=(List.getElem?_eq_some_iff.1 h1).1
  have he:e.on < i:=by
   unfold backB at hb
   rw[List.all_eq_true]at hb
   have:=hb i (by simpa using hi)
   have e1:ops.getD i default=o:=by rw[List.getD_eq_getElem?_getD,h1];rfl
   rw[e1,Array.all_eq_true_iff_forall_mem]at this
   have:=this e h2
   rw[h3]at this
   simpa [Nat.blt_eq] using this
  rcases h4 with rfl|⟨h4,h5⟩
  ·exact he
  ·have:=ih e.on he k h5;omega
end Go.Mq
namespace Go.Mq
open Go
abbrev Es:=List (List Nat×Bool×Eff)
def effOf (es:Es)(k:Nat):Eff:=(es.getD k ([],false,skipE)).2.2
def gW:List (Nat×Option AObj)→Nat→Option (Option AObj)
 | [],_=>none
 | (i,o)::r,id=>match gW r id with
  | some x=>some x
  | none=>if id=i then some o else none
theorem putG_eq:∀(u:List (Nat×Option AObj)) (G:Objs) (id:Nat),putG G u id=(gW u id).getD (G id)
 | [],_,_=>rfl
 | (i,o)::r,G,id=>by
  simp only[putG,gW]
  rw[putG_eq r]
  cases gW r id with
  | some x=>rfl
  | none=>by_cases h:id=i<;>simp[h]
def wT (all:List Oper)(es:Es)(t k:Nat):Option AVal:=if slotOf all k=some t then some (effOf es k).v else none
def wG (es:Es)(id k:Nat):Option (Option AObj):=gW (effOf es k).u id
def wg (es:Es)(k:Nat):Option Ghost:=(effOf es k).g
def XS (all:List Oper)(es:Es)(X0:FS)(S:Nat→Bool):FS :=
 {n:=X0.n,T:=fun t=>val (X0.T t) (wT all es t) S all.length,G:=fun id=>val (X0.G id) (wG es id) S all.length,
  D:=fun id=>X0.D id∨∃k,k < all.length∧S k=true∧id∈(effOf es k).nw,g:=val X0.g (wg es) S all.length }
def upto (k:Nat):Nat→Bool:=fun j=>Nat.blt j k
theorem upto_iff {k j:Nat}:upto k j=true↔j < k:=by simp[upto,Nat.blt_eq]
theorem upto_false {k j:Nat}:upto k j=false↔¬j < k:=by
 rw[←upto_iff];cases upto k j<;>simp
theorem addB_upto (k:Nat):addB (upto k) k=upto (k+1):=by
 funext j
 cases h:upto (k+1) j with
 | true =>
  have:=upto_iff.1 h
  by_cases e:j=k
  ·subst e;simp[addB]
  ·have:upto k j=true:=upto_iff.2 (by omega)
   simp[addB,this]
 | false =>
  have:=upto_false.1 h
  have h1:upto k j=false:=upto_false.2 (by omega)
  simp[addB,h1,beq_ne (show j≠k by omega)]
theorem FS.ext {X Y:FS}(h1:X.n=Y.n)(h2:X.T=Y.T)(h3:X.G=Y.G)(h4:X.D=Y.D)(h5:X.g=Y.g):X=Y:=by
 cases X;cases Y;simp_all
theorem XS_add {all:List Oper}{es:Es}{X0:FS}{S:Nat→Bool}{i:Nat}{o:Oper}(ho:all[i]?=some o)(hS:S i=false)
  (hT:∀t k,k < all.length→k≠i→slotOf all k=some t→slotOf all i=some t→S k=true→k < i)
  (hG:∀id k,k < all.length→k≠i→wG es id k≠none→wG es id i≠none→S k=true→k < i)
  (hg:∀k,k < all.length→k≠i→wg es k≠none→wg es i≠none→S k=true→k < i) :
  (XS all es X0 S).app o.dst (effOf es i)=XS all es X0 (addB S i):=by
 have hi:i < all.length:=(List.getElem?_eq_some_iff.1 ho).1
 have hslot:slotOf all i=o.dst:=by simp[slotOf,ho]
 refine FS.ext rfl ?_ ?_ ?_ ?_
 ·funext t
  show putT _ o.dst _ t=val (X0.T t) (wT all es t) (addB S i) all.length
  rw[val_add hi hS ?_]
  ·show _=(if slotOf all i=some t then some (effOf es i).v else none).getD _
   rw[hslot]
   cases hd:o.dst with
   | none=>simp[putT,XS]
   | some d =>
    by_cases e:t=d
    ·subst e;simp[putT]
    ·simp[putT,e,Ne.symm e,XS]
  ·intro k hk hne h1 h2 h3
   have e1:slotOf all k=some t:=by unfold wT at h1;split at h1<;>first|assumption|exact absurd rfl h1
   have e2:slotOf all i=some t:=by unfold wT at h2;split at h2<;>first|assumption|exact absurd rfl h2
   exact hT t k hk hne e1 e2 h3
 ·funext id
  show putG _ _ id=val (X0.G id) (wG es id) (addB S i) all.length
  rw[val_add hi hS (fun k hk hne h1 h2 h3=>hG id k hk hne h1 h2 h3),putG_eq]
  rfl
 ·funext id
  apply propext
  show (id∈(effOf es i).nw∨(X0.D id∨_))↔_
  constructor
  ·rintro (h|h|⟨k,h1,h2,h3⟩)
   ·exact .inr ⟨i,hi,by simp[addB],h⟩
   ·exact .inl h
   ·exact .inr ⟨k,h1,by simp[addB,h2],h3⟩
  ·rintro (h|⟨k,h1,h2,h3⟩)
   ·exact .inr (.inl h)
   ·by_cases e:k=i
    ·subst e;exact .inl h3
    ·have:S k=true:=by simpa [addB,beq_ne e] using h2
     exact .inr (.inr ⟨k,h1,this,h3⟩)
 ·show (effOf es i).g.getD _=val X0.g (wg es) (addB S i) all.length
  rw[val_add hi hS (fun k hk hne h1 h2 h3=>hg k hk hne h1 h2 h3)]
  rfl
def Fact (P:Program)(E:Env)(all:List Oper)(es:Es)(X0:FS)(N:Nat→Nat)(k:Nat):Prop :=
 ∃o F gu,all[k]?=some o∧es[k]?=some (F,gu,effOf es k)∧(∀id,id∈(effOf es k).nw↔N k≤id∧id < N (k+1))∧N k≤N (k+1) ∧
  ((Wants all o (XS all es X0 (upto k))∧(∀p∈(effOf es k).u,p.1∈F∨p.1∈(effOf es k).nw)∧OpL P E o F gu (XS all es X0 (upto k)) (effOf es k)) ∨
    (Skips all o (XS all es X0 (upto k))∧dstOk o.dst X0.n∧effOf es k=skipE))
def sumN (es:Es)(n0:Nat):Nat→Nat
 | 0=>n0
 | k+1=>sumN es n0 k+(effOf es k).nw.length
theorem XS_zero {all:List Oper}{es:Es}{X0:FS}:XS all es X0 (upto 0)=X0:=by
 have:∀{α:Type} (a:α) (w:Nat→Option α) (n:Nat),val a w (upto 0) n=a:=by
  intro α a w n
  induction n with
  | zero=>rfl
  | succ n ih=>simp[val,upto,Nat.blt,ih]
 refine FS.ext rfl (by funext t;exact this _ _ _) (by funext id;exact this _ _ _) ?_ (this _ _ _)
 funext id
 apply propext
 show (X0.D id∨_)↔_
 constructor
 ·rintro (h|⟨k,_,h,_⟩)
  ·exact h
  ·have:=upto_iff.1 h;omega
 ·exact .inl
theorem XS_next {all:List Oper}{es:Es}{X0:FS}{k:Nat}{o:Oper}(ho:all[k]?=some o):(XS all es X0 (upto k)).app o.dst (effOf es k)=XS all es X0 (upto (k+1)):=by
 rw[←addB_upto]
 exact XS_add ho (upto_false.2 (by omega)) (fun _ k' _ _ _ _ h=>upto_iff.1 h) (fun _ k' _ _ _ _ h=>upto_iff.1 h) (fun k' _ _ _ _ h=>upto_iff.1 h)
theorem chain_facts {P:Program}{E:Env}{all:List Oper}{es:Es}{X0 Y:FS}{n0:Nat}:∀{l:List Oper} {nx:Nat} {X:FS} {es':Es},Chain P E all l nx X es' Y→∀k,all.drop k=l→es.drop k=es'→X=XS all es X0 (upto k)→nx=sumN es n0 k →
  k≤all.length→(∀j,k≤j→j < all.length→Fact P E all es X0 (sumN es n0) j)∧Y=XS all es X0 (upto all.length):=by
 intro l nx X es' hc
 induction hc with
 | @nil nx X =>
  intro k hk _ hX _ hle
  have:k=all.length:=by
   have:=congrArg List.length hk
   simp at this;omega
  subst this
  exact⟨fun j h1 h2=>by omega,hX⟩
 | @run o rest nx X Y F gu e es' hw he hL hr ih =>
  intro k hk hes hX hnx hle
  have hko:all[k]?=some o:=by have:=congrArg (·[0]?) hk;simpa using this
  have hk':all.drop (k+1)=rest:=by have:=congrArg List.tail hk;simpa using this
  have hek:es[k]?=some (F,gu,e):=by have:=congrArg (·[0]?) hes;simpa using this
  have hes':es.drop (k+1)=es':=by have:=congrArg List.tail hes;simpa using this
  have hef:effOf es k=e:=by simp[effOf,hek]
  have hlt:k < all.length:=(List.getElem?_eq_some_iff.1 hko).1
  obtain⟨h1,h2⟩:=ih (k+1) hk' hes' (by rw[hX,←XS_next hko,hef]) (by rw[hnx];simp only[sumN,hef]) (by omega)
  refine⟨fun j hj hjl=>?_,h2⟩
  by_cases e1:j=k
  ·subst e1
   refine⟨o,F,gu,hko,by rw[hef];exact hek,fun id=>?_,by simp only[sumN];omega,.inl ⟨hX ▸ hw,by rw[hef];exact he.key,by rw[hef];exact hX ▸ hL⟩⟩
   rw[hef,he.nw,hnx];simp only[sumN,hef]
  ·exact h1 j (by omega) hjl
 | @skip o rest nx X Y es' hw hd hr ih =>
  intro k hk hes hX hnx hle
  have hko:all[k]?=some o:=by have:=congrArg (·[0]?) hk;simpa using this
  have hk':all.drop (k+1)=rest:=by have:=congrArg List.tail hk;simpa using this
  have hek:es[k]?=some ([],false,skipE):=by have:=congrArg (·[0]?) hes;simpa using this
  have hes':es.drop (k+1)=es':=by have:=congrArg List.tail hes;simpa using this
  have hef:effOf es k=skipE:=by simp[effOf,hek]
  have hlt:k < all.length:=(List.getElem?_eq_some_iff.1 hko).1
  obtain⟨h1,h2⟩:=ih (k+1) hk' hes' (by rw[hX,←XS_next hko,hef]) (by rw[hnx];simp only[sumN,hef];rfl) (by omega)
  refine⟨fun j hj hjl=>?_,h2⟩
  by_cases e1:j=k
  ·subst e1
   refine⟨o,[],false,hko,by rw[hef];exact hek,fun id=>?_,by simp only[sumN];omega,.inr ⟨hX ▸ hw,?_,hef⟩⟩
   ·rw[hef];simp only[sumN,hef];simp[skipE]
   ·have:X.n=X0.n:=by rw[hX];rfl
    rw[←this];exact hd
  ·exact h1 j (by omega) hjl
theorem sumN_mono {es:Es}{n0:Nat}{i j:Nat}(h:i≤j):sumN es n0 i≤sumN es n0 j:=by
 induction h with
 | refl=>exact Nat.le_refl _
 | step _ ih=>simp only[sumN];omega
def footR (p:List Nat×Bool×Eff):List Nat:=(bif p.2.1 then [0] else [])++p.1.map (·+1)
def footW (p:List Nat×Bool×Eff):List Nat:=(bif p.2.2.g.isSome then [0] else [])++(p.2.2.u.map (·.1+1)++p.2.2.nw.map (·+1))
def conflB (all:List Oper)(fs:List (List Nat×List Nat))(k i:Nat):Bool :=
 (match slotOf all k with
   | some d=>(Oper.looksAt all.toArray (all.getD i default)).contains d || (all.getD i default).dst == some d
   | none=>false) || (fs.getD k ([],[])).2.any fun r=>(fs.getD i ([],[])).1.contains r || (fs.getD i ([],[])).2.contains r
def indepB (all:List Oper)(fs:List (List Nat×List Nat)):Bool :=
 backB all && ((List.range all.length).all fun i=>(List.range all.length).all fun k=>Nat.beq k i || !conflB all fs k i || ((ancs all []).getD i 0).testBit k || ((ancs all []).getD k 0).testBit i)
theorem conf_slot {all:List Oper}{fs:List (List Nat×List Nat)}{k i d:Nat}{o:Oper}(ho:all[i]?=some o)(hk:slotOf all k=some d)(h:d∈Oper.looksAt all.toArray o∨o.dst=some d):conflB all fs k i=true:=by
 have e:all.getD i default=o:=by rw[List.getD_eq_getElem?_getD,ho];rfl
 unfold conflB
 rw[hk,e]
 rcases h with h|h
 ·simp[h]
 ·simp[h]
theorem conf_res {all:List Oper}{fs:List (List Nat×List Nat)}{k i r:Nat}(hk:r∈(fs.getD k ([],[])).2)(h:r∈(fs.getD i ([],[])).1∨r∈(fs.getD i ([],[])).2):conflB all fs k i=true:=by
 unfold conflB
 have:((fs.getD k ([],[])).2.any fun r=>(fs.getD i ([],[])).1.contains r || (fs.getD i ([],[])).2.contains r)=true:=by
  rw[List.any_eq_true]
  refine⟨r,hk,?_⟩
  rw[Bool.or_eq_true,List.contains_iff_mem,List.contains_iff_mem]
  exact h
 rw[this,Bool.or_true]
theorem gW_mem:∀{u:List (Nat×Option AObj)} {id:Nat},gW u id≠none→id∈u.map (·.1)
 | [],_,h=>absurd rfl h
 | (i,o)::r,id,h=>by
  simp only[gW]at h
  cases hr:gW r id with
  | some x=>have:=gW_mem (u:=r) (id:=id) (by rw[hr];simp);simp only[List.map_cons,List.mem_cons];exact .inr this
  | none =>
   rw[hr]at h
   by_cases e:id=i
   ·simp[e]
   ·simp[e]at h
section
variable {P : Program} {E : Env} {all : List Oper} {es : Es} {X0 : FS} {n0 : Nat}
theorem foots_at {k:Nat}{F:List Nat}{gu:Bool}(h:es[k]?=some (F,gu,effOf es k)):(es.map fun p=>(footR p,footW p)).getD k ([],[])=(footR (F,gu,effOf es k),footW (F,gu,effOf es k)):=by
 simp[h]
theorem step_any (hf:∀j,j < all.length→Fact P E all es X0 (sumN es n0) j)(hD:∀id,X0.D id↔id < n0)(hi:indepB all (es.map fun p=>(footR p,footW p))=true){S:Nat→Bool}(hS:Closed all S)
  {i:Nat} {o:Oper} (ho:all[i]?=some o) (hni:S i=false) (hdep:Deps S o) {Q:Exit→Act→World→Prop} {K:Act→World→Prop} {I:Imm} {ρ:Nat→RB} {a:Act} {w:World} (hK:∀I' ρ a w,I.le I'→RelT E I' ρ (XS all es X0 (addB S i)) a w→K a w) (hr:RelT E I ρ (XS all es X0 S) a w) :
  wpOp P all.toArray Q i K a w:=by
 have hil:i < all.length:=(List.getElem?_eq_some_iff.1 ho).1
 obtain⟨o',F,gu,ho',hei,hnw,_,hcase⟩:=hf i hil
 rw[ho]at ho';cases ho'
 simp only[indepB,Bool.and_eq_true]at hi
 obtain⟨hback,hind⟩:=hi
 have hanc:AncOK all (ancs all []):=ancs_ok all [] rfl (fun i k hk=>by simp at hk)
 have ord:∀k,k < all.length→k≠i→conflB all (es.map fun p=>(footR p,footW p)) k i=true→(S k=true∧k < i)∨(S k=false∧i < k):=by
  intro k hk hne hc
  rw[List.all_eq_true]at hind
  have h1:=hind i (by simpa using hil)
  rw[List.all_eq_true]at h1
  have h2:=h1 k (by simpa using hk)
  rw[hc,beq_ne hne]at h2
  simp only[Bool.false_or,Bool.not_true,Bool.or_eq_true]at h2
  rcases h2 with h2|h2
  ·exact .inl ⟨anc_in hanc hS i o ho hdep k h2,anc_lt hanc hback i k h2⟩
  ·refine .inr ⟨?_,anc_lt hanc hback k i h2⟩
   cases hSk:S k with
   | false=>rfl
   | true =>
    obtain⟨ok,hok,_⟩:=hanc k i h2
    have:=anc_in hanc hS k ok hok (hS k ok hok hSk) i h2
    rw[hni]at this;cases this
 have same:∀k,k < all.length→(k≠i→conflB all (es.map fun p=>(footR p,footW p)) k i=true)→upto i k=S k:=by
  intro k hk hc
  by_cases e:k=i
  ·subst e;rw[hni];exact upto_false.2 (by omega)
  ·rcases ord k hk e (hc e) with⟨h1,h2⟩|⟨h1,h2⟩
   ·rw[h1];exact upto_iff.2 h2
   ·rw[h1];exact upto_false.2 (by omega)
 have before:∀k,k < all.length→k≠i→conflB all (es.map fun p=>(footR p,footW p)) k i=true→S k=true→k < i:=by
  intro k hk hne hc hSk
  rcases ord k hk hne hc with⟨_,h⟩|⟨h,_⟩
  ·exact h
  ·rw[h]at hSk;cases hSk
 have foot:∀k,k < all.length→∃F' gu',(es.map fun p=>(footR p,footW p)).getD k ([],[])=(footR (F',gu',effOf es k),footW (F',gu',effOf es k)):=by
  intro k hk
  obtain⟨_,F',gu',_,h2,_⟩:=hf k hk
  exact⟨F',gu',foots_at h2⟩
 have hfi:=foots_at hei
 have wrG:∀id k,k < all.length→wG es id k≠none→id+1∈((es.map fun p=>(footR p,footW p)).getD k ([],[])).2:=by
  intro id k hk h
  obtain⟨F',gu',e⟩:=foot k hk
  rw[e]
  have:=gW_mem h
  simp only[footW,List.mem_append,List.mem_map]
  refine .inr (.inl ?_)
  obtain⟨p,h1,h2⟩:=List.mem_map.1 this
  exact⟨p,h1,by rw[h2]⟩
 have wrg:∀k,k < all.length→wg es k≠none→0∈((es.map fun p=>(footR p,footW p)).getD k ([],[])).2:=by
  intro k hk h
  obtain⟨F',gu',e⟩:=foot k hk
  rw[e]
  have:(effOf es k).g.isSome=true:=by
   unfold wg at h
   cases hg:(effOf es k).g with
   | none=>exact absurd hg h
   | some _=>rfl
  simp[footW,this]
 have slotSame:∀t,t∈Oper.looksAt all.toArray o→(XS all es X0 (upto i)).T t=(XS all es X0 S).T t:=by
  intro t ht
  refine val_congr fun k hk hw=>same k hk fun _=>?_
  have:slotOf all k=some t:=by unfold wT at hw;split at hw<;>first|assumption|exact absurd rfl hw
  exact conf_slot ho this (.inl ht)
 have objSame:∀id,id∈F→(XS all es X0 S).G id=(XS all es X0 (upto i)).G id:=by
  intro id hid
  refine (val_congr fun k hk hw=>same k hk fun _=>?_).symm
  refine conf_res (wrG id k hk hw) (.inl ?_)
  rw[hfi]
  simp only[footR,List.mem_append,List.mem_map]
  exact .inr ⟨id,hid,rfl⟩
 have gSame:gu=true→(XS all es X0 S).g=(XS all es X0 (upto i)).g:=by
  intro hgu
  refine (val_congr fun k hk hw=>same k hk fun _=>?_).symm
  refine conf_res (wrg k hk hw) (.inl ?_)
  rw[hfi,hgu]
  simp[footR]
 have add:(XS all es X0 S).app o.dst (effOf es i)=XS all es X0 (addB S i):=by
  refine XS_add ho hni (fun t k hk hne h1 h2=>before k hk hne (conf_slot ho h1 (.inr ?_))) (fun id k hk hne h1 h2=>before k hk hne (conf_res (wrG id k hk h1) (.inr (wrG id i hil h2)))) (fun k hk hne h1 h2=>before k hk hne (conf_res (wrg k hk h1) (.inr (wrg i hil h2))))
  simpa [slotOf,ho] using h2
 have guardSame:∀j b d,o.guard=some (j,b)→slotOf all j=some d→(XS all es X0 (upto i)).T d=(XS all es X0 S).T d:=by
  intro j b d hg hd
  refine slotSame d ?_
  have hd':(all.toArray[j]?).bind (·.dst)=some d:=by simpa [slotOf] using hd
  unfold Oper.looksAt
  rw[hg]
  simp only[hd',Option.toList_some,List.mem_append]
  exact .inr (by simp)
 unfold wpOp
 have:all.toArray[i]?=some o:=by simpa using ho
 rw[this]
 rcases hcase with⟨hw,hkey,hL⟩|⟨hw,hd,hskip⟩
 ·have hw':Wants all o (XS all es X0 S):=by
   unfold Wants at hw ⊢
   cases hg:o.guard with
   | none=>trivial
   | some p =>
    obtain⟨j,b⟩:=p
    rw[hg]at hw
    obtain⟨d,h1,h2⟩:=hw
    exact⟨d,h1,by rw[←guardSame j b d hg h1];exact h2⟩
  simp only[wants_ok hr hw',if_true]
  left
  have hE:=hL (XS all es X0 S) ⟨rfl,fun x hx=>?_,objSame,gSame⟩
  ·have hfr:∀id∈(effOf es i).nw,¬(XS all es X0 S).D id:=by
    intro id hid hdd
    have h1:=(hnw id).1 hid
    rcases hdd with h2|⟨k,h2,h3,h4⟩
    ·have:=(hD id).1 h2
     have:=sumN_mono (es:=es) (n0:=n0) (show 0≤i by omega)
     simp only[sumN]at this;omega
    ·obtain⟨_,_,_,_,_,hnwk,_,_⟩:=hf k h2
     have h5:=(hnwk id).1 h4
     by_cases e:k=i
     ·subst e;rw[hni]at h3;cases h3
     ·rcases Nat.lt_or_gt_of_ne e with h6|h6
      ·have:=sumN_mono (es:=es) (n0:=n0) (show k+1≤i by omega);omega
      ·have:=sumN_mono (es:=es) (n0:=n0) (show i+1≤k by omega);omega
   refine Oper.wp_post (hE I ρ a w hr hfr) ?_
   rintro a' w' ⟨I',ρ',hle,hr'⟩
   rw[add]at hr'
   exact hK I' ρ' a' w' hle hr'
  ·cases x with
   | tmp t =>
    refine (slotSame t ?_).symm
    unfold Oper.looksAt
    refine List.mem_append_left _ (List.mem_filterMap.2 ⟨.tmp t,by simpa using hx,rfl⟩)
   | _=>rfl
 ·have hw':Skips all o (XS all es X0 S):=by
   unfold Skips at hw ⊢
   cases hg:o.guard with
   | none=>rw[hg]at hw;exact hw
   | some p =>
    obtain⟨j,b⟩:=p
    rw[hg]at hw
    obtain⟨d,h1,h2⟩:=hw
    exact⟨d,h1,by rw[←guardSame j b d hg h1];exact h2⟩
  simp only[skips_ok hr hw',Bool.false_eq_true,if_false]
  have hr':=relT_skip (dst:=o.dst) hr hd
  rw[←hskip,add]at hr'
  exact hK I ρ _ w (Imm.le_refl I) hr'
def listedS (listed:Array Bool):Nat→Bool:=fun k=>listed.getD k false
theorem listed_add {listed:Array Bool}{i:Nat}(hi:i < listed.size):listedS (listed.setIfInBounds i true)=addB (listedS listed) i:=by
 funext k
 unfold listedS addB
 by_cases e:k=i
 ·subst e;simp[hi]
 ·simp[beq_ne e,Ne.symm e]
theorem any_order (hf:∀j,j < all.length→Fact P E all es X0 (sumN es n0) j)(hD:∀id,X0.D id↔id < n0)(hi:indepB all (es.map fun p=>(footR p,footW p))=true){Q:Exit→Act→World→Prop}
  {I0:Imm} (hQ:∀I ρ a w,I0.le I→RelT E I ρ (XS all es X0 (upto all.length)) a w→Q .normal a w) :
  ∀(fuel:Nat) (listed:Array Bool),listed.size=all.length→Closed all (listedS listed)→(List.range all.length).countP (fun k=>!listedS listed k)=fuel→∀I ρ a w,I0.le I→RelT E I ρ (XS all es X0 (listedS listed)) a w→wpAny P .any all.toArray Q fuel listed a w:=by
 have hback:backB all=true:=by simp only[indepB,Bool.and_eq_true]at hi;exact hi.1
 have ready:∀(listed:Array Bool),listed.size=all.length→Closed all (listedS listed)→Region.ready .any all.toArray listed=[]→∀k,k < all.length→listedS listed k=true:=by
  intro listed hsz hc hr k
  induction k using Nat.strongRecOn with
  | _ k ih =>
   intro hk
   cases hl:listedS listed k with
   | true=>rfl
   | false =>
    have hok:all[k]?=some all[k]:=List.getElem?_eq_getElem hk
    have:k∈Region.ready .any all.toArray listed:=by
     rw[mem_ready]
     refine⟨?_,all[k],by simp[hk],fun e he hb=>?_⟩
     ·unfold listedS at hl
      have:k < listed.size:=by omega
      simp[this]at hl ⊢;exact hl
     ·have hlt:e.on < k:=by
       unfold backB at hback
       rw[List.all_eq_true]at hback
       have h1:=hback k (by simpa using hk)
       have e1:all.getD k default=all[k]:=by rw[List.getD_eq_getElem?_getD,hok];rfl
       rw[e1,Array.all_eq_true_iff_forall_mem]at h1
       have h2:=h1 e he
       rw[hb]at h2
       simpa [Nat.blt_eq] using h2
      exact ih e.on hlt (by omega)
    rw[hr]at this;cases this
 have done:∀(listed:Array Bool),listed.size=all.length→(∀k,k < all.length→listedS listed k=true)→∀I ρ a w,I0.le I→RelT E I ρ (XS all es X0 (listedS listed)) a w→Q .normal a w:=by
  intro listed hsz hall I ρ a w hI0 hr
  have hS:listedS listed=upto all.length:=by
   funext k
   by_cases hk:k < all.length
   ·rw[hall k hk,upto_iff.2 hk]
   ·rw[upto_false.2 hk];unfold listedS
    have:¬k < listed.size:=by omega
    simp[this]
  rw[hS]at hr
  exact hQ I ρ a w hI0 hr
 intro fuel
 induction fuel with
 | zero =>
  intro listed hsz hc hcnt I ρ a w hI0 hr
  have hall:∀k,k < all.length→listedS listed k=true:=by
   intro k hk
   rw[List.countP_eq_zero]at hcnt
   have:=hcnt k (by simpa using hk)
   simpa using this
  refine⟨?_,done listed hsz hall I ρ a w hI0 hr⟩
  apply List.eq_nil_iff_forall_not_mem.2
  intro k hk
  rw[mem_ready]at hk
  obtain⟨h1,o,h2,_⟩:=hk
  have hkl:k < all.length:=by
   have:all[k]?=some o:=by simpa using h2
   exact (List.getElem?_eq_some_iff.1 this).1
  have h3:=hall k hkl
  unfold listedS at h3
  have:k < listed.size:=by omega
  simp[this]at h1 h3
  rw[h3]at h1;cases h1
 | succ fuel ih =>
  intro listed hsz hc hcnt I ρ a w hI0 hr
  refine⟨fun h=>done listed hsz (ready listed hsz hc h) I ρ a w hI0 hr,fun i hi'=>?_⟩
  rw[mem_ready]at hi'
  obtain⟨h1,o,h2,h3⟩:=hi'
  have ho:all[i]?=some o:=by simpa using h2
  have hil:i < all.length:=(List.getElem?_eq_some_iff.1 ho).1
  have hil2:i < listed.size:=by omega
  have hni:listedS listed i=false:=by unfold listedS;simp[hil2]at h1 ⊢;exact h1
  have hdep:Deps (listedS listed) o:=fun e he hb=>h3 e he hb
  refine step_any hf hD hi hc ho hni hdep (fun I' ρ' a' w' hle hr'=>?_) hr
  ·rw[←listed_add hil2]at hr'
   refine ih (listed.setIfInBounds i true) (by simpa using hsz) ?_ ?_ I' ρ' a' w' (Imm.le_trans hI0 hle) hr'
   ·rw[listed_add hil2]
    intro k ok hok hk e he hb
    by_cases e1:k=i
    ·subst e1;rw[ho]at hok;cases hok
     have:=hdep e he hb
     simp[addB,this]
    ·have:listedS listed k=true:=by simpa [addB,beq_ne e1] using hk
     have:=hc k ok hok this e he hb
     simp[addB,this]
   ·rw[listed_add hil2]
    have cnt:∀n,i < n→(List.range n).countP (fun k=>!listedS listed k)=(List.range n).countP (fun k=>!addB (listedS listed) i k)+1:=by
     intro n hn
     induction n with
     | zero=>omega
     | succ n ihn =>
      rw[List.range_succ,List.countP_append,List.countP_append]
      by_cases e:i=n
      ·subst e
       have h0:(List.range i).countP (fun k=>!listedS listed k)=(List.range i).countP (fun k=>!addB (listedS listed) i k):=by
        apply List.countP_congr
        intro k hk
        have:k≠i:=by have:=List.mem_range.1 hk;omega
        simp[addB,beq_ne this]
       rw[h0]
       simp[hni,addB]
      ·have:=ihn (by omega)
       rw[this]
       have h5:addB (listedS listed) i n=listedS listed n:=by simp[addB,beq_ne (Ne.symm e)]
       simp only[List.countP_cons,List.countP_nil,h5]
       omega
    have:=cnt all.length hil
    omega
end
end Go.Mq
