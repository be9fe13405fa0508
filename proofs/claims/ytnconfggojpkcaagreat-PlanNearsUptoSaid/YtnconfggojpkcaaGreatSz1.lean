/- Texts that a law rests on, part z1: plain lemmas and what functions of the program do. No condition. -/
import Derived.BigQuiet
import Derived.Deep.QuietTactic
import Derived.Laws.MakeOwn
import Derived.Maps.AppendAt
import Derived.WalkKit
import Derived.WalkLawsBesides
import Derived.WalkSpells
set_option linter.all false
set_option maxHeartbeats 16000000
set_option maxRecDepth 100000
namespace Go.Proofs.YtnconfggojpkcaaGreat
open Go.RowKit
def Blk (w:World) (g:Nat) (t:TypeId) (cs:Array Value):Prop:=w.heap[g]? = some (.cells cs t (0,0))
section
variable {w w':World} {g:Nat} {t:TypeId} {cs:Array Value}
theorem Blk.lt (h:Blk w g t cs):g<w.heap.size:=by
 rcases Nat.lt_or_ge g w.heap.size with hlt | hge
 ·exact hlt
 ·unfold Blk at h; rw [Array.getElem?_eq_none hge] at h; cases h
end
section
variable {S S':Nat→Prop} {w w' w'':World}
end
section
variable {α:Type} {w w':World} {B B' sz:Nat} {enc:α→List Value} {v:Value} {xs:List α}
end
theorem qfU {w w':World} {base:Nat} {e:TypeId} {size n:Nat} {v:Value} {xs:List Value} (h:w.ownsRow base e size v n xs) (hk:∀ g,v.ownBlock=some g→w'.heap[g]? = w.heap[g]?) :
  w'.ownsRow base e size v n xs:=by
 obtain ⟨h1,h2⟩:=h
 refine ⟨h1,?_⟩
 rcases h2 with h2 | ⟨g,cap,cur,rfl,hg,hh,r⟩
 ·exact Or.inl h2
 ·exact Or.inr ⟨g,cap,cur,rfl,hg,(hk g rfl).trans hh,r⟩
section
variable {α:Type} {w w':World} {base B sz:Nat} {e:TypeId} {enc:α→List Value} {v:Value} {xs:List α}
end
def Yes (w:World) (e:Ending) (w':World):Prop:=e = .returned (.bool true)∧Below w.heap.size w w'
end Go.Proofs.YtnconfggojpkcaaGreat
namespace Go.Proofs.YtnconfggojpkcaaGreat
open Go.RowKit
namespace AM
inductive V where
 | sc (v:Value)
 | agg (cs:List V)
 | tup (cs:List V)
 | nil
 | sl (n sz:Nat) (cs:List V)
 | rd (cs:List V)
 | ptr (id off:Nat)
 | map (id:Nat)
 | fn (f:Fn) (first cap:List V)
 | iface (t:TypeId) (v:V)
 /-- a slice whose capacity is its length -/
 | fs (n sz:Nat) (cs:List V)
 /-- a slice of a block that has a number: from where,how long,its capacity -/
 | slb (id off n cap:Nat)
 deriving Inhabited
inductive Root where
 | slot (s:Nat)
 | cell (id off:Nat)
 deriving DecidableEq,Inhabited
inductive SV where
 | v (x:V)
 | own (pr:Bool) (e n sz:Nat) (cs:List V)
 | pth (r:Root) (off:Nat)
 | lnk (r:Root) (n:Nat)
 | any
 deriving Inhabited
inductive Role where
 | out
 | abs (id:Nat)
 | own (r:Root)
 deriving DecidableEq,Inhabited
structure Cx where
 I:Nat→Nat→Option Value
 φ:List Nat
 R:Nat→Role
mutual
inductive Rel (I:Nat→Nat→Option Value) (φ:List Nat):V→Value→Prop
 | sc (v:Value):Rel I φ (.sc v) v
 | agg {cs:List V} {vs:Array Value}:vM I φ cs vs.toList→Rel I φ (.agg cs) (.agg vs)
 | tup {cs:List V} {vs:Array Value}:vM I φ cs vs.toList→Rel I φ (.tup cs) (.tuple vs)
 | nil:Rel I φ .nil (.slice none 0 0)
 | sl {sz:Nat} {cs:List V} {vs:List Value} {b o len cap:Nat}:vM I φ cs vs→(∀ j u,vs[j]? = some u→I b (o+j)=some u)→cs.length=len*sz→len≤cap→cap≤maxLen→(∀ u∈vs,u.oneCell'=true) →
   Rel I φ (.sl len sz cs) (.slice (some ⟨b,o,none⟩) len cap)
 | sl0 {sz:Nat} {A:Option Addr}:Rel I φ (.sl 0 sz []) (.slice A 0 0)
 | rd {cs:List V} {vs:List Value} {b o:Nat}:vM I φ cs vs→(∀ j u,vs[j]? = some u→I b (o+j)=some u)→(∀ u∈vs,u.oneCell'=true)→Rel I φ (.rd cs) (.pointer (some ⟨b,o,none⟩))
 | ptr {id off b:Nat}:φ[id]? = some b→Rel I φ (.ptr id off) (.pointer (some ⟨b,off,none⟩))
 | map {id b:Nat}:φ[id]? = some b→Rel I φ (.map id) (.map (some b))
 | fn {f:Fn} {first cap:List V} {first' cap':Array Value}:vM I φ first first'.toList→vM I φ cap cap'.toList→Rel I φ (.fn f first cap) (.func f first' cap')
 | iface {t:TypeId} {x:V} {v:Value}:Rel I φ x v→Rel I φ (.iface t x) (.iface t v)
 | fs {sz:Nat} {cs:List V} {vs:List Value} {b o len:Nat}:vM I φ cs vs→(∀ j u,vs[j]? = some u→I b (o+j)=some u)→cs.length=len*sz→len≤maxLen→(∀ u∈vs,u.oneCell'=true)→Rel I φ (.fs len sz cs) (.slice (some ⟨b,o,none⟩) len len)
 | fs0 {sz:Nat} {A:Option Addr}:Rel I φ (.fs 0 sz []) (.slice A 0 0)
 | slb {id off n cap b:Nat}:φ[id]? = some b→n≤cap→cap≤maxLen→Rel I φ (.slb id off n cap) (.slice (some ⟨b,off,none⟩) n cap)
 | slb0 {id off:Nat} {A:Option Addr}:Rel I φ (.slb id off 0 0) (.slice A 0 0)
inductive vM (I:Nat→Nat→Option Value) (φ:List Nat):List V→List Value→Prop
 | nil:vM I φ [] []
 | cons {x:V} {v:Value} {xs:List V} {vs:List Value}:Rel I φ x v→vM I φ xs vs→vM I φ (x::xs) (v::vs)
end
section
variable {I I':Nat→Nat→Option Value} {φ φ':List Nat}
mutual
theorem Rel.mono (hI:∀ b o v,I b o=some v→I' b o=some v) (hφ:∀ id b:Nat,φ[id]? = some b→φ'[id]? = some b):∀ {x:V} {v:Value},Rel I φ x v→Rel I' φ' x v
 | _,_,.sc v => .sc v
 | _,_,.agg h => .agg (vM.mono hI hφ h)
 | _,_,.tup h => .tup (vM.mono hI hφ h)
 | _,_,.nil => .nil
 | _,_,.sl h h1 h2 h3 h4 h5 => .sl (vM.mono hI hφ h) (fun j u hu=>hI _ _ _ (h1 j u hu)) h2 h3 h4 h5
 | _,_,.sl0 => .sl0
 | _,_,.rd h h1 h5 => .rd (vM.mono hI hφ h) (fun j u hu=>hI _ _ _ (h1 j u hu)) h5
 | _,_,.ptr h => .ptr (hφ _ _ h)
 | _,_,.map h => .map (hφ _ _ h)
 | _,_,.fn h h1 => .fn (vM.mono hI hφ h) (vM.mono hI hφ h1)
 | _,_,.iface h => .iface (Rel.mono hI hφ h)
 | _,_,.fs h h1 h2 h3 h4 => .fs (vM.mono hI hφ h) (fun j u hu=>hI _ _ _ (h1 j u hu)) h2 h3 h4
 | _,_,.fs0 => .fs0
 | _,_,.slb h h1 h2 => .slb (hφ _ _ h) h1 h2
 | _,_,.slb0 => .slb0
theorem vM.mono (hI:∀ b o v,I b o=some v→I' b o=some v) (hφ:∀ id b:Nat,φ[id]? = some b→φ'[id]? = some b):∀ {x:List V} {v:List Value},vM I φ x v→vM I' φ' x v
 | _,_,.nil => .nil
 | _,_,.cons h h1 => .cons (Rel.mono hI hφ h) (vM.mono hI hφ h1)
end
theorem vM.len {xs:List V} {vs:List Value} (h:vM I φ xs vs):xs.length=vs.length:=by
 induction xs generalizing vs with
 | nil=>cases h; rfl
 | cons x xs ih=>cases h with | cons h h1=>simp [ih h1]
theorem vM.get {xs:List V} {vs:List Value} (h:vM I φ xs vs) {j:Nat} {x:V} (hx:xs[j]? = some x):∃ v,vs[j]? = some v∧Rel I φ x v:=by
 induction xs generalizing vs j with
 | nil=>simp at hx
 | cons y xs ih =>
  cases h with
  | cons h h1 =>
   cases j with
   | zero=>simp at hx; subst hx; exact ⟨_,rfl,h⟩
   | succ j=>simp at hx; simpa using ih h1 hx
theorem vM.qdo {xs:List V} {vs:List Value} (hl:xs.length=vs.length) (h:∀ (j:Nat) (x:V) (v:Value),xs[j]? = some x→vs[j]? = some v→Rel I φ x v):vM I φ xs vs:=by
 induction xs generalizing vs with
 | nil=>cases vs with | nil=>exact .nil | cons _ _=>simp at hl
 | cons x xs ih =>
  cases vs with
  | nil=>simp at hl
  | cons v vs=>exact .cons (h 0 x v rfl rfl) (ih (by simpa using hl) fun j x v hx hv=>h (j+1) x v (by simpa using hx) (by simpa using hv))
theorem vM.append {xs ys:List V} {vs us:List Value} (h:vM I φ xs vs) (k:vM I φ ys us):vM I φ (xs++ys) (vs++us):=by
 induction xs generalizing vs with
 | nil=>cases h; exact k
 | cons x xs ih=>cases h with | cons h h1=>exact .cons h (ih h1)
theorem vM.take {xs:List V} {vs:List Value} (h:vM I φ xs vs) (n:Nat):vM I φ (xs.take n) (vs.take n) :=
 .qdo (by simp [h.len]) fun j x v hx hv=>by
  rw [List.getElem?_take] at hx hv
  by_cases hj:j<n
  ·rw [if_pos hj] at hx hv
   obtain ⟨u,hu,hr⟩:=h.get hx
   rw [hv] at hu; cases hu; exact hr
  ·rw [if_neg hj] at hx; cases hx
theorem vM.drop {xs:List V} {vs:List Value} (h:vM I φ xs vs) (n:Nat):vM I φ (xs.drop n) (vs.drop n) :=
 .qdo (by simp [h.len]) fun j x v hx hv=>by
  rw [List.getElem?_drop] at hx hv
  obtain ⟨u,hu,hr⟩:=h.get hx
  rw [hv] at hu; cases hu; exact hr
theorem vM.set {xs:List V} {vs:List Value} (h:vM I φ xs vs) (n:Nat) {x:V} {v:Value} (hx:Rel I φ x v):vM I φ (xs.set n x) (vs.set n v) :=
 .qdo (by simp [h.len]) fun j y u hy hu=>by
  rw [List.getElem?_set] at hy hu
  by_cases hj:n=j
  ·rw [if_pos hj] at hy hu
   split at hy
   ·split at hu
    ·cases hy; cases hu; exact hx
    ·cases hu
   ·cases hy
  ·rw [if_neg hj] at hy hu
   obtain ⟨u',hu',hr⟩:=h.get hy
   rw [hu] at hu'; cases hu'; exact hr
end
mutual
def V.exact:V→Option Value
 | .sc v=>some v
 | .agg cs=>match V.jg cs with
  | some l=>some (.agg l.toArray)
  | none=>none
 | .tup cs=>match V.jg cs with
  | some l=>some (.tuple l.toArray)
  | none=>none
 | .nil=>some (.slice none 0 0)
 | .iface t x=>match x.exact with
  | some v=>some (.iface t v)
  | none=>none
 | .fn f first cap=>match V.jg first,V.jg cap with
  | some a,some b=>some (.func f a.toArray b.toArray)
  | _,_=>none
 | _=>none
def V.jg:List V→Option (List Value)
 | []=>some []
 | x::xs=>match x.exact,V.jg xs with
  | some v,some l=>some (v::l)
  | _,_=>none
end
section
variable {I:Nat→Nat→Option Value} {φ:List Nat}
mutual
theorem Rel.exact:∀ {x:V} {v u:Value},Rel I φ x v→x.exact=some u→v=u
 | _,_,_,.sc v,h=>by simpa [V.exact] using h
 | _,_,_,.agg (cs:=cs) hl,h=>by
  unfold V.exact at h
  cases hc:V.jg cs with
  | none=>rw [hc] at h; cases h
  | some l =>
   rw [hc] at h
   have:=vM.exact hl hc
   simp at h
   rw [← h,← this]
 | _,_,_,.tup (cs:=cs) hl,h=>by
  unfold V.exact at h
  cases hc:V.jg cs with
  | none=>rw [hc] at h; cases h
  | some l =>
   rw [hc] at h
   have:=vM.exact hl hc
   simp at h
   rw [← h,← this]
 | _,_,_,.nil,h=>by simpa [V.exact] using h
 | _,_,_,.sl ..,h=>by simp [V.exact] at h
 | _,_,_,.sl0 ..,h=>by simp [V.exact] at h
 | _,_,_,.rd ..,h=>by simp [V.exact] at h
 | _,_,_,.ptr ..,h=>by simp [V.exact] at h
 | _,_,_,.map ..,h=>by simp [V.exact] at h
 | _,_,_,.fs ..,h=>by simp [V.exact] at h
 | _,_,_,.fs0 ..,h=>by simp [V.exact] at h
 | _,_,_,.slb ..,h=>by simp [V.exact] at h
 | _,_,_,.slb0 ..,h=>by simp [V.exact] at h
 | _,_,_,.fn (first:=fs) (cap:=cs) h1 h2,h=>by
  unfold V.exact at h
  cases hc:V.jg fs with
  | none=>rw [hc] at h; cases h
  | some l =>
   cases hd:V.jg cs with
   | none=>rw [hc,hd] at h; cases h
   | some k =>
    rw [hc,hd] at h
    have e1:=vM.exact h1 hc
    have e2:=vM.exact h2 hd
    simp at h
    rw [← h,← e1,← e2]
 | _,_,_,.iface (x:=x) h1,h=>by
  unfold V.exact at h
  cases hc:x.exact with
  | none=>rw [hc] at h; cases h
  | some l =>
   rw [hc] at h
   have:=Rel.exact h1 hc
   simp at h
   rw [← h,this]
theorem vM.exact:∀ {xs:List V} {vs us:List Value},vM I φ xs vs→V.jg xs=some us→vs=us
 | _,_,_,.nil,h=>by simpa [V.jg] using h
 | _,_,_,.cons (x:=x) (xs:=xs) h1 h2,h=>by
  unfold V.jg at h
  cases hc:x.exact with
  | none=>rw [hc] at h; cases h
  | some v =>
   cases hd:V.jg xs with
   | none=>rw [hc,hd] at h; cases h
   | some k =>
    rw [hc,hd] at h
    simp at h
    rw [← h,Rel.exact h1 hc,vM.exact h2 hd]
end
end
def V.vL:Value→V
 | .slice none 0 0 => .nil
 | v => .sc v
def V.vP:Value→V
 | .agg cs => .agg (cs.toList.map V.vL)
 | v=>V.vL v
def V.ofValue:Value→V
 | .tuple vs => .tup (vs.toList.map V.vP)
 | v=>V.vP v
section
variable {I:Nat→Nat→Option Value} {φ:List Nat}
theorem qar (v:Value):Rel I φ (V.vL v) v:=by
 unfold V.vL
 split
 ·exact .nil
 ·exact .sc _
theorem qaP {f:Value→V} (hf:∀ v,Rel I φ (f v) v):∀ vs:List Value,vM I φ (vs.map f) vs
 | [] => .nil
 | v::vs => .cons (hf v) (qaP hf vs)
theorem qdp (v:Value):Rel I φ (V.vP v) v:=by
 unfold V.vP
 split
 ·exact .agg (qaP qar _)
 ·exact qar _
theorem K5 (v:Value):Rel I φ (V.ofValue v) v:=by
 unfold V.ofValue
 split
 ·exact .tup (qaP qdp _)
 ·exact qdp _
end
def V.cells:V→List V
 | .agg cs=>cs
 | v => [v]
inductive Bk where
 | cells (cs:List SV)
 | map (es:List (Value×V))
 | iter (m:Nat) (left:List (Value×V)) (cur:Option (Value×V))
 | dead
 deriving Inhabited
abbrev Fr:=List (Nat×SV)
structure St where
 F:Fr
 H:List Bk
def SV.refers (r:Root):SV→Bool
 | .pth r' _=>r'==r
 | .lnk r' _=>r'==r
 | _=>false
def SV.flat:SV→Bool
 | .v _ | .own .. | .any=>true
 | _=>false
def QF (c:Cx) (w:World) (r:Root):SV→Value→Prop
 | .v x,u=>Rel c.I c.φ x u
 | .own pr e n sz cs,u=>0<sz∧∃ vs,vM c.I c.φ cs vs∧w.ownsRow 0 e sz u n vs∧(∀ x∈vs,x.oneCell'=true)∧∀ b,u.ownBlock=some b→c.R b = .own r∧∀ o,c.I b o=if pr then none else vs[o]?
 | .pth r' off,u=>∃ b,u = .pointer (some ⟨b,off,none⟩)∧c.R b = .own r'
 | .lnk r' n,u=>(u = .slice none 0 0∧n=0)∨∃ b cap,u = .slice (some ⟨b,0,none⟩) n cap∧c.R b = .own r'
 | .any,_=>True
inductive qbn (I:Nat→Nat→Option Value) (φ:List Nat):List (Value×V)→List MapEntry→Prop
 | nil:qbn I φ [] []
 | cons {k:Value} {x:V} {e:MapEntry} {es:List (Value×V)} {l:List MapEntry}:e.key=k→Rel I φ x e.val→qbn I φ es l→qbn I φ ((k,x)::es) (e::l)
def qac (c:Cx) (w:World) (id b:Nat):Bk→Prop
 | .cells cs=>∃ arr e,w.heap[b]? = some (.cells arr e (0,0))∧arr.size=cs.length∧(∀ v∈arr.toList,v.oneCell'=true)∧∀ j x v,cs[j]? = some x→arr[j]? = some v→x.flat=true∧QF c w (.cell id j) x v
 | .map es=>∃ ents clock,w.heap[b]? = some (.map ents clock)∧qbn c.I c.φ es ents.toList∧(∀ e∈ents.toList,e.born<clock)∧(ents.toList.map (·.born)).Nodup
 | .iter m left cur=>∃ bm since seen ents,c.φ[m]? = some bm∧w.heap[b]? = some (.mapIter (some bm) since seen since)∧w.heap[bm]? = some (.map ents since)∧(∀ e∈ents.toList,e.born<since)∧(ents.toList.map (·.born)).Nodup ∧
   qbn c.I c.φ left (ents.toList.filter fun e => !seen.contains e.born)∧(∀ k x,cur=some (k,x)→∃ e,seen.back? = some e.born∧e∈ents.toList∧e.key=k∧Rel c.I c.φ x e.val)
 | .dead=>True
structure Inv (c:Cx) (H:List Bk) (w:World):Prop where
 imm:∀ b o v,c.I b o=some v→w.cell? ⟨b,o,none⟩=some v
 len:c.φ.length=H.length
 lt:∀ b,c.R b ≠ .out→b<w.heap.size
 uniq:∀ b b' r,c.R b = .own r→c.R b' = .own r→b=b'
 blk:∀ (id b:Nat) (k:Bk),c.φ[id]? = some b→H[id]? = some k→c.R b = .abs id∧(∀ o,c.I b o=none)∧qac c w id b k
structure Sim (c:Cx) (N:Nat) (s:St) (a:Act) (w:World):Prop where
 inv:Inv c s.H w
 size:a.tmps.size=N
 defers:a.defers = []
 fr:∀ t x,(t,x)∈s.F→∃ v,a.tmps[t]? = some v∧QF c w (.slot t) x v
structure Ext (c:Cx) (w:World) (c':Cx) (w':World):Prop where
 os:w'.os=w.os
 tape:w'.tape=w.tape
 output:w'.output=w.output
 size:w.heap.size≤w'.heap.size
 out:∀ b,b<w.heap.size→c.R b = .out→w'.heap[b]? = w.heap[b]? ∧ c'.R b = .out∧∀ o,c'.I b o=c.I b o
 imm:∀ b o v,c.I b o=some v→c'.I b o=some v
 phi:∀ id b:Nat,c.φ[id]? = some b→c'.φ[id]? = some b
section
variable {c c' c'':Cx} {w w' w'':World} {H:List Bk}
theorem Ext.refl (c:Cx) (w:World):Ext c w c w:=⟨rfl,rfl,rfl,Nat.le_refl _,fun _ _ h=>⟨rfl,h,fun _=>rfl⟩,fun _ _ _ h=>h,fun _ _ h=>h⟩
theorem Ext.trans (h:Ext c w c' w') (k:Ext c' w' c'' w''):Ext c w c'' w'' :=
 ⟨k.os.trans h.os,k.tape.trans h.tape,k.output.trans h.output,Nat.le_trans h.size k.size,
  fun b hb hr=>by
   obtain ⟨h1,h2,h3⟩:=h.out b hb hr
   obtain ⟨k1,k2,k3⟩:=k.out b (Nat.lt_of_lt_of_le hb h.size) h2
   exact ⟨k1.trans h1,k2,fun o=>(k3 o).trans (h3 o)⟩,
  fun b o v hv=>k.imm b o v (h.imm b o v hv),fun id b hb=>k.phi id b (h.phi id b hb)⟩
theorem QF.mono (hI:∀ b o v,c.I b o=some v→c'.I b o=some v) (hφ:∀ id b:Nat,c.φ[id]? = some b→c'.φ[id]? = some b) {r:Root} {x:SV} {v:Value}
  (ho:∀ b r',(r'=r∨x.refers r'=true)→c.R b = .own r'→c'.R b = .own r'∧w'.heap[b]? = w.heap[b]? ∧ ∀ o,c'.I b o=c.I b o) (h:QF c w r x v):QF c' w' r x v:=by
 cases x with
 | v x=>exact Rel.mono hI hφ h
 | own pr e n sz cs =>
  obtain ⟨h0,vs,h1,h2,h4,h3⟩:=h
  refine ⟨h0,vs,vM.mono hI hφ h1,qfU h2 fun g hg=>(ho g r (.inl rfl) (h3 g hg).1).2.1,h4,fun b hb => ?_⟩
  obtain ⟨k1,k2⟩:=h3 b hb
  obtain ⟨k3,k4,k5⟩:=ho b r (.inl rfl) k1
  exact ⟨k3,fun o=>(k5 o).trans (k2 o)⟩
 | pth r' off =>
  obtain ⟨b,rfl,h1⟩:=h
  exact ⟨b,rfl,(ho b r' (.inr (by simp [SV.refers])) h1).1⟩
 | lnk r' n =>
  rcases h with h | ⟨b,cap,rfl,h1⟩
  ·exact .inl h
  ·exact .inr ⟨b,cap,rfl,(ho b r' (.inr (by simp [SV.refers])) h1).1⟩
 | any=>trivial
end
theorem qbn.mono {I I':Nat→Nat→Option Value} {φ φ':List Nat} (hI:∀ b o v,I b o=some v→I' b o=some v) (hφ:∀ id b:Nat,φ[id]? = some b→φ'[id]? = some b) {es:List (Value×V)} {l:List MapEntry} (h:qbn I φ es l):qbn I' φ' es l:=by
 induction h with
 | nil=>exact .nil
 | cons h1 h2 _ ih=>exact .cons h1 (Rel.mono hI hφ h2) ih
theorem qac.stay {c c':Cx} {w w':World} {id id' b:Nat} {k:Bk} (hk:∀ cs,k ≠ .cells cs) (h:qac c w id b k) (hI:∀ b o v,c.I b o=some v→c'.I b o=some v) (hφ:∀ id b:Nat,c.φ[id]? = some b→c'.φ[id]? = some b)
  (hM:∀ (b':Nat) (o:Obj),w.heap[b']? = some o→(∀ arr e f,o≠Obj.cells arr e f)→w'.heap[b']? = some o):qac c' w' id' b k:=by
 cases k with
 | cells cs=>exact absurd rfl (hk cs)
 | map es =>
  obtain ⟨ents,clock,h1,h2,h3,h4⟩:=h
  exact ⟨ents,clock,hM _ _ h1 (fun _ _ _ e=>by cases e),h2.mono hI hφ,h3,h4⟩
 | iter m left cur =>
  obtain ⟨bm,since,seen,ents,h1,h2,h3,h4,h5,h6,h7⟩:=h
  refine ⟨bm,since,seen,ents,hφ _ _ h1,hM _ _ h2 (fun _ _ _ e=>by cases e),hM _ _ h3 (fun _ _ _ e=>by cases e),h4,h5,h6.mono hI hφ,fun k x hc => ?_⟩
  obtain ⟨e,q1,q2,q3,q4⟩:=h7 k x hc
  exact ⟨e,q1,q2,q3,Rel.mono hI hφ q4⟩
 | dead=>trivial
def del (t:Nat):Fr→Fr
 | [] => []
 | (k,x)::F=>bif (k==t||x.refers (.slot t)) then del t F else (k,x)::del t F
def vO (t:Nat) (x:SV) (F:Fr):Fr:=(t,x)::del t F
def qm (t:Nat):Fr→Option SV
 | []=>none
 | (k,x)::F=>bif k==t then some x else qm t F
theorem QL {t k:Nat} {x:SV}:∀ {F:Fr},(k,x)∈del t F→(k,x)∈F∧k≠t∧x.refers (.slot t)=false
 | [],h=>by cases h
 | (j,y)::F,h=>by
  unfold del at h
  cases hc:(j==t||y.refers (.slot t)) with
  | true =>
   rw [hc] at h
   obtain ⟨h1,h2⟩:=QL (F:=F) (by simpa using h)
   exact ⟨List.mem_cons_of_mem _ h1,h2⟩
  | false =>
   rw [hc] at h
   simp only [cond_false,List.mem_cons,Prod.mk.injEq] at h
   rcases h with ⟨rfl,rfl⟩ | h
   ·simp at hc
    exact ⟨by simp,hc.1,by simpa using hc.2⟩
   ·obtain ⟨h1,h2⟩:=QL (F:=F) h
    exact ⟨List.mem_cons_of_mem _ h1,h2⟩
theorem QO {t:Nat} {x:SV}:∀ {F:Fr},qm t F=some x→(t,x)∈F
 | [],h=>by cases h
 | (j,y)::F,h=>by
  unfold qm at h
  cases hc:j==t with
  | true =>
   rw [hc] at h
   simp at h hc
   subst h hc
   simp
  | false =>
   rw [hc] at h
   exact List.mem_cons_of_mem _ (QO (by simpa using h))
section
variable {c:Cx} {N:Nat} {F:Fr} {H:List Bk} {a:Act} {w:World}
theorem Vn {x:SV} (h:x.flat=true) (r:Root):x.refers r=false:=by
 cases x <;> first | rfl | cases h
theorem Sim.sub {F':Fr} (h:Sim c N ⟨F,H⟩ a w) (hs:∀ p,p∈F'→p∈F):Sim c N ⟨F',H⟩ a w :=
 ⟨h.inv,h.size,h.defers,fun t x hx=>h.fr t x (hs _ hx)⟩
def Cx.free (c:Cx) (r:Root):Cx := { c with R:=fun b=>if c.R b = .own r then .out else c.R b }
theorem qme {r:Root} {b:Nat} (h:c.R b = .out):(c.free r).R b = .out:=by simp [Cx.free,h]
theorem free_abs {r:Root} {b id:Nat} (h:c.R b = .abs id):(c.free r).R b = .abs id:=by simp [Cx.free,h]
theorem WQ {r r':Root} {b:Nat} (h:c.R b = .own r') (hne:r'≠r):(c.free r).R b = .own r':=by
 simp [Cx.free,h,hne]
theorem free_ne {r:Root} {b:Nat}:(c.free r).R b ≠ .own r:=by
 unfold Cx.free
 by_cases h:c.R b = .own r <;> simp [h]
theorem qj7 {r r':Root} {b:Nat} (h:(c.free r).R b = .own r'):c.R b = .own r'∧r'≠r:=by
 unfold Cx.free at h
 by_cases h1:c.R b = .own r
 ·simp [h1] at h
 ·simp only [h1,if_false] at h
  exact ⟨h,fun e=>h1 (e▸h)⟩
theorem qnw {r:Root} {b:Nat} (h:(c.free r).R b ≠ .out):c.R b ≠ .out:=fun e=>h (qme e)
theorem Ext.free (c:Cx) (w:World) (r:Root):Ext c w (c.free r) w :=
 ⟨rfl,rfl,rfl,Nat.le_refl _,fun _ _ h=>⟨rfl,qme h,fun _=>rfl⟩,fun _ _ _ h=>h,fun _ _ h=>h⟩
theorem QF.free {r r':Root} {x:SV} {v:Value} (h:QF c w r x v) (h1:r≠r') (h2:x.refers r'=false):QF (c.free r') w r x v :=
 QF.mono (c:=c) (w:=w) (c':=c.free r') (fun _ _ _ h=>h) (fun _ _ h=>h) (fun b q hq hb=>⟨WQ hb (by
  rintro rfl
  rcases hq with rfl | hq
  ·exact h1 rfl
  ·rw [h2] at hq; cases hq),rfl,fun _=>rfl⟩) h
def Bare (H:List Bk):Root→Prop
 | .slot _=>True
 | .cell id j=>∀ cs,H[id]? = some (.cells cs)→∀ x,cs[j]? = some x→(∃ y,x = .v y)∨x = .any
theorem Inv.free {r:Root} (h:Inv c H w) (hr:Bare H r):Inv (c.free r) H w :=
 ⟨h.imm,h.len,fun b hb=>h.lt b (qnw hb),fun b b' r hb hb'=>h.uniq b b' r (qj7 hb).1 (qj7 hb').1,fun id b k hb hk=>by
  obtain ⟨h1,h2,h3⟩:=h.blk id b k hb hk
  refine ⟨free_abs h1,h2,?_⟩
  by_cases hck:∃ cs,k = .cells cs
  rotate_left
  ·exact qac.stay (fun cs e=>hck ⟨cs,e⟩) h3 (fun _ _ _ h=>h) (fun _ _ h=>h) (fun _ _ h _=>h)
  obtain ⟨cs,rfl⟩:=hck
  obtain ⟨arr,e,g1,g2,g6,g3⟩:=h3
  refine ⟨arr,e,g1,g2,g6,fun j x v hx hv => ?_⟩
  obtain ⟨g4,g5⟩:=g3 j x v hx hv
  refine ⟨g4,?_⟩
  by_cases hrj:Root.cell id j=r
  ·subst hrj
   rcases hr cs hk x hx with ⟨y,rfl⟩ | rfl
   ·exact (show Rel c.I c.φ y v from g5)
   ·trivial
  ·exact g5.free hrj (Vn g4 _)⟩
theorem Sim.free {r:Root} (h:Sim c N ⟨F,H⟩ a w) (hr:Bare H r) (hF:∀ k x,(k,x)∈F→Root.slot k≠r∧x.refers r=false):Sim (c.free r) N ⟨F,H⟩ a w :=
 ⟨h.inv.free hr,h.size,h.defers,fun t x hx=>by
  obtain ⟨v,hv,h1⟩:=h.fr t x hx
  exact ⟨v,hv,h1.free (hF t x hx).1 (hF t x hx).2⟩⟩
def Fit (t:Nat):SV→Prop
 | .v _=>True
 | .any=>True
 | .own .. => False
 | .pth r _=>r ≠ .slot t
 | .lnk r _=>r ≠ .slot t
theorem QF.fit {t:Nat} {x:SV} {v:Value} (hf:Fit t x) (hx:QF c w (.slot t) x v):QF (c.free (.slot t)) w (.slot t) x v:=by
 cases x with
 | v y=>exact hx
 | own=>exact hf.elim
 | pth r off =>
  obtain ⟨b,rfl,hb⟩:=hx
  exact ⟨b,rfl,WQ hb hf⟩
 | lnk r n =>
  rcases hx with hx | ⟨b,cap,rfl,hb⟩
  ·exact .inl hx
  ·exact .inr ⟨b,cap,rfl,WQ hb hf⟩
 | any=>trivial
theorem Sim.put' {t:Nat} {x:SV} {v:Value} (h:Sim c N ⟨F,H⟩ a w) (ht:t<N) (hx:QF (c.free (.slot t)) w (.slot t) x v):Sim (c.free (.slot t)) N ⟨vO t x F,H⟩ (a.put (some t) v) w:=by
 have h0:Sim c N ⟨del t F,H⟩ a w:=h.sub fun p hp=>(QL (x:=p.2) (k:=p.1) hp).1
 have h1:=h0.free (r := .slot t) trivial fun k x hx=>⟨by simpa using (QL hx).2.1,(QL hx).2.2⟩
 refine ⟨h1.inv,by simpa [Act.put] using h.size,h.defers,fun k y hy => ?_⟩
 unfold vO at hy
 simp only [List.mem_cons,Prod.mk.injEq] at hy
 rcases hy with ⟨rfl,rfl⟩ | hy
 ·exact ⟨v,by simp [Act.put,Array.getElem?_setIfInBounds,h.size,ht],hx⟩
 ·obtain ⟨u,hu,h3⟩:=h1.fr k y hy
  exact ⟨u,by simpa [Act.put,Array.getElem?_setIfInBounds,Ne.symm (QL hy).2.1] using hu,h3⟩
theorem Sim.put {t:Nat} {x:SV} {v:Value} (h:Sim c N ⟨F,H⟩ a w) (ht:t<N) (hf:Fit t x) (hx:QF c w (.slot t) x v):Sim (c.free (.slot t)) N ⟨vO t x F,H⟩ (a.put (some t) v) w :=
 h.put' ht (hx.fit hf)
def Cx.give (c:Cx) (b:Nat) (r:Root):Cx := { c with R:=fun k=>if k=b then .own r else if c.R k = .own r then .out else c.R k }
theorem YW {b:Nat} {r:Root}:(c.give b r).R b = .own r:=by simp [Cx.give]
theorem give_own {b k:Nat} {r r':Root} (h:c.R k = .own r') (h1:k≠b) (h2:r'≠r):(c.give b r).R k = .own r':=by
 simp [Cx.give,h1,h,h2]
theorem qmb {b k id:Nat} {r:Root} (h:c.R k = .abs id) (h1:k≠b):(c.give b r).R k = .abs id:=by simp [Cx.give,h1,h]
theorem qj4 {b k:Nat} {r r':Root} (h:(c.give b r).R k = .own r'):(k=b∧r'=r)∨(c.R k = .own r'∧r'≠r∧k≠b):=by
 unfold Cx.give at h
 by_cases h1:k=b
 ·simp [h1] at h; exact .inl ⟨h1,h.symm⟩
 ·simp only [h1,if_false] at h
  by_cases h2:c.R k = .own r
  ·simp [h2] at h
  ·simp only [h2,if_false] at h
   exact .inr ⟨h,fun e=>h2 (e▸h),h1⟩
theorem qnu {b k:Nat} {r:Root} (h:(c.give b r).R k ≠ .out):k=b∨c.R k ≠ .out:=by
 by_cases h1:k=b
 ·exact .inl h1
 ·refine .inr fun e=>h ?_
  simp [Cx.give,h1,e]
theorem QF.give {b:Nat} {r r':Root} {x:SV} {v:Value} (h:QF c w r' x v) (hb:∀ q,(q=r'∨x.refers q=true)→c.R b ≠ .own q) (h1:r'≠r) (h2:x.refers r=false):QF (c.give b r) w r' x v :=
 QF.mono (c:=c) (w:=w) (c':=c.give b r) (fun _ _ _ h=>h) (fun _ _ h=>h) (fun k q hq hk=>⟨give_own hk (by rintro rfl; exact hb q hq hk) (by
  rintro rfl
  rcases hq with rfl | hq
  ·exact h1 rfl
  ·rw [h2] at hq; cases hq),rfl,fun _=>rfl⟩) h
theorem Inv.give {b:Nat} {r:Root} (h:Inv c H w) (hb:b<w.heap.size) (hr:Bare H r) (hab:∀ id,c.R b ≠ .abs id) (hown:∀ id j,c.R b = .own (.cell id j)→Bare H (.cell id j)):Inv (c.give b r) H w :=
 ⟨h.imm,h.len,fun k hk=>by
  rcases qnu hk with rfl | hk
  ·exact hb
  ·exact h.lt k hk,fun k k' q hk hk'=>by
  rcases qj4 hk with ⟨rfl,rfl⟩ | ⟨h1,h2,h3⟩ <;> rcases qj4 hk' with ⟨rfl,e⟩ | ⟨g1,g2,g3⟩
  ·rfl
  ·exact absurd rfl g2
  ·exact absurd e h2
  ·exact h.uniq k k' q h1 g1,fun id k blk hk hblk=>by
  obtain ⟨h1,h2,h3⟩:=h.blk id k blk hk hblk
  refine ⟨qmb h1 (fun e=>hab id (e▸h1)),h2,?_⟩
  by_cases hck:∃ cs,blk = .cells cs
  rotate_left
  ·exact qac.stay (fun cs e=>hck ⟨cs,e⟩) h3 (fun _ _ _ h=>h) (fun _ _ h=>h) (fun _ _ h _=>h)
  obtain ⟨cs,rfl⟩:=hck
  obtain ⟨arr,e,g1,g2,g6,g3⟩:=h3
  refine ⟨arr,e,g1,g2,g6,fun j x v hx hv => ?_⟩
  obtain ⟨g4,g5⟩:=g3 j x v hx hv
  refine ⟨g4,?_⟩
  by_cases hrj:Root.cell id j=r
  ·subst hrj
   rcases hr cs hblk x hx with ⟨y,rfl⟩ | rfl
   ·exact (show Rel c.I c.φ y v from g5)
   ·trivial
  ·by_cases hbj:c.R b = .own (.cell id j)
   ·rcases hown id j hbj cs hblk x hx with ⟨y,rfl⟩ | rfl
    ·exact (show Rel c.I c.φ y v from g5)
    ·trivial
   ·refine g5.give (fun q hq => ?_) hrj (Vn g4 _)
    rcases hq with rfl | hq
    ·exact hbj
    ·rw [Vn g4] at hq; cases hq⟩
theorem Ext.give {b:Nat} {r:Root} (c:Cx) (w:World) (hb:b<w.heap.size→c.R b ≠ .out):Ext c w (c.give b r) w :=
 ⟨rfl,rfl,rfl,Nat.le_refl _,fun k hk h=>⟨rfl,by
  have:k≠b:=by rintro rfl; exact hb hk h
  simp [Cx.give,this,h],fun _=>rfl⟩,fun _ _ _ h=>h,fun _ _ h=>h⟩
theorem Sim.qfP {t b:Nat} {pr:Bool} {e n sz:Nat} {cs:List V} {v:Value} (h:Sim c N ⟨F,H⟩ a w) (ht:t<N) (hb:b<w.heap.size) (hab:∀ id,c.R b ≠ .abs id) (hcell:∀ id j,c.R b = .own (.cell id j)→Bare H (.cell id j))
  (hF:∀ k x,(k,x)∈del t F→c.R b ≠ .own (.slot k)∧∀ q,c.R b = .own q→x.refers q=false) (hx:QF (c.give b (.slot t)) w (.slot t) (.own pr e n sz cs) v) :
  Sim (c.give b (.slot t)) N ⟨vO t (.own pr e n sz cs) F,H⟩ (a.put (some t) v) w:=by
 refine ⟨h.inv.give hb trivial hab hcell,by simpa [Act.put] using h.size,h.defers,fun k y hy => ?_⟩
 unfold vO at hy
 simp only [List.mem_cons,Prod.mk.injEq] at hy
 rcases hy with ⟨rfl,rfl⟩ | hy
 ·exact ⟨v,by simp [Act.put,Array.getElem?_setIfInBounds,h.size,ht],hx⟩
 ·obtain ⟨h1,h2,h3⟩:=QL hy
  obtain ⟨u,hu,h4⟩:=h.fr k y h1
  refine ⟨u,by simpa [Act.put,Array.getElem?_setIfInBounds,Ne.symm h2] using hu,h4.give (fun q hq e => ?_) (by simpa using h2) h3⟩
  obtain ⟨g1,g2⟩:=hF k y hy
  rcases hq with rfl | hq
  ·exact g1 e
  ·rw [g2 q e] at hq; cases hq
def Cx.lay (c:Cx) (b:Nat):Cx := { c with φ:=c.φ ++ [b],R:=fun k=>if k=b then .abs c.φ.length else c.R k }
theorem qoj {id k b:Nat} (h:(c.lay b).φ[id]? = some k):c.φ[id]? = some k∨(id=c.φ.length∧k=b):=by
 unfold Cx.lay at h
 simp only at h
 rw [List.getElem?_append] at h
 split at h
 ·exact .inl h
 ·rename_i hlt
  right
  rw [List.getElem?_singleton] at h
  split at h
  ·exact ⟨by omega,by simpa using h.symm⟩
  ·cases h
theorem qds {id k:Nat} (b:Nat) (h:c.φ[id]? = some k):(c.lay b).φ[id]? = some k:=by
 unfold Cx.lay
 simp only
 rw [List.getElem?_append_left (List.getElem?_eq_some_iff.1 h).1]
 exact h
theorem qj6 (h:Inv c H w):c.R w.heap.size = .out:=by
 by_cases hr:c.R w.heap.size = .out
 ·exact hr
 ·have:=h.lt _ hr; omega
theorem qbr (h:Inv c H w) (b o:Nat) (hb:w.heap.size≤b):c.I b o=none:=by
 cases hi:c.I b o with
 | none=>rfl
 | some v =>
  have:=World.block_lt_of_cell? w ⟨b,o,none⟩ (h.imm b o v hi)
  simp at this
  omega
theorem Z5 {o:Obj} {k:Nat} (h:k<w.heap.size):(w.alloc o).heap[k]? = w.heap[k]? := Below.heap_alloc w o k h
theorem QF.lay {r:Root} {x:SV} {v:Value} (hi:Inv c H w) (o:Obj) (h:QF c w r x v):QF (c.lay w.heap.size) (w.alloc o) r x v :=
 QF.mono (c:=c) (w:=w) (c':=c.lay w.heap.size) (w':=w.alloc o) (fun _ _ _ h=>h) (fun _ _ h=>qds _ h) (fun b q _ hb=>by
  have hlt:=hi.lt b (by rw [hb]; simp)
  exact ⟨by simp [Cx.lay,Nat.ne_of_lt hlt,hb],Z5 hlt,fun _=>rfl⟩) h
theorem QF.more {r:Root} {x:SV} {v:Value} (hi:Inv c H w) (o:Obj) (h:QF c w r x v):QF c (w.alloc o) r x v :=
 QF.mono (c:=c) (w:=w) (c':=c) (w':=w.alloc o) (fun _ _ _ h=>h) (fun _ _ h=>h) (fun b q _ hb=>⟨hb,Z5 (hi.lt b (by rw [hb]; simp)),fun _=>rfl⟩) h
theorem XI {k:Nat} {x:Obj} (h:w.heap[k]? = some x):k<w.heap.size:=(Array.getElem?_eq_some_iff.1 h).1
theorem qeZ {o x:Obj} {k:Nat} (h:w.heap[k]? = some x):(w.alloc o).heap[k]? = some x:=(Z5 (XI h)).trans h
theorem qcv {o:Obj} {p:Addr} {v:Value} (h:w.cell? p=some v):(w.alloc o).cell? p=some v:=by
 rw [World.cell?_of_block (Z5 (World.block_lt_of_cell? w p h))]; exact h
theorem Inv.more (h:Inv c H w) (o:Obj):Inv c H (w.alloc o) :=
 ⟨fun b j v hv=>qcv (h.imm b j v hv),h.len,fun b hb=>by have:=h.lt b hb; simp; omega,h.uniq,fun id b k hb hk=>by
  obtain ⟨h1,h2,h3⟩:=h.blk id b k hb hk
  refine ⟨h1,h2,?_⟩
  by_cases hck:∃ cs,k = .cells cs
  rotate_left
  ·exact qac.stay (fun cs e=>hck ⟨cs,e⟩) h3 (fun _ _ _ h=>h) (fun _ _ h=>h) (fun _ _ h _=>qeZ h)
  obtain ⟨cs,rfl⟩:=hck
  obtain ⟨arr,e,g1,g2,g6,g3⟩:=h3
  exact ⟨arr,e,(Z5 (h.lt b (by rw [h1]; simp))).trans g1,g2,g6,fun j x v hx hv=>⟨(g3 j x v hx hv).1,(g3 j x v hx hv).2.more h o⟩⟩⟩
theorem Sim.more {o:Obj} (h:Sim c N ⟨F,H⟩ a w):Sim c N ⟨F,H⟩ a (w.alloc o) :=
 ⟨h.inv.more o,h.size,h.defers,fun t x hx=>by
  obtain ⟨v,hv,h1⟩:=h.fr t x hx
  exact ⟨v,hv,h1.more h.inv o⟩⟩
theorem Inv.lay {arr:Array Value} {cs:List V} {e:TypeId} (h:Inv c H w) (hc:vM c.I c.φ cs arr.toList) (h1:∀ v∈arr.toList,v.oneCell'=true):Inv (c.lay w.heap.size) (H ++ [.cells (cs.map .v)]) (w.alloc (.cells arr e)):=by
 refine ⟨fun b j v hv=>qcv (h.imm b j v hv),by simp [Cx.lay,h.len],fun b hb => ?_,fun b b' r hb hb' => ?_,fun id b k hb hk => ?_⟩
 ·unfold Cx.lay at hb
  by_cases hbs:b=w.heap.size
  ·subst hbs; simp
  ·simp only [hbs,if_false] at hb
   have:=h.lt b hb
   simp; omega
 ·unfold Cx.lay at hb hb'
  by_cases h1:b=w.heap.size
  ·simp [h1] at hb
  ·by_cases h2:b'=w.heap.size
   ·simp [h2] at hb'
   ·simp only [h1,h2,if_false] at hb hb'
    exact h.uniq b b' r hb hb'
 ·rcases qoj hb with hb | ⟨rfl,rfl⟩
  ·have hlt:id<H.length:=by rw [← h.len]; exact (List.getElem?_eq_some_iff.1 hb).1
   rw [List.getElem?_append_left hlt] at hk
   obtain ⟨h4,h2,h3⟩:=h.blk id b k hb hk
   have hbl:=h.lt b (by rw [h4]; simp)
   refine ⟨by simp [Cx.lay,Nat.ne_of_lt hbl,h4],h2,?_⟩
   by_cases hck:∃ cs,k = .cells cs
   rotate_left
   ·exact qac.stay (fun cs e=>hck ⟨cs,e⟩) h3 (fun _ _ _ h=>h) (fun _ _ h=>qds _ h) (fun _ _ h _=>qeZ h)
   obtain ⟨ks,rfl⟩:=hck
   obtain ⟨arr',e',g1,g2,g6,g3⟩:=h3
   exact ⟨arr',e',(Z5 hbl).trans g1,g2,g6,fun j x v hx hv=>⟨(g3 j x v hx hv).1,(g3 j x v hx hv).2.lay h _⟩⟩
  ·rw [h.len,List.getElem?_append_right (Nat.le_refl _)] at hk
   simp at hk
   subst hk
   refine ⟨by simp [Cx.lay],fun o=>qbr h _ o (Nat.le_refl _),arr,e,heap_alloc_new w _,?_,h1,fun j x v hx hv => ?_⟩
   ·have:=hc.len
    simp at this ⊢
    exact this.symm
   ·rw [List.getElem?_map] at hx
    cases hy:cs[j]? with
    | none=>rw [hy] at hx; cases hx
    | some y =>
     rw [hy] at hx
     simp at hx
     subst hx
     refine ⟨rfl,?_⟩
     obtain ⟨u,hu,hr⟩:=hc.get hy
     simp at hu
     rw [hv] at hu
     cases hu
     exact Rel.mono (fun _ _ _ h=>h) (fun _ _ h=>qds _ h) hr
theorem Sim.lay {arr:Array Value} {cs:List V} {e:TypeId} (h:Sim c N ⟨F,H⟩ a w) (hc:vM c.I c.φ cs arr.toList) (h1:∀ v∈arr.toList,v.oneCell'=true):Sim (c.lay w.heap.size) N ⟨F,H ++ [.cells (cs.map .v)]⟩ a (w.alloc (.cells arr e)) :=
 ⟨h.inv.lay hc h1,h.size,h.defers,fun t x hx=>by
  obtain ⟨v,hv,h1⟩:=h.fr t x hx
  exact ⟨v,hv,h1.lay h.inv _⟩⟩
theorem Ext.lay (c:Cx) (w:World) (o:Obj):Ext c w (c.lay w.heap.size) (w.alloc o) :=
 ⟨rfl,rfl,rfl,by simp,fun b hb h=>⟨Z5 hb,by simp [Cx.lay,Nat.ne_of_lt hb,h],fun _=>rfl⟩,fun _ _ _ h=>h,fun _ _ h=>qds _ h⟩
theorem lay_ptr (h:Inv c H w) (b:Nat):Rel (c.lay b).I (c.lay b).φ (.ptr H.length 0) (.pointer (some ⟨b,0,none⟩)) :=
 .ptr (by rw [← h.len]; simp [Cx.lay])
end
section
variable {c:Cx} {N:Nat} {F:Fr} {H:List Bk} {a:Act} {w:World}
def vQ (s:St):Root→Option SV
 | .slot t=>qm t s.F
 | .cell id j=>match s.H[id]? with
  | some (.cells cs)=>cs[j]?
  | _=>none
def jU:List SV→List V
 | .v x::xs=>x::jU xs
 | _ => []
def zY (s:St):SV→Option (List V)
 | .v (.rd cs)=>some cs
 | .v (.ptr id off)=>match s.H[id]? with
  | some (.cells ks)=>some (jU (ks.drop off))
  | _=>none
 | .pth r off=>match vQ s r with
  | some (.own _ _ _ _ cs)=>some (cs.drop off)
  | _=>none
 | _=>none
theorem qij:∀ {xs:List SV} {j:Nat} {y:V},(jU xs)[j]? = some y→xs[j]? = some (.v y)
 | [],j,y,h=>by simp [jU] at h
 | x::xs,j,y,h=>by
  cases x with
  | v x =>
   cases j with
   | zero=>simpa [jU] using h
   | succ j=>simp only [jU,List.getElem?_cons_succ] at h; simpa using qij h
  | _=>simp [jU] at h
theorem Sim.root {s:St} {r:Root} {x:SV} (h:Sim c N s a w) (hx:vQ s r=some x):∃ u,QF c w r x u:=by
 cases r with
 | slot t =>
  obtain ⟨v,_,hv⟩:=h.fr t x (QO hx)
  exact ⟨v,hv⟩
 | cell id j =>
  simp only [vQ] at hx
  cases hk:s.H[id]? with
  | none=>rw [hk] at hx; cases hx
  | some k =>
   by_cases hck:∃ cs,k = .cells cs
   rotate_left
   ·rw [hk] at hx; cases k <;> first | exact absurd ⟨_,rfl⟩ hck | cases hx | exact hx.elim
   obtain ⟨cs,rfl⟩:=hck
   rw [hk] at hx
   have hlt:id<c.φ.length:=by rw [h.inv.len]; exact (List.getElem?_eq_some_iff.1 hk).1
   obtain ⟨_,_,arr,e,g1,g2,_,g3⟩:=h.inv.blk id _ _ (List.getElem?_eq_getElem hlt) hk
   have hj:j<arr.size:=by rw [g2]; exact (List.getElem?_eq_some_iff.1 hx).1
   exact ⟨_,(g3 j x _ hx (Array.getElem?_eq_getElem hj)).2⟩
theorem qbL {s:St} {p:SV} {r:Root} {v:Value} {cs:List V} (h:Sim c N s a w) (hp:QF c w r p v) (hc:zY s p=some cs) :
  ∃ b off vs,v = .pointer (some ⟨b,off,none⟩)∧vM c.I c.φ cs vs∧(∀ j u,vs[j]? = some u→w.cell? ⟨b,off+j,none⟩=some u)∧∀ u∈vs,u.oneCell'=true:=by
 unfold zY at hc
 split at hc
 ·rename_i cs'
  cases hc
  cases hp with
  | rd h1 h2 h3=>exact ⟨_,_,_,rfl,h1,fun j u hu=>h.inv.imm _ _ _ (h2 j u hu),h3⟩
 ·rename_i id off
  cases hk:s.H[id]? with
  | none=>rw [hk] at hc; cases hc
  | some k =>
   by_cases hck:∃ cs,k = .cells cs
   rotate_left
   ·rw [hk] at hc; cases k <;> first | exact absurd ⟨_,rfl⟩ hck | cases hc | exact hc.elim
   obtain ⟨ks,rfl⟩:=hck
   rw [hk] at hc
   cases hc
   cases hp with
   | ptr hb =>
    rename_i b
    obtain ⟨_,_,arr,e,g1,g2,g6,g3⟩:=h.inv.blk id _ _ hb hk
    have hlen:(jU (ks.drop off)).length≤arr.size - off:=by
     rw [g2]
     have:∀ xs:List SV,(jU xs).length≤xs.length:=by
      intro xs
      induction xs with
      | nil=>simp [jU]
      | cons x xs ih=>cases x <;> simp [jU] <;> omega
     have:=this (ks.drop off)
     simpa using this
    refine ⟨b,off,(arr.toList.drop off).take (jU (ks.drop off)).length,rfl,?_,fun j u hu => ?_,fun u hu=>g6 u (List.mem_of_mem_drop (List.mem_of_mem_take hu))⟩
    ·refine .qdo (by simp; omega) fun j x v hx hv => ?_
     have h1:=qij hx
     rw [List.getElem?_drop] at h1
     rw [List.getElem?_take] at hv
     split at hv
     ·rw [List.getElem?_drop] at hv
      exact (g3 (off+j) _ v h1 (by simpa using hv)).2
     ·cases hv
    ·rw [List.getElem?_take] at hu
     split at hu
     ·rw [List.getElem?_drop] at hu
      simp [World.cell?,g1]
      simpa using hu
     ·cases hu
 ·rename_i r' off
  cases hr:vQ s r' with
  | none=>rw [hr] at hc; cases hc
  | some x =>
   cases x with
   | own pr e n sz cs' =>
    rw [hr] at hc
    cases hc
    obtain ⟨b,rfl,hb⟩:=hp
    obtain ⟨u,h0,vs,h1,h2,h4,h3⟩:=h.root hr
    rcases h2.2 with ⟨rfl,rfl⟩ | ⟨g,cap,cur,rfl,_,g1,g2,g3,g6,g5⟩
    ·have:vs = []:=List.eq_nil_of_length_eq_zero (by rw [h2.1]; simp)
     subst this
     cases h1
     exact ⟨b,off,[],rfl,by simpa using vM.nil,fun j u hu=>by simp at hu,fun u hu=>by simp at hu⟩
    ·have hgb:g=b:=h.inv.uniq g b r' (h3 g rfl).1 hb
     subst hgb
     refine ⟨g,off,vs.drop off,rfl,h1.drop off,fun j u hu => ?_,fun u hu=>h4 u (List.mem_of_mem_drop hu)⟩
     rw [List.getElem?_drop,← g5,List.getElem?_take] at hu
     split at hu
     ·simp [World.cell?,g1]
      simpa using hu
     ·cases hu
   | _=>rw [hr] at hc; cases hc
 ·cases hc
theorem ZQ {p:Addr} {u:Value} {k:Nat} (h:k≠p.block):(w.setCell p u).heap[k]? = w.heap[k]? := Below.heap_setCell w p u k h
theorem qe6 {b o:Nat} {u:Value} {arr:Array Value} {e:TypeId} {fz:Nat×Nat} (h:w.heap[b]? = some (.cells arr e fz)):(w.setCell ⟨b,o,none⟩ u).heap[b]? = some (.cells (arr.setIfInBounds o u) e fz):=by
 simp [World.setCell,Array.getElem?_modify,h]
theorem qkF {p:Addr} {u:Value} {k:Nat} {o:Obj} (h:w.heap[k]? = some o) (ho:∀ arr e f,o≠Obj.cells arr e f):(w.setCell p u).heap[k]? = some o:=by
 by_cases hk:k=p.block
 ·subst hk
  simp only [World.setCell,Array.getElem?_modify,if_true]
  rw [h]
  cases o <;> first | rfl | exact absurd rfl (ho _ _ _)
 ·rw [ZQ hk]; exact h
theorem size_set {p:Addr} {u:Value}:(w.setCell p u).heap.size=w.heap.size:=by simp [World.setCell]
def qo (H:List Bk) (id j:Nat) (x:SV):List Bk :=
 match H[id]? with
 | some (.cells cs)=>H.set id (.cells (cs.set j x))
 | _=>H
theorem QF.other {r:Root} {x:SV} {v u:Value} {b o:Nat} (hb:∀ q,c.R b ≠ .own q) (h:QF c w r x v):QF c (w.setCell ⟨b,o,none⟩ u) r x v :=
 QF.mono (c:=c) (w:=w) (c':=c) (w':=w.setCell ⟨b,o,none⟩ u) (fun _ _ _ h=>h) (fun _ _ h=>h) (fun k q _ hk=>⟨hk,ZQ (by rintro rfl; exact hb q hk),fun _=>rfl⟩) h
theorem Sim.store' {id j b:Nat} {cs:List SV} {x:SV} {v:Value} (h:Sim c N ⟨F,H⟩ a w) (hb:c.φ[id]? = some b) (hk:H[id]? = some (.cells cs)) (hf:x.flat=true) (hv1:v.oneCell'=true) (hx:QF c (w.setCell ⟨b,j,none⟩ v) (.cell id j) x v) :
  Sim c N ⟨F,H.set id (.cells (cs.set j x))⟩ a (w.setCell ⟨b,j,none⟩ v):=by
 obtain ⟨hr,hi,arr,e,g1,g2,g6,g3⟩:=h.inv.blk id b _ hb hk
 have hno:∀ q,c.R b ≠ .own q:=fun q=>by rw [hr]; simp
 have hlt:id<H.length:=(List.getElem?_eq_some_iff.1 hk).1
 refine ⟨⟨fun b' o' v' hv' => ?_,by simpa using h.inv.len,fun b' hb'=>by rw [size_set]; exact h.inv.lt b' hb',h.inv.uniq,fun id' b' k hb' hk' => ?_⟩,h.size,h.defers,fun t y hy => ?_⟩
 ·have hne:b'≠b:=by rintro rfl; rw [hi] at hv'; cases hv'
  rw [World.cell?_of_block (a:=⟨b',o',none⟩) (ZQ (w:=w) (p:=⟨b,j,none⟩) (u:=v) hne)]
  exact h.inv.imm b' o' v' hv'
 ·by_cases hid:id=id'
  ·subst hid
   rw [hb] at hb'
   cases hb'
   rw [List.getElem?_set_self hlt] at hk'
   cases hk'
   refine ⟨hr,hi,_,e,qe6 g1,by simp [g2],fun u hu => ?_,fun i y u hy hu => ?_⟩
   ·rw [Array.toList_setIfInBounds] at hu
    rcases List.mem_or_eq_of_mem_set hu with hu | rfl
    ·exact g6 u hu
    ·exact hv1
   rw [List.getElem?_set] at hy
   by_cases hij:j=i
   ·subst hij
    simp only [if_true] at hy
    split at hy
    ·cases hy
     rw [Array.getElem?_setIfInBounds] at hu
     simp only [if_true] at hu
     split at hu
     ·cases hu
      exact ⟨hf,hx⟩
     ·cases hu
    ·cases hy
   ·rw [if_neg hij] at hy
    rw [Array.getElem?_setIfInBounds,if_neg hij] at hu
    exact ⟨(g3 i y u hy hu).1,(g3 i y u hy hu).2.other hno⟩
  ·have hk2:H[id']? = some k:=by
    have hh:(H.set id (Bk.cells (cs.set j x)))[id']? = some k:=hk'
    rwa [List.getElem?_set_ne hid] at hh
   obtain ⟨k1,k2,k3⟩:=h.inv.blk id' b' k hb' hk2
   have hne:b'≠b:=by
    rintro rfl
    rw [hr] at k1
    exact hid (by simpa using k1)
   refine ⟨k1,k2,?_⟩
   by_cases hck:∃ cs,k = .cells cs
   rotate_left
   ·exact qac.stay (fun cs e=>hck ⟨cs,e⟩) k3 (fun _ _ _ h=>h) (fun _ _ h=>h) (fun _ _ h ho=>qkF h ho)
   obtain ⟨ks,rfl⟩:=hck
   obtain ⟨arr',e',f1,f2,f6,f3⟩:=k3
   exact ⟨arr',e',(ZQ (w:=w) (p:=⟨b,j,none⟩) (u:=v) hne).trans f1,f2,f6,fun i y u hy hu=>⟨(f3 i y u hy hu).1,(f3 i y u hy hu).2.other hno⟩⟩
 ·obtain ⟨u,hu,h1⟩:=h.fr t y hy
  exact ⟨u,hu,h1.other hno⟩
theorem Sim.store {id j b:Nat} {cs:List SV} {x:V} {v:Value} (h:Sim c N ⟨F,H⟩ a w) (hb:c.φ[id]? = some b) (hk:H[id]? = some (.cells cs)) (hv1:v.oneCell'=true) (hx:Rel c.I c.φ x v) :
  Sim c N ⟨F,H.set id (.cells (cs.set j (.v x)))⟩ a (w.setCell ⟨b,j,none⟩ v):=h.store' hb hk rfl hv1 hx
theorem Ext.store {b j:Nat} {v:Value} (c:Cx) (w:World) (hb:c.R b ≠ .out):Ext c w c (w.setCell ⟨b,j,none⟩ v) :=
 ⟨rfl,rfl,rfl,by rw [size_set]; exact Nat.le_refl _,fun k hk h=>⟨ZQ (by rintro rfl; exact hb h),h,fun _=>rfl⟩,fun _ _ _ h=>h,fun _ _ h=>h⟩
end
section
variable {c:Cx} {N:Nat} {F:Fr} {H:List Bk} {a:Act} {w:World}
def Cx.fix (c:Cx) (b:Nat) (vs:List Value):Cx := { c with I:=fun k o=>if k=b then (match c.I k o with | some v=>some v | none=>vs[o]?) else c.I k o }
theorem Xj {b:Nat} {vs:List Value}:∀ k o v,c.I k o=some v→(c.fix b vs).I k o=some v:=by
 intro k o v h
 unfold Cx.fix
 by_cases hk:k=b
 ·subst hk; simp [h]
 ·simp [hk,h]
theorem qaw {b k o:Nat} {vs:List Value} (h:k≠b):(c.fix b vs).I k o=c.I k o:=by simp [Cx.fix,h]
def yR (t:Nat) (x:SV):Fr→Fr
 | [] => []
 | (k,y)::F=>bif k==t then (k,x)::yR t x F else (k,y)::yR t x F
theorem KD {t k:Nat} {x y:SV}:∀ {F:Fr},(k,y)∈yR t x F→(k=t∧y=x)∨(k≠t∧(k,y)∈F)
 | [],h=>by cases h
 | (j,z)::F,h=>by
  unfold yR at h
  cases hc:j==t with
  | true =>
   rw [hc] at h
   simp at hc
   subst hc
   simp only [cond_true,List.mem_cons,Prod.mk.injEq] at h
   rcases h with ⟨rfl,rfl⟩ | h
   ·exact .inl ⟨rfl,rfl⟩
   ·rcases KD h with h | ⟨h1,h2⟩
    ·exact .inl h
    ·exact .inr ⟨h1,List.mem_cons_of_mem _ h2⟩
  | false =>
   rw [hc] at h
   simp at hc
   simp only [cond_false,List.mem_cons,Prod.mk.injEq] at h
   rcases h with ⟨rfl,rfl⟩ | h
   ·exact .inr ⟨hc,by simp⟩
   ·rcases KD h with h | ⟨h1,h2⟩
    ·exact .inl h
    ·exact .inr ⟨h1,List.mem_cons_of_mem _ h2⟩
theorem QF.fix {r:Root} {x:SV} {v:Value} {b:Nat} {vs:List Value} (h:QF c w r x v) (hb:c.R b ≠ .own r) (hx:x.flat=true∨True):QF (c.fix b vs) w r x v:=by
 cases x with
 | v x=>exact Rel.mono Xj (fun _ _ h=>h) h
 | own pr e n sz cs =>
  obtain ⟨h0,us,h1,h2,h4,h3⟩:=h
  refine ⟨h0,us,vM.mono Xj (fun _ _ h=>h) h1,h2,h4,fun g hg=>⟨(h3 g hg).1,fun o => ?_⟩⟩
  have hne:g≠b:=by rintro rfl; exact hb (h3 g hg).1
  rw [qaw hne]
  exact (h3 g hg).2 o
 | pth r' off=>exact h
 | lnk r' n=>exact h
 | any=>trivial
theorem qbQ {base:Nat} {e sz n g:Nat} {u:Value} {vs:List Value} (h:w.ownsRow base e sz u n vs) (hg:u.ownBlock=some g) {o:Nat} {v:Value} (hv:vs[o]? = some v):w.cell? ⟨g,o,none⟩=some v:=by
 rcases h.2 with ⟨rfl,_⟩ | ⟨g',cap,cur,rfl,_,h1,h2,h3,h4,h5⟩
 ·cases hg
 ·cases hg
  rw [← h5,List.getElem?_take] at hv
  split at hv
  ·simp [World.cell?,h1]
   simpa using hv
  ·cases hv
theorem Inv.fix {b:Nat} {vs:List Value} {r:Root} (h:Inv c H w) (hr:c.R b = .own r) (hv:∀ o v,vs[o]? = some v→w.cell? ⟨b,o,none⟩=some v)
  (hc:∀ id j,r = .cell id j→Bare H (.cell id j)):Inv (c.fix b vs) H w :=
 ⟨fun k o v hk=>by
  unfold Cx.fix at hk
  by_cases hkb:k=b
  ·subst hkb
   simp only [if_true] at hk
   cases hi:c.I k o with
   | none=>rw [hi] at hk; exact hv o v hk
   | some u =>
    rw [hi] at hk
    cases hk
    exact h.imm k o _ hi
  ·simp only [hkb,if_false] at hk
   exact h.imm k o v hk,h.len,h.lt,h.uniq,fun id k blk hk hblk=>by
  obtain ⟨h1,h2,h3⟩:=h.blk id k blk hk hblk
  have hne:k≠b:=by rintro rfl; rw [hr] at h1; cases h1
  refine ⟨h1,fun o=>by rw [qaw hne]; exact h2 o,?_⟩
  by_cases hck:∃ cs,blk = .cells cs
  rotate_left
  ·exact qac.stay (fun cs e=>hck ⟨cs,e⟩) h3 (Xj) (fun _ _ h=>h) (fun _ _ h _=>h)
  obtain ⟨cs,rfl⟩:=hck
  obtain ⟨arr,e,g1,g2,g6,g3⟩:=h3
  refine ⟨arr,e,g1,g2,g6,fun j x v hx hv => ?_⟩
  obtain ⟨g4,g5⟩:=g3 j x v hx hv
  refine ⟨g4,?_⟩
  by_cases hrj:Root.cell id j=r
  ·subst hrj
   rcases hc id j rfl cs hblk x hx with ⟨y,rfl⟩ | rfl
   ·exact Rel.mono Xj (fun _ _ h=>h) g5
   ·trivial
  ·exact g5.fix (by rw [hr]; simpa using Ne.symm hrj) (.inr trivial)⟩
theorem Ext.fix {b:Nat} {vs:List Value} (c:Cx) (w:World) (hb:c.R b ≠ .out):Ext c w (c.fix b vs) w :=
 ⟨rfl,rfl,rfl,Nat.le_refl _,fun k hk h=>⟨rfl,h,fun o=>qaw (by rintro rfl; exact hb h)⟩,Xj,fun _ _ h=>h⟩
theorem Sim.share {t:Nat} {pr:Bool} {e n sz:Nat} {cs:List V} (h:Sim c N ⟨F,H⟩ a w) (ht:qm t F=some (.own pr e n sz cs)) :
  ∃ c' u,a.tmps[t]? = some u∧Rel c'.I c'.φ (.sl n sz cs) u∧Sim c' N ⟨yR t (.own false e n sz cs) F,H⟩ a w∧Ext c w c' w:=by
 obtain ⟨u,hu,h0,vs,h1,h2,h6,h3⟩:=h.fr t _ (QO ht)
 rcases h2.2 with ⟨rfl,rfl⟩ | ⟨g,cap,cur,rfl,hb0,g1,g2,g3,g4,g5⟩
 ·have hv:vs = []:=List.eq_nil_of_length_eq_zero (by rw [h2.1]; simp)
  subst hv
  cases h1
  refine ⟨c,_,hu,.sl0,⟨h.inv,h.size,h.defers,fun k x hx => ?_⟩,Ext.refl c w⟩
  rcases KD hx with ⟨rfl,rfl⟩ | ⟨_,hx⟩
  ·exact ⟨_,hu,h0,[],.nil,h2,h6,fun b hb=>by cases hb⟩
  ·exact h.fr k x hx
 ·obtain ⟨k1,k2⟩:=h3 g rfl
  have hcell:∀ o v,vs[o]? = some v→w.cell? ⟨g,o,none⟩=some v:=fun o v hv=>qbQ (g:=g) h2 rfl hv
  refine ⟨c.fix g vs,_,hu,.sl (vM.mono Xj (fun _ _ h=>h) h1) (fun j v hv => ?_) (by rw [h1.len,h2.1]) g2 g3 h6,
   ⟨h.inv.fix k1 hcell (fun id j e=>by cases e),h.size,h.defers,fun k x hx => ?_⟩,Ext.fix c w (by rw [k1]; simp)⟩
  ·rw [Nat.zero_add]
   simp only [Cx.fix,if_true]
   rw [k2 j]
   cases pr <;> simp [hv]
  ·rcases KD hx with ⟨rfl,rfl⟩ | ⟨hne,hx⟩
   ·refine ⟨_,hu,h0,vs,vM.mono Xj (fun _ _ h=>h) h1,h2,h6,fun b hb => ?_⟩
    cases hb
    refine ⟨k1,fun o => ?_⟩
    simp only [Cx.fix,if_true]
    rw [k2 o]
    cases pr
    ·simp only [Bool.false_eq_true,if_false]
     cases vs[o]? <;> rfl
    ·simp
   ·obtain ⟨v,hv,hs⟩:=h.fr k x hx
    exact ⟨v,hv,hs.fix (by rw [k1]; simpa using Ne.symm hne) (.inr trivial)⟩
theorem qal {id j i:Nat} {x:SV} {cs:List SV} (hk:H[id]? = some (.cells cs)):(qo H id j x)[i]? = if i=id then some (.cells (cs.set j x)) else H[i]? := by
 have hlt:id<H.length:=(List.getElem?_eq_some_iff.1 hk).1
 unfold qo
 rw [hk]
 by_cases hi:i=id
 ·subst hi; simp [hlt]
 ·rw [if_neg hi]
  simp only
  rw [List.getElem?_set_ne (Ne.symm hi)]
theorem qdj {id j:Nat} {x:SV}:(qo H id j x).length=H.length:=by
 unfold qo
 split <;> simp
theorem Sim.qgm {id j b:Nat} {ks:List SV} {pr:Bool} {e n sz:Nat} {cs:List V} (h:Sim c N ⟨F,H⟩ a w) (hb:c.φ[id]? = some b) (hk:H[id]? = some (.cells ks)) (ht:ks[j]? = some (.own pr e n sz cs)) :
  ∃ c' u,w.cell? ⟨b,j,none⟩=some u∧Rel c'.I c'.φ (.sl n sz cs) u∧Sim c' N ⟨F,qo H id j (.own false e n sz cs)⟩ a w∧Ext c w c' w∧c'.R=c.R:=by
 obtain ⟨hr,hi,arr,e',q1,q2,q6,q3⟩:=h.inv.blk id b _ hb hk
 have hj:j<arr.size:=by rw [q2]; exact (List.getElem?_eq_some_iff.1 ht).1
 obtain ⟨_,h0,vs,h1,h2,h6,h3⟩:=q3 j _ _ ht (Array.getElem?_eq_getElem hj)
 have hu:w.cell? ⟨b,j,none⟩=some arr[j]:=by simp [World.cell?,q1,hj]
 generalize arr[j]=u at *
 rcases h2.2 with ⟨rfl,rfl⟩ | ⟨g,cap,cur,rfl,hb0,g1,g2,g3,g4,g5⟩
 ·have hv:vs = []:=List.eq_nil_of_length_eq_zero (by rw [h2.1]; simp)
  subst hv
  cases h1
  refine ⟨c,_,hu,.sl0,⟨⟨h.inv.imm,by rw [qdj]; exact h.inv.len,h.inv.lt,h.inv.uniq,fun id' b' k hb' hk' => ?_⟩,h.size,h.defers,h.fr⟩,Ext.refl c w,rfl⟩
  rw [qal hk] at hk'
  by_cases hid:id'=id
  ·subst hid
   rw [if_pos rfl] at hk'
   cases hk'
   rw [hb] at hb'
   cases hb'
   refine ⟨hr,hi,arr,e',q1,by simp [q2],q6,fun i y v hy hv => ?_⟩
   rw [List.getElem?_set] at hy
   by_cases hij:j=i
   ·subst hij
    simp only [if_true] at hy
    split at hy
    ·cases hy
     have:v = .slice none 0 0:=by
      have h5:w.cell? ⟨b,j,none⟩=some v:=by simp [World.cell?,q1,hv]
      rw [hu] at h5
      cases h5
      rfl
     subst this
     exact ⟨rfl,h0,[],.nil,h2,h6,fun b hb=>by cases hb⟩
    ·cases hy
   ·rw [if_neg hij] at hy
    exact q3 i y v hy hv
  ·rw [if_neg hid] at hk'
   exact h.inv.blk id' b' k hb' hk'
 ·obtain ⟨k1,k2⟩:=h3 g rfl
  have hcell:∀ o v,vs[o]? = some v→w.cell? ⟨g,o,none⟩=some v:=fun o v hv=>qbQ (g:=g) h2 rfl hv
  have hfix:∀ o,(c.fix g vs).I g o=vs[o]? := fun o=>by
   simp only [Cx.fix,if_true]
   rw [k2 o]
   cases pr
   ·simp only [Bool.false_eq_true,if_false]
    cases vs[o]? <;> rfl
   ·simp
  refine ⟨c.fix g vs,_,hu,.sl (vM.mono Xj (fun _ _ h=>h) h1) (fun j v hv=>by rw [Nat.zero_add,hfix]; exact hv) (by rw [h1.len,h2.1]) g2 g3 h6,
   ⟨⟨fun k o v hk => ?_,by rw [qdj]; exact h.inv.len,h.inv.lt,h.inv.uniq,fun id' b' k hb' hk' => ?_⟩,h.size,h.defers,fun k x hx => ?_⟩,Ext.fix c w (by rw [k1]; simp),rfl⟩
  ·by_cases hkg:k=g
   ·subst hkg
    rw [hfix] at hk
    exact hcell o v hk
   ·rw [qaw hkg] at hk
    exact h.inv.imm k o v hk
  ·rw [qal hk] at hk'
   by_cases hid:id'=id
   ·subst hid
    rw [if_pos rfl] at hk'
    cases hk'
    rw [show (c.fix g vs).φ=c.φ from rfl,hb] at hb'
    cases hb'
    have hne:b≠g:=by rintro rfl; rw [hr] at k1; cases k1
    refine ⟨hr,fun o=>by rw [qaw hne]; exact hi o,arr,e',q1,by simp [q2],q6,fun i y v hy hv => ?_⟩
    rw [List.getElem?_set] at hy
    by_cases hij:j=i
    ·subst hij
     simp only [if_true] at hy
     split at hy
     ·cases hy
      have:v = .slice (some ⟨g,0,none⟩) n cap:=by
       have h5:w.cell? ⟨b,j,none⟩=some v:=by simp [World.cell?,q1,hv]
       rw [hu] at h5
       cases h5
       rfl
      subst this
      refine ⟨rfl,h0,vs,vM.mono Xj (fun _ _ h=>h) h1,h2,h6,fun b' hb' => ?_⟩
      cases hb'
      exact ⟨k1,fun o=>by rw [hfix]; simp⟩
     ·cases hy
    ·rw [if_neg hij] at hy
     obtain ⟨f1,f2⟩:=q3 i y v hy hv
     exact ⟨f1,f2.fix (by rw [k1]; simpa using hij) (.inr trivial)⟩
   ·rw [if_neg hid] at hk'
    obtain ⟨f1,f2,f3⟩:=h.inv.blk id' b' k hb' hk'
    have hne:b'≠g:=by rintro rfl; rw [f1] at k1; cases k1
    refine ⟨f1,fun o=>by rw [qaw hne]; exact f2 o,?_⟩
    by_cases hck:∃ cs,k = .cells cs
    rotate_left
    ·exact qac.stay (fun cs e=>hck ⟨cs,e⟩) f3 (Xj) (fun _ _ h=>h) (fun _ _ h _=>h)
    obtain ⟨cs',rfl⟩:=hck
    obtain ⟨arr',e'',p1,p2,p6,p3⟩:=f3
    refine ⟨arr',e'',p1,p2,p6,fun i y v hy hv => ?_⟩
    obtain ⟨f4,f5⟩:=p3 i y v hy hv
    exact ⟨f4,f5.fix (by
     rw [k1]
     intro e
     cases e
     exact hid rfl) (.inr trivial)⟩
  ·obtain ⟨v,hv,hs⟩:=h.fr k x hx
   exact ⟨v,hv,hs.fix (by rw [k1]; simp) (.inr trivial)⟩
end
section
variable {c:Cx} {N:Nat} {F:Fr} {H:List Bk} {a:Act} {w:World}
theorem qcn {c:Cx} {w:World} {r:Root} {pr:Bool} {e sz:Nat} (h:0<sz):QF c w r (.own pr e 0 sz []) (.slice none 0 0) :=
 ⟨h,[],.nil,⟨by simp,.inl ⟨rfl,rfl⟩⟩,fun u hu=>by simp at hu,fun b hb=>by cases hb⟩
theorem KU {vs:List Value} {cs:List V} {I:Nat→Nat→Option Value} {φ:List Nat} {base:Nat} {e sz:Nat} (h1:vM I φ cs vs) (h2:w.ownsRow base e sz (.slice none 0 0) 0 vs):cs = []∧vs = []:=by
 have hv:vs = []:=List.eq_nil_of_length_eq_zero (by rw [h2.1]; simp)
 subst hv
 cases h1
 exact ⟨rfl,rfl⟩
theorem Sim.hand {t u:Nat} {pr:Bool} {e n sz:Nat} {cs:List V} (h:Sim c N ⟨F,H⟩ a w) (hu:qm u F=some (.own pr e n sz cs)) (ht:t<N) :
  ∃ c' v,a.tmps[u]? = some v∧Sim c' N ⟨vO t (.own pr e n sz cs) (del u F),H⟩ (a.put (some t) v) w∧Ext c w c' w:=by
 obtain ⟨v,hv,h0,vs,h1,h2,h6,h3⟩:=h.fr u _ (QO hu)
 have hd:Sim c N ⟨del u F,H⟩ a w:=h.sub fun p hp=>(QL (x:=p.2) (k:=p.1) hp).1
 rcases h2.2 with ⟨rfl,rfl⟩ | ⟨g,cap,cur,rfl,hb0,g1,g2,g3,g4,g5⟩
 ·obtain ⟨rfl,rfl⟩:=KU h1 h2
  exact ⟨_,_,hv,hd.put' ht (qcn h0),Ext.free c w _⟩
 ·obtain ⟨k1,k2⟩:=h3 g rfl
  have hlt:=h.inv.lt g (by rw [k1]; simp)
  refine ⟨_,_,hv,hd.qfP ht hlt (fun id=>by rw [k1]; simp) (fun id j=>by rw [k1]; simp) (fun k x hx => ?_) ?_,Ext.give c w (fun _=>by rw [k1]; simp)⟩
  ·have h5:=QL (QL hx).1
   refine ⟨by rw [k1]; simpa using Ne.symm h5.2.1,fun q hq => ?_⟩
   rw [k1] at hq
   cases hq
   exact h5.2.2
  ·refine ⟨h0,vs,h1,h2,h6,fun b hb => ?_⟩
   cases hb
   exact ⟨YW,k2⟩
theorem qol {base e sz n g o:Nat} {u v:Value} {vs:List Value} (h:w.ownsRow base e sz u n vs) (hg:u.ownBlock=some g) (ho:o<vs.length):(w.setCell ⟨g,o,none⟩ v).ownsRow base e sz u n (vs.set o v):=by
 rcases h.2 with ⟨rfl,_⟩ | ⟨g',cap,cur,rfl,hb,h1,h2,h3,h4,h5⟩
 ·cases hg
 ·cases hg
  refine ⟨by rw [List.length_set]; exact h.1,.inr ⟨g',cap,cur.setIfInBounds o v,rfl,hb,qe6 h1,h2,h3,by simpa using h4,?_⟩⟩
  rw [Array.toList_setIfInBounds,List.take_set,h5]
theorem QF.apart {r:Root} {x:SV} {v u:Value} {b o:Nat} {q:Root} (hb:c.R b = .own q) (hr:r≠q) (h:QF c w r x v):QF c (w.setCell ⟨b,o,none⟩ u) r x v:=by
 cases x with
 | v x=>exact h
 | own pr e n sz cs =>
  obtain ⟨h0,vs,h1,h2,h6,h3⟩:=h
  refine ⟨h0,vs,h1,qfU h2 fun g hg=>ZQ (by
   rintro rfl
   have:=(h3 _ hg).1
   rw [hb] at this
   cases this
   exact hr rfl),h6,h3⟩
 | pth r' off=>exact h
 | lnk r' n=>exact h
 | any=>trivial
theorem Inv.poke {g o:Nat} {v:Value} {q:Root} (h:Inv c H w) (hg:c.R g = .own q) (hi:∀ o,c.I g o=none) (hq:∀ id j,q = .cell id j→Bare H (.cell id j)):Inv c H (w.setCell ⟨g,o,none⟩ v):=by
 refine ⟨fun b o' u hu => ?_,h.len,fun b hb=>by rw [size_set]; exact h.lt b hb,h.uniq,fun id b k hb hk => ?_⟩
 ·have hne:b≠g:=by rintro rfl; rw [hi] at hu; cases hu
  rw [World.cell?_of_block (a:=⟨b,o',none⟩) (ZQ (w:=w) (p:=⟨g,o,none⟩) (u:=v) hne)]
  exact h.imm b o' u hu
 ·obtain ⟨h1,h2,h3⟩:=h.blk id b k hb hk
  have hne:b≠g:=by rintro rfl; rw [hg] at h1; cases h1
  refine ⟨h1,h2,?_⟩
  by_cases hck:∃ cs,k = .cells cs
  rotate_left
  ·exact qac.stay (fun cs e=>hck ⟨cs,e⟩) h3 (fun _ _ _ h=>h) (fun _ _ h=>h) (fun _ _ h ho=>qkF h ho)
  obtain ⟨cs,rfl⟩:=hck
  obtain ⟨arr,e,g1,g2,g6,g3⟩:=h3
  refine ⟨arr,e,(ZQ (w:=w) (p:=⟨g,o,none⟩) (u:=v) hne).trans g1,g2,g6,fun j x u hx hu => ?_⟩
  obtain ⟨g4,g5⟩:=g3 j x u hx hu
  refine ⟨g4,?_⟩
  by_cases hrj:Root.cell id j=q
  ·rcases hq id j hrj.symm cs hk x hx with ⟨y,rfl⟩ | rfl
   ·exact g5
   ·trivial
  ·exact g5.apart hg hrj
theorem Sim.poke {t e n sz o:Nat} {cs:List V} {x:V} {b:Nat} {v:Value} (h:Sim c N ⟨F,H⟩ a w) (ht:qm t F=some (.own true e n sz cs)) (hb:c.R b = .own (.slot t)) (ho:o<cs.length) (hv1:v.oneCell'=true) (hx:Rel c.I c.φ x v) :
  Sim c N ⟨yR t (.own true e n sz (cs.set o x)) F,H⟩ a (w.setCell ⟨b,o,none⟩ v)∧Ext c w c (w.setCell ⟨b,o,none⟩ v):=by
 obtain ⟨u,hu,h0,vs,h1,h2,h6,h3⟩:=h.fr t _ (QO ht)
 have hblk:u.ownBlock=some b:=by
  rcases h2.2 with ⟨rfl,rfl⟩ | ⟨g,cap,cur,rfl,_⟩
  ·obtain ⟨rfl,rfl⟩:=KU h1 h2
   simp at ho
  ·have:=h.inv.uniq g b _ (h3 g rfl).1 hb
   subst this
   rfl
 obtain ⟨_,k2⟩:=h3 b hblk
 refine ⟨⟨h.inv.poke hb (fun o=>by rw [k2]; rfl) (fun _ _ e=>by cases e),h.size,h.defers,fun k y hy => ?_⟩,Ext.store c w (by rw [hb]; simp)⟩
 rcases KD hy with ⟨rfl,rfl⟩ | ⟨hne,hy⟩
 ·refine ⟨u,hu,h0,vs.set o v,h1.set o hx,qol h2 hblk (by rw [← h1.len]; exact ho),fun u hu=>(List.mem_or_eq_of_mem_set hu).elim (h6 u) (fun e=>e▸hv1),fun b' hb' => ?_⟩
  obtain ⟨k3,k4⟩:=h3 b' hb'
  exact ⟨k3,fun o=>by rw [k4]; rfl⟩
 ·obtain ⟨u',hu',hs⟩:=h.fr k y hy
  exact ⟨u',hu',hs.apart hb (by simpa using hne)⟩
theorem Ext.laid (c:Cx) (w:World) (o:Obj) (r:Root):Ext c w (c.give w.heap.size r) (w.alloc o) :=
 ⟨rfl,rfl,rfl,by simp,fun k hk hr=>⟨Z5 hk,by simp [Cx.give,Nat.ne_of_lt hk,hr],fun _=>rfl⟩,fun _ _ _ h=>h,fun _ _ h=>h⟩
theorem Sim.layOwn {t:Nat} {e n cap sz:Nat} {arr:Array Value} {cs:List V} (h:Sim c N ⟨F,H⟩ a w) (ht:t<N) (hsz:0<sz) (hc:vM c.I c.φ cs (arr.toList.take (n*sz))) (hn:n≤cap) (hm:cap≤maxLen) (hs:arr.size=cap*sz) (hv1:∀ v∈arr.toList,v.oneCell'=true) :
  Sim (c.give w.heap.size (.slot t)) N ⟨vO t (.own true e n sz cs) F,H⟩ (a.put (some t) (.slice (some ⟨w.heap.size,0,none⟩) n cap)) (w.alloc (.cells arr e))∧Ext c w (c.give w.heap.size (.slot t)) (w.alloc (.cells arr e)):=by
 have hout:=qj6 h.inv
 have h1:Sim c N ⟨F,H⟩ a (w.alloc (.cells arr e)):=h.more
 refine ⟨h1.qfP ht (by simp) (fun id=>by rw [hout]; simp) (fun id j=>by rw [hout]; simp) (fun k x hx=>⟨by rw [hout]; simp,fun q hq=>by rw [hout] at hq; cases hq⟩) ?_,
  Ext.laid c w _ _⟩
 ·refine ⟨hsz,_,hc,⟨?_,.inr ⟨w.heap.size,cap,arr,rfl,Nat.zero_le _,heap_alloc_new w _,hn,hm,hs,rfl⟩⟩,fun u hu=>hv1 u (List.mem_of_mem_take hu),fun b hb => ?_⟩
  ·have:n*sz≤cap*sz:=Nat.mul_le_mul_right _ hn
   rw [List.length_take,Nat.min_eq_left]
   simpa [hs] using this
  ·cases hb
   exact ⟨YW,fun o=>by rw [if_pos rfl]; exact qbr h.inv _ o (Nat.le_refl _)⟩
theorem Inv.grown {w':World} {row:Option Nat} (h:Inv c H w) (hg:w.grownBy w' row) (hrow:∀ g,row=some g→∃ t,c.R g = .own (.slot t)) (hk:∀ g,row=some g→∀ o v,c.I g o=some v→w'.cell? ⟨g,o,none⟩=some v) (hcl:∀ g,row=some g→∃ arr e f,w.heap[g]? = some (.cells arr e f)):Inv c H w':=by
 have hM:∀ (b':Nat) (o:Obj),w.heap[b']? = some o→(∀ arr e f,o≠Obj.cells arr e f)→w'.heap[b']? = some o:=fun b' o hb ho=>(hg.block b' (XI hb) (fun e=>by
  obtain ⟨arr,t,f,hc⟩:=hcl b' e.symm
  rw [hb] at hc
  cases hc
  exact ho _ _ _ rfl)).trans hb
 have hne:∀ b,b<w.heap.size→(∀ t,c.R b ≠ .own (.slot t))→w'.heap[b]? = w.heap[b]? := fun b hb hr=>hg.block b hb (fun e=>by
  obtain ⟨t,ht⟩:=hrow b e.symm
  exact hr t ht)
 refine ⟨fun b o v hv => ?_,h.len,fun b hb=>Nat.lt_of_lt_of_le (h.lt b hb) hg.size,h.uniq,fun id b k hb hk' => ?_⟩
 ·by_cases hr:row=some b
  ·exact hk b hr o v hv
  ·rw [World.cell?_of_block (a:=⟨b,o,none⟩) (hg.block b (World.block_lt_of_cell? w _ (h.imm b o v hv)) (Ne.symm hr))]
   exact h.imm b o v hv
 ·obtain ⟨h1,h2,h3⟩:=h.blk id b k hb hk'
  refine ⟨h1,h2,?_⟩
  have hbl:=h.lt b (by rw [h1]; simp)
  by_cases hck:∃ cs,k = .cells cs
  rotate_left
  ·exact qac.stay (fun cs e=>hck ⟨cs,e⟩) h3 (fun _ _ _ h=>h) (fun _ _ h=>h) (hM)
  obtain ⟨cs,rfl⟩:=hck
  obtain ⟨arr,e,g1,g2,g6,g3⟩:=h3
  refine ⟨arr,e,(hne b hbl (fun t=>by rw [h1]; simp)).trans g1,g2,g6,fun j x v hx hv=>⟨(g3 j x v hx hv).1,?_⟩⟩
  exact QF.mono (c:=c) (c':=c) (w:=w) (w':=w') (fun _ _ _ h=>h) (fun _ _ h=>h) (fun b' q hq hb'=>⟨hb',hne b' (h.lt b' (by rw [hb']; simp)) (fun t e=>by
   rw [hb'] at e
   cases e
   rcases hq with hq | hq
   ·cases hq
   ·rw [Vn (g3 j x v hx hv).1] at hq; cases hq),fun _=>rfl⟩) (g3 j x v hx hv).2
theorem Sim.grow {t u:Nat} {pr:Bool} {e n m sz:Nat} {cs ds:List V} {v v':Value} {vs ns:List Value} {w':World} (h:Sim c N ⟨F,H⟩ a w) (ht:t<N) (h0:0<sz)
  (hu:∀ k x,(k,x)∈F→k≠u∧x.refers (.slot u)=false) (h1:vM c.I c.φ cs vs) (h2:w.ownsRow 0 e sz v n vs) (h3:∀ b,v.ownBlock=some b→c.R b = .own (.slot u)∧∀ o,c.I b o=if pr then none else vs[o]?)
  (hd:vM c.I c.φ ds ns) (hv1:∀ x∈vs++ns,x.oneCell'=true) (h4:w'.ownsRow 0 e sz v' (n+m) (vs++ns)) (hg:w.grownBy w' v.ownBlock) (hat:v'.ownBlock=v.ownBlock∨v'.ownBlock=some w.heap.size)
  (hold:∀ g,v.ownBlock=some g→∀ o x,vs[o]? = some x→w'.cell? ⟨g,o,none⟩=some x) :
  ∃ c',Sim c' N ⟨vO t (.own pr e (n+m) sz (cs++ds)) F,H⟩ (a.put (some t) v') w'∧Ext c w c' w':=by
 have hI:∀ g,v.ownBlock=some g→∀ o x,c.I g o=some x→w'.cell? ⟨g,o,none⟩=some x:=fun g hgv o x hx=>by
  rw [(h3 g hgv).2] at hx
  cases pr
  ·exact hold g hgv o x (by simpa using hx)
  ·simp at hx
 have i1:Inv c H w':=h.inv.grown hg (fun g hg=>⟨u,(h3 g hg).1⟩) hI (fun g hgv=>by
  rcases h2.2 with ⟨rfl,_⟩ | ⟨g',cap,cur,rfl,_,g1,_⟩
  ·cases hgv
  ·cases hgv; exact ⟨_,_,_,g1⟩)
 have s1:Sim c N ⟨F,H⟩ a w':=⟨i1,h.size,h.defers,fun k x hx=>by
  obtain ⟨y,hy,hs⟩:=h.fr k x hx
  refine ⟨y,hy,QF.mono (c:=c) (c':=c) (w:=w) (w':=w') (fun _ _ _ h=>h) (fun _ _ h=>h) (fun b q hq hb=>⟨hb,hg.block b (h.inv.lt b (by rw [hb]; simp)) (fun e => ?_),fun _=>rfl⟩) hs⟩
  have:=(h3 b e.symm).1
  rw [hb] at this
  cases this
  obtain ⟨g1,g2⟩:=hu k x hx
  rcases hq with hq | hq
  ·cases hq; exact g1 rfl
  ·rw [g2] at hq; cases hq⟩
 have x1:Ext c w c w':=⟨hg.os,hg.tape,hg.output,hg.size,fun b hb hr=>⟨hg.block b hb (fun e=>by rw [(h3 b e.symm).1] at hr; cases hr),hr,fun _=>rfl⟩,fun _ _ _ h=>h,fun _ _ h=>h⟩
 rcases h4.2 with ⟨rfl,hz⟩ | ⟨g,cap,cur,rfl,_,g1,g2,g3,g4,g5⟩
 ·have hn:n=0:=by omega
  have hm:m=0:=by omega
  subst hn hm
  have e1:vs = []:=List.eq_nil_of_length_eq_zero (by rw [h2.1]; simp)
  have e2:vs++ns = []:=List.eq_nil_of_length_eq_zero (by rw [h4.1]; simp)
  subst e1
  simp at e2
  subst e2
  cases h1
  cases hd
  exact ⟨_,s1.put' ht (qcn h0),x1.trans (Ext.free c w' _)⟩
 ·have hgl:g<w'.heap.size:=Blk.lt (t:=e) g1
  have hrole:c.R g = .own (.slot u)∨c.R g = .out:=by
   rcases hat with e | e
   ·exact .inl (h3 g e.symm).1
   ·have:g=w.heap.size:=by simpa [Value.ownBlock] using e
    subst this
    exact .inr (qj6 h.inv)
  have hp:Sim (c.give g (.slot t)) N ⟨vO t .any F,H⟩ (a.put (some t) (.slice (some ⟨g,0,none⟩) (n+m) cap)) w':=by
   have hi:Inv (c.give g (.slot t)) H w':=i1.give hgl trivial (fun id e=>by rcases hrole with h | h <;> rw [h] at e <;> cases e) (fun id j e=>by rcases hrole with h | h <;> rw [h] at e <;> cases e)
   refine ⟨hi,by simpa [Act.put] using h.size,h.defers,fun k y hy => ?_⟩
   unfold vO at hy
   simp only [List.mem_cons,Prod.mk.injEq] at hy
   rcases hy with ⟨rfl,rfl⟩ | hy
   ·exact ⟨_,by simp [Act.put,Array.getElem?_setIfInBounds,h.size,ht]; rfl,trivial⟩
   ·obtain ⟨q1,q2,q3⟩:=QL hy
    obtain ⟨z,hz,hs⟩:=s1.fr k y q1
    obtain ⟨f1,f2⟩:=hu k y q1
    refine ⟨z,by simpa [Act.put,Array.getElem?_setIfInBounds,Ne.symm q2] using hz,hs.give (fun q hq e => ?_) (by simpa using q2) q3⟩
    rcases hrole with hr | hr
    ·rw [hr] at e
     cases e
     rcases hq with hq | hq
     ·cases hq; exact f1 rfl
     ·rw [f2] at hq; cases hq
    ·rw [hr] at e; cases e
  have hx:Ext c w' (c.give g (.slot t)) w'∨c.R g = .out:=by
   rcases hrole with hr | hr
   ·exact .inl (Ext.give c w' (fun _=>by rw [hr]; simp))
   ·exact .inr hr
  have x2:Ext c w (c.give g (.slot t)) w':=by
   rcases hx with hx | hr
   ·exact x1.trans hx
   ·refine ⟨hg.os,hg.tape,hg.output,hg.size,fun b hb hrb => ?_,fun _ _ _ h=>h,fun _ _ h=>h⟩
    have hbg:b≠g:=by
     rintro rfl
     rcases hat with e | e
     ·rw [(h3 b e.symm).1] at hr; cases hr
     ·have:b=w.heap.size:=by simpa [Value.ownBlock] using e
      omega
    exact ⟨(x1.out b hb hrb).1,by simp [Cx.give,hbg,hrb],fun _=>rfl⟩
  have hcell:∀ o x,(vs++ns)[o]? = some x→w'.cell? ⟨g,o,none⟩=some x:=fun o x hx=>qbQ (g:=g) h4 rfl hx
  have hIg:∀ o x,c.I g o=some x→(vs++ns)[o]? = some x:=fun o x hx=>by
   rcases hat with e | e
   ·rw [(h3 g e.symm).2] at hx
    cases pr
    ·simp only [Bool.false_eq_true,if_false] at hx
     rw [List.getElem?_append_left (List.getElem?_eq_some_iff.1 hx).1]
     exact hx
    ·simp at hx
   ·have:g=w.heap.size:=by simpa [Value.ownBlock] using e
    subst this
    rw [qbr h.inv _ o (Nat.le_refl _)] at hx
    cases hx
  cases pr with
  | true =>
   refine ⟨_,⟨hp.inv,hp.size,hp.defers,fun k y hy => ?_⟩,x2⟩
   unfold vO at hy
   simp only [List.mem_cons,Prod.mk.injEq] at hy
   rcases hy with ⟨rfl,rfl⟩ | hy
   ·obtain ⟨z,hz,_⟩:=hp.fr k .any (by simp [vO])
    have:z = .slice (some ⟨g,0,none⟩) (n+m) cap:=by
     simp [Act.put,Array.getElem?_setIfInBounds,h.size,ht] at hz
     exact hz.symm
    subst this
    refine ⟨_,hz,h0,vs++ns,h1.append hd,h4,hv1,fun b hb => ?_⟩
    cases hb
    refine ⟨YW,fun o => ?_⟩
    rcases hat with e | e
    ·have:=(h3 g e.symm).2 o
     show c.I g o=_
     simpa using this
    ·have:g=w.heap.size:=by simpa [Value.ownBlock] using e
     subst this
     rw [if_pos rfl]
     exact qbr h.inv _ o (Nat.le_refl _)
   ·exact hp.fr k y (by unfold vO; exact List.mem_cons_of_mem _ hy)
  | false =>
   have hfix:∀ o,((c.give g (.slot t)).fix g (vs++ns)).I g o=(vs++ns)[o]? := fun o=>by
    simp only [Cx.fix,if_true]
    show (match c.I g o with | some v=>some v | none=>(vs++ns)[o]?)=_
    cases hi:c.I g o with
    | none=>rfl
    | some x=>rw [hIg o x hi]
   refine ⟨(c.give g (.slot t)).fix g (vs++ns),⟨hp.inv.fix YW hcell (fun id j e=>by cases e),hp.size,hp.defers,fun k y hy => ?_⟩,x2.trans ⟨rfl,rfl,rfl,Nat.le_refl _,fun b hb hr=>⟨rfl,hr,fun o=>qaw (by rintro rfl; rw [YW] at hr; cases hr)⟩,Xj,fun _ _ h=>h⟩⟩
   unfold vO at hy
   simp only [List.mem_cons,Prod.mk.injEq] at hy
   rcases hy with ⟨rfl,rfl⟩ | hy
   ·obtain ⟨z,hz,_⟩:=hp.fr k .any (by simp [vO])
    have:z = .slice (some ⟨g,0,none⟩) (n+m) cap:=by
     simp [Act.put,Array.getElem?_setIfInBounds,h.size,ht] at hz
     exact hz.symm
    subst this
    refine ⟨_,hz,h0,vs++ns,vM.mono Xj (fun _ _ h=>h) (h1.append hd),h4,hv1,fun b hb => ?_⟩
    cases hb
    exact ⟨YW,fun o=>by rw [hfix]; simp⟩
   ·obtain ⟨z,hz,hs⟩:=hp.fr k y (by unfold vO; exact List.mem_cons_of_mem _ hy)
    exact ⟨z,hz,hs.fix (by rw [YW]; simpa using Ne.symm (QL hy).2.1) (.inr trivial)⟩
end
section
variable {c:Cx} {N:Nat} {F:Fr} {H:List Bk} {a:Act} {w:World}
theorem zF {id j:Nat} {x:SV} {cs:List SV} (hk:H[id]? = some (.cells cs)):qo H id j x=H.set id (.cells (cs.set j x)):=by
 unfold qo
 rw [hk]
theorem Inv.dim {id j:Nat} {ks:List SV} (h:Inv c H w) (hk:H[id]? = some (.cells ks)):Inv c (qo H id j .any) w:=by
 refine ⟨h.imm,by rw [qdj]; exact h.len,h.lt,h.uniq,fun id' b k hb hk' => ?_⟩
 rw [qal hk] at hk'
 by_cases hid:id'=id
 ·subst hid
  rw [if_pos rfl] at hk'
  cases hk'
  obtain ⟨h1,h2,arr,e,g1,g2,g6,g3⟩:=h.blk id' b _ hb hk
  refine ⟨h1,h2,arr,e,g1,by simp [g2],g6,fun i x v hx hv => ?_⟩
  rw [List.getElem?_set] at hx
  by_cases hij:j=i
  ·subst hij
   simp only [if_true] at hx
   split at hx
   ·cases hx
    exact ⟨rfl,trivial⟩
   ·cases hx
  ·rw [if_neg hij] at hx
   exact g3 i x v hx hv
 ·rw [if_neg hid] at hk'
  exact h.blk id' b k hb hk'
theorem Sim.dim {id j:Nat} {ks:List SV} (h:Sim c N ⟨F,H⟩ a w) (hk:H[id]? = some (.cells ks)):Sim c N ⟨F,qo H id j .any⟩ a w:=⟨h.inv.dim hk,h.size,h.defers,h.fr⟩
theorem qmu {id j:Nat} {ks:List SV} (hk:H[id]? = some (.cells ks)):Bare (qo H id j .any) (.cell id j):=by
 intro cs hc x hx
 rw [qal hk,if_pos rfl] at hc
 cases hc
 rw [List.getElem?_set] at hx
 simp only [if_true] at hx
 split at hx
 ·cases hx; exact .inr rfl
 ·cases hx
def QI (r:Root):Fr→Fr
 | [] => []
 | (k,x)::F=>bif x.refers r then QI r F else (k,x)::QI r F
theorem qaX {r:Root} {k:Nat} {x:SV}:∀ {F:Fr},(k,x)∈QI r F→(k,x)∈F∧x.refers r=false
 | [],h=>by cases h
 | (j,y)::F,h=>by
  unfold QI at h
  cases hc:y.refers r with
  | true =>
   rw [hc] at h
   obtain ⟨h1,h2⟩:=qaX (F:=F) (by simpa using h)
   exact ⟨List.mem_cons_of_mem _ h1,h2⟩
  | false =>
   rw [hc] at h
   simp only [cond_false,List.mem_cons,Prod.mk.injEq] at h
   rcases h with ⟨rfl,rfl⟩ | h
   ·exact ⟨by simp,hc⟩
   ·obtain ⟨h1,h2⟩:=qaX (F:=F) h
    exact ⟨List.mem_cons_of_mem _ h1,h2⟩
theorem Sim.take {id off b d:Nat} {ks:List SV} {pr:Bool} {e n sz:Nat} {cs:List V} (h:Sim c N ⟨F,H⟩ a w) (hb:c.φ[id]? = some b) (hk:H[id]? = some (.cells ks)) (hj:ks[off]? = some (.own pr e n sz cs)) (hd:d<N) :
  ∃ c' v,w.cell? ⟨b,off,none⟩=some v∧Sim c' N ⟨vO d (.own pr e n sz cs) (QI (.cell id off) F),qo H id off .any⟩ (a.put (some d) v) w∧Ext c w c' w:=by
 obtain ⟨hr,hi,arr,e',q1,q2,q6,q3⟩:=h.inv.blk id b _ hb hk
 have hlt:off<arr.size:=by rw [q2]; exact (List.getElem?_eq_some_iff.1 hj).1
 obtain ⟨_,h0,vs,h1,h2,h6,h3⟩:=q3 off _ _ hj (Array.getElem?_eq_getElem hlt)
 have hu:w.cell? ⟨b,off,none⟩=some arr[off]:=by simp [World.cell?,q1,hlt]
 generalize arr[off]=u at *
 have s1:Sim c N ⟨QI (.cell id off) F,qo H id off .any⟩ a w:=(h.sub fun p hp=>(qaX (x:=p.2) (k:=p.1) hp).1).dim hk
 rcases h2.2 with ⟨rfl,rfl⟩ | ⟨g,cap,cur,rfl,hb0,g1,g2,g3,g4,g5⟩
 ·obtain ⟨rfl,rfl⟩:=KU h1 h2
  exact ⟨_,_,hu,s1.put' hd (qcn h0),Ext.free c w _⟩
 ·obtain ⟨k1,k2⟩:=h3 g rfl
  have hglt:=h.inv.lt g (by rw [k1]; simp)
  refine ⟨_,_,hu,s1.qfP hd hglt (fun i=>by rw [k1]; simp) (fun i j hij => ?_) (fun k x hx => ?_) ?_,Ext.give c w (fun _=>by rw [k1]; simp)⟩
  ·rw [k1] at hij
   cases hij
   exact qmu hk
  ·refine ⟨by rw [k1]; simp,fun q hq => ?_⟩
   rw [k1] at hq
   cases hq
   exact (qaX (QL hx).1).2
  ·refine ⟨h0,vs,h1,h2,h6,fun b' hb' => ?_⟩
   cases hb'
   exact ⟨YW,k2⟩
theorem Sim.place {id off b u:Nat} {ks:List SV} {pr:Bool} {e n sz:Nat} {cs:List V} (h:Sim c N ⟨F,H⟩ a w) (hu:qm u F=some (.own pr e n sz cs)) (hb:c.φ[id]? = some b) (hk:H[id]? = some (.cells ks)) (hj:off<ks.length) :
  ∃ c' v,a.tmps[u]? = some v∧v.oneCell'=true∧Sim c' N ⟨QI (.cell id off) (del u F),qo H id off (.own pr e n sz cs)⟩ a (w.setCell ⟨b,off,none⟩ v)∧Ext c w c' (w.setCell ⟨b,off,none⟩ v):=by
 obtain ⟨v,hv,h0,vs,h1,h2,h6,h3⟩:=h.fr u _ (QO hu)
 have s1:Sim c N ⟨QI (.cell id off) (del u F),qo H id off .any⟩ a w:=(h.sub fun p hp=>(QL (qaX (x:=p.2) (k:=p.1) hp).1).1).dim hk
 have hk1:(qo H id off .any)[id]? = some (.cells (ks.set off .any)):=by rw [qal hk,if_pos rfl]
 obtain ⟨hr,_⟩:=h.inv.blk id b _ hb hk
 have hset:∀ x,(qo H id off .any).set id (.cells ((ks.set off .any).set off x))=qo H id off x:=fun x=>by
  rw [zF hk,zF hk]
  simp
 rcases h2.2 with ⟨rfl,rfl⟩ | ⟨g,cap,cur,rfl,hb0,g1,g2,g3,g4,g5⟩
 ·obtain ⟨rfl,rfl⟩:=KU h1 h2
  have s2:=s1.store' (j:=off) (v := .slice none 0 0) (x := .own pr e 0 sz []) hb hk1 rfl rfl (qcn h0)
  rw [hset] at s2
  exact ⟨_,_,hv,rfl,s2,Ext.store c w (by rw [hr]; simp)⟩
 ·obtain ⟨k1,k2⟩:=h3 g rfl
  have hglt:=h.inv.lt g (by rw [k1]; simp)
  have hbg:b≠g:=by rintro rfl; rw [hr] at k1; cases k1
  have s2:Sim (c.give g (.cell id off)) N ⟨QI (.cell id off) (del u F),qo H id off .any⟩ a w:=by
   refine ⟨s1.inv.give hglt (qmu hk) (fun i=>by rw [k1]; simp) (fun i j hij=>by rw [k1] at hij; cases hij),s1.size,s1.defers,fun k x hx => ?_⟩
   obtain ⟨v',hv',hs⟩:=s1.fr k x hx
   have m1:=qaX hx
   have m2:=QL m1.1
   refine ⟨v',hv',hs.give (fun q hq hR => ?_) (by simp) m1.2⟩
   rw [k1] at hR
   cases hR
   rcases hq with hq | hq
   ·cases hq; exact m2.2.1 rfl
   ·rw [m2.2.2] at hq; cases hq
  have hx:QF (c.give g (.cell id off)) (w.setCell ⟨b,off,none⟩ (.slice (some ⟨g,0,none⟩) n cap)) (.cell id off) (.own pr e n sz cs) (.slice (some ⟨g,0,none⟩) n cap):=by
   refine ⟨h0,vs,h1,qfU h2 fun g' hg'=>ZQ (by cases hg'; exact Ne.symm hbg),h6,fun b' hb' => ?_⟩
   cases hb'
   exact ⟨YW,k2⟩
  have s3:=s2.store' (j:=off) (v := .slice (some ⟨g,0,none⟩) n cap) (x := .own pr e n sz cs) (show (c.give g (.cell id off)).φ[id]? = some b from hb) hk1 rfl rfl hx
  rw [hset] at s3
  exact ⟨_,_,hv,rfl,s3,(Ext.give c w (r := .cell id off) (b:=g) fun _=>by rw [k1]; simp).trans (Ext.store _ w (by rw [qmb hr hbg]; simp))⟩
end
def idle (P:Program) {α:Type}:Sem α→Option α
 | .pure a=>some a
 | .program k=>idle P (k P)
 | .mark _ k=>idle P k
 | _=>none
theorem qcT {P:Program} {α:Type} {s:Sem α} {a:α} (h:idle P s=some a) (w:World):s.run P w = .ok a w:=by
 induction s with
 | pure b=>simp only [idle,Option.some.injEq] at h; subst h; rfl
 | program k ih=>exact ih P h
 | mark m k ih=>exact ih h
 | _=>simp [idle] at h
theorem Wj {P:Program} {α β:Type} (s:Sem α) (f:α→Sem β):idle P (s >>= f)=(idle P s).bind fun a=>idle P (f a):=by
 show idle P (s.bind f)=_
 induction s with
 | pure b=>rfl
 | program k ih=>exact ih P
 | mark m k ih=>exact ih
 | _=>rfl
def eval (s:St):Operand→Option SV
 | .tmp t=>qm t s.F
 | .const v=>some (.v (V.ofValue v))
 | .func f=>some (.v (.fn (.func f) [] []))
 | .global _=>none
def zZ (s:St) (x:Operand):Option V:=match eval s x with
 | some (.v y)=>some y
 | _=>none
def valOf (s:St) (x:Operand):Option Value:=match eval s x with
 | some (.v y)=>y.exact
 | _=>none
inductive Use where
 | transfer
 | link
 | copy
def isT (d:Nat):Operand→Bool
 | .tmp t=>t==d
 | _=>false
def feeds (d:Nat) (o:Oper):Bool:=match o.op with
 | .call { callee := .builtin .append,args,.. }=>match args[0]? with
  | some x=>isT d x
  | none=>false
 | _=>false
def looks (d:Nat) (o:Oper):Bool:=match o.op with
 | .indexAddr _ x _=>isT d x
 | .call { callee := .builtin .len,args,.. }=>match args[0]? with
  | some x=>isT d x
  | none=>false
 | _=>false
def Qx (d:Option Tmp) (o:Oper):Bool:=match o.op with
 | .store _ _ (.tmp u)=>d==some u
 | _=>false
def shrinks (ops:List Oper) (d:Nat) (o:Oper):Bool:=match o.op with
 | .slice _ x none (some _) none=>bif isT d x then ops.any (Qx o.dst) else false
 | _=>false
def Qk (ops:List Oper) (d:Nat):Use:=bif ops.any (feeds d) then .transfer else bif ops.any (shrinks ops d) then .transfer else bif ops.any (Qx (some d)) then .transfer else bif ops.any (looks d) then .link else .copy
def ZI (d:Nat):SV→Bool
 | .v _=>true
 | .any=>true
 | .own .. => false
 | .pth r _ => !(r == .slot d)
 | .lnk r _ => !(r == .slot d)
def jR (N:Nat) (dst:Option Tmp) (x:SV) (s:St) (K:St→Prop):Prop:=match dst with
 | some d=>d<N∧ZI d x=true∧K ⟨vO d x s.F,s.H⟩
 | none=>K s
def Post (c:Cx) (w:World) (N:Nat) (K:St→Prop):Act→World→Prop:=fun a' w'=>∃ c' s',Sim c' N s' a' w'∧Ext c w c' w'∧K s'
def Agree (w w':World):Prop:=∀ b,b<w.heap.size→w'.heap[b]? = w.heap[b]?
theorem Agree.refl (w:World):Agree w w:=fun _ _=>rfl
theorem Agree.cell {w w':World} (h:Agree w w') {p:Addr} {v:Value} (hv:w.cell? p=some v):w'.cell? p=some v:=by
 rw [World.cell?_of_block (h p.block (World.block_lt_of_cell? w p hv))]; exact hv
section
variable {P:Program} {c:Cx} {N:Nat} {s:St} {a:Act} {w:World} {K:St→Prop}
theorem VA {x:Operand} {y:SV} (h:Sim c N s a w) (hx:eval s x=some y) (r:Root):(∃ t,x = .tmp t∧qm t s.F=some y∧a.tmps[t]? = some (a.eval x)∧QF c w (.slot t) y (a.eval x))∨(∃ z,y = .v z∧Rel c.I c.φ z (a.eval x)):=by
 cases x with
 | tmp t =>
  obtain ⟨v,hv,hr⟩:=h.fr t y (QO hx)
  have e:a.eval (.tmp t)=v:=by simp [Act.eval,hv]
  rw [e]
  exact .inl ⟨t,rfl,hx,hv,hr⟩
 | const v=>cases hx; exact .inr ⟨_,rfl,K5 v⟩
 | func f=>cases hx; exact .inr ⟨_,rfl,.fn (first' := #[]) (cap' := #[]) .nil .nil⟩
 | global g=>cases hx
theorem vD {x:Operand} {y:V} (h:Sim c N s a w) (hx:zZ s x=some y):Rel c.I c.φ y (a.eval x):=by
 unfold zZ at hx
 cases he:eval s x with
 | none=>rw [he] at hx; cases hx
 | some z =>
  rw [he] at hx
  cases z with
  | v z =>
   cases hx
   rcases VA h he (.slot 0) with ⟨t,_,_,_,hr⟩ | ⟨z',e,hr⟩
   ·exact hr
   ·cases e; exact hr
  | _=>cases hx
theorem Xd {x:Operand} {v:Value} (h:Sim c N s a w) (hx:valOf s x=some v):a.eval x=v:=by
 unfold valOf at hx
 cases he:eval s x with
 | none=>rw [he] at hx; cases hx
 | some z =>
  rw [he] at hx
  cases z with
  | v z =>
   rcases VA h he (.slot 0) with ⟨t,_,_,_,hr⟩ | ⟨z',e,hr⟩
   ·exact Rel.exact hr hx
   ·cases e; exact Rel.exact hr hx
  | _=>cases hx
theorem qiG {d:Nat} {x:SV} (h:ZI d x=true):Fit d x:=by
 cases x <;> first | trivial | (simp [ZI] at h; try exact h)
theorem vg {dst:Option Tmp} {x:SV} {v:Value} (h:Sim c N s a w) (hk:jR N dst x s K) (hx:∀ d,dst=some d→QF c w (.slot d) x v):Post c w N K (a.put dst v) w:=by
 cases dst with
 | none=>exact ⟨c,s,h,Ext.refl c w,hk⟩
 | some d =>
  obtain ⟨h1,h2,h3⟩:=hk
  exact ⟨_,_,Sim.put (F:=s.F) (H:=s.H) h h1 (qiG h2) (hx d rfl),Ext.free c w _,h3⟩
theorem Post.mono {K':St→Prop} {a':Act} {w':World} (h:Post c w N K a' w') (hk:∀ s,K s→K' s):Post c w N K' a' w':=by
 obtain ⟨c',s',h1,h2,h3⟩:=h
 exact ⟨c',s',h1,h2,hk _ h3⟩
def Zi:Op→Bool
 | .load .. => true
 | .lookup .. => true
 | .call { callee := .builtin .len,.. }=>true
 | _=>false
def Reads (P:Program) (o:Oper) (a:Act) (w:World) (Q:Act→World→Prop):Prop:=∃ v,(∀ w',(Zi o.op=true→Agree w w')→(execOp a.eval o).run P w' = .ok (.value v) w')∧Q (a.put o.dst v) w
def Qm (N:Nat) (ops:List Oper) (dst:Option Tmp) (x:Operand) (s:St) (K:St→Prop):Prop:=match eval s x with
 | some (.own pr e n sz cs)=>match x,dst with
  | .tmp u,some d=>d<N∧(u==d)=false∧(match Qk ops d with
   | .transfer=>K ⟨vO d (.own pr e n sz cs) (del u s.F),s.H⟩
   | .link=>K ⟨vO d (.lnk (.slot u) n) s.F,s.H⟩
   | .copy=>K ⟨vO d (.v (.sl n sz cs)) (yR u (.own false e n sz cs) s.F),s.H⟩)
  | _,_=>False
 | some x=>jR N dst x s K
 | none=>False
theorem qfT {r:Root} {pr:Bool} {e n sz:Nat} {cs:List V} {v:Value} (h:QF c w r (.own pr e n sz cs) v):∀ r',QF c w r' (.lnk r n) v:=by
 obtain ⟨h0,vs,h1,h2,h4,h3⟩:=h
 intro r'
 rcases h2.2 with ⟨rfl,rfl⟩ | ⟨g,cap,cur,rfl,_⟩
 ·exact .inl ⟨rfl,rfl⟩
 ·exact .inr ⟨g,cap,rfl,(h3 g rfl).1⟩
theorem QF.any_root {r r':Root} {x:SV} {v:Value} (h:QF c w r x v) (hx:∀ pr e n sz cs,x ≠ .own pr e n sz cs):QF c w r' x v:=by
 cases x with
 | own pr e n sz cs=>exact absurd rfl (hx pr e n sz cs)
 | _=>exact h
theorem JJ {x:Operand} {y:SV} (h:Sim c N s a w) (hx:eval s x=some y) (hy:∀ pr e n sz cs,y ≠ .own pr e n sz cs) (r:Root):QF c w r y (a.eval x):=by
 rcases VA h hx r with ⟨t,_,_,_,hr⟩ | ⟨z,rfl,hr⟩
 ·exact hr.any_root hy
 ·exact hr
theorem qnR {ops:List Oper} {dst:Option Tmp} {x:Operand} (h:Sim c N s a w) (hk:Qm N ops dst x s K):Post c w N K (a.put dst (a.eval x)) w:=by
 unfold Qm at hk
 cases he:eval s x with
 | none=>rw [he] at hk; exact hk.elim
 | some y =>
  rw [he] at hk
  cases y with
  | own pr e n sz cs =>
   rcases VA h he (.slot 0) with ⟨t,rfl,hg,hv,hr⟩ | ⟨z,e',_⟩
   ·cases dst with
    | none=>exact hk.elim
    | some d =>
     obtain ⟨h1,h2,h3⟩:=hk
     have hne:t≠d:=by simpa using h2
     cases hu:Qk ops d with
     | transfer =>
      simp only [hu] at h3
      obtain ⟨c',v,k1,k2,k3⟩:=Sim.hand (F:=s.F) (H:=s.H) h hg h1
      rw [hv] at k1
      cases k1
      exact ⟨_,_,k2,k3,h3⟩
     | link =>
      simp only [hu] at h3
      exact ⟨_,_,Sim.put (F:=s.F) (H:=s.H) h h1 (x := .lnk (.slot t) n) (fun e=>hne (by injection e)) (qfT hr _),Ext.free c w _,h3⟩
     | copy =>
      simp only [hu] at h3
      obtain ⟨c',v,k1,k2,k3,k4⟩:=Sim.share (F:=s.F) (H:=s.H) h hg
      rw [hv] at k1
      cases k1
      exact ⟨_,_,k3.put h1 (x := .v (.sl n sz cs)) trivial k2,k4.trans (Ext.free c' w _),h3⟩
   ·cases e'
  | v z=>exact vg h hk fun d _=>JJ h he (fun _ _ _ _ _ e=>by cases e) _
  | pth r o=>exact vg h hk fun d _=>JJ h he (fun _ _ _ _ _ e=>by cases e) _
  | lnk r o=>exact vg h hk fun d _=>JJ h he (fun _ _ _ _ _ e=>by cases e) _
  | any=>exact vg h hk fun d _=>JJ h he (fun _ _ _ _ _ e=>by cases e) _
def jC (N:Nat) (dst:Option Tmp) (x:Operand) (s:St) (K:St→Prop):Prop:=match eval s x with
 | some (.own pr e n sz cs)=>match x,dst with
  | .tmp u,some d=>d<N∧K ⟨vO d (.own pr e n sz cs) (del u s.F),s.H⟩
  | _,_=>False
 | some x=>jR N dst x s K
 | none=>False
theorem qln {dst:Option Tmp} {x:Operand} (h:Sim c N s a w) (hk:jC N dst x s K):Post c w N K (a.put dst (a.eval x)) w:=by
 unfold jC at hk
 cases he:eval s x with
 | none=>rw [he] at hk; exact hk.elim
 | some y =>
  rw [he] at hk
  cases y with
  | own pr e n sz cs =>
   rcases VA h he (.slot 0) with ⟨t,rfl,hg,hv,hr⟩ | ⟨z,e',_⟩
   ·cases dst with
    | none=>exact hk.elim
    | some d =>
     obtain ⟨h1,h3⟩:=hk
     obtain ⟨c',v,k1,k2,k3⟩:=Sim.hand (F:=s.F) (H:=s.H) h hg h1
     rw [hv] at k1
     cases k1
     exact ⟨_,_,k2,k3,h3⟩
   ·cases e'
  | v z=>exact vg h hk fun d _=>JJ h he (fun _ _ _ _ _ e=>by cases e) _
  | pth r o=>exact vg h hk fun d _=>JJ h he (fun _ _ _ _ _ e=>by cases e) _
  | lnk r o=>exact vg h hk fun d _=>JJ h he (fun _ _ _ _ _ e=>by cases e) _
  | any=>exact vg h hk fun d _=>JJ h he (fun _ _ _ _ _ e=>by cases e) _
def genB:Op→Bool
 | .pick .. | .binOp .. | .unOp .. | .convert .. | .makeInterface .. | .field .. | .index .. | .extract .. | .slice .. | .typeAssert .. | .build .. | .nilCheck _=>true
 | .call { callee := .builtin b,.. }=>match b with
  | .len | .cap | .min | .max=>true
  | _=>false
 | _=>false
def rho (s:St) (x:Operand):Value:=(valOf s x).getD undef
def qgN (P:Program) (s:St) (o:Oper):Option Value :=
 bif genB o.op&&o.op.operands.toList.all (fun x=>(valOf s x).isSome) then
  match idle P (execOp (rho s) o) with
  | some (.value v)=>some v
  | _=>none
 else none
theorem qnB {o:Oper} {v:Value} (h:Sim c N s a w) (hv:qgN P s o=some v) (w':World):(execOp a.eval o).run P w' = .ok (.value v) w':=by
 unfold qgN at hv
 cases hc:(genB o.op&&o.op.operands.toList.all (fun x=>(valOf s x).isSome)) with
 | false=>rw [hc] at hv; cases hv
 | true =>
  rw [hc] at hv
  simp only [Bool.and_eq_true,List.all_eq_true] at hc
  obtain ⟨h1,h2⟩:=hc
  have hs:∀ cs b,o.op ≠ .select cs b:=fun cs b e=>by rw [e] at h1; cases h1
  rw [execOp_congr o hs (ρ:=a.eval) (ρ':=rho s) fun x hx=>by
   have h3:=h2 x (by simpa using hx)
   cases hx':valOf s x with
   | none=>rw [hx'] at h3; cases h3
   | some u=>rw [Xd h hx']; simp [rho,hx']]
  simp only [cond_true] at hv
  cases hi:idle P (execOp (rho s) o) with
  | none=>rw [hi] at hv; cases hv
  | some n =>
   rw [hi] at hv
   cases n with
   | value u=>cases hv; exact qcT hi w'
   | _=>cases hv
theorem qnT {o:Oper} {v:Value} (h:Sim c N s a w) (hv:qgN P s o=some v) (hk:jR N o.dst (.v (.ofValue v)) s K):Reads P o a w (Post c w N K) :=
 ⟨v,fun w' _=>qnB h hv w',vg h hk fun _ _=>K5 v⟩
end
section
variable {P:Program} {c:Cx} {N:Nat} {s:St} {a:Act} {w:World} {K:St→Prop}
def yJ (P:Program) (t:TypeId):Option Bool:=match P.underlying t with
 | some (.struct _)=>some true
 | some (.array _ _)=>some true
 | some _=>some false
 | none=>none
def sizeT (P:Program) (t:TypeId):Option Nat:=(P.info? t).map (·.size)
theorem Vr {t:TypeId} {b:Bool} (h:yJ P t=some b) (w:World):(isAgg t).run P w = .ok b w:=by
 unfold yJ at h
 unfold isAgg underlying program
 cases hu:P.underlying t with
 | none=>rw [hu] at h; cases h
 | some d =>
  rw [hu] at h
  simp only [Sem.run_bind,Sem.run,Result.andThen_ok,hu]
  cases d <;> simp_all
theorem run_sizeOf {t:TypeId} {n:Nat} (h:sizeT P t=some n) (w:World):(sizeOf t).run P w = .ok n w:=by
 unfold sizeT at h
 unfold sizeOf typeInfo program
 cases hu:P.info? t with
 | none=>rw [hu] at h; cases h
 | some d =>
  rw [hu] at h
  simp only [Option.map_some,Option.some.injEq] at h
  simp only [Sem.run_bind,Sem.run,Result.andThen_ok,hu,Sem.run_pure,h]
theorem run_loadCellsFrom {b off:Nat}:∀ (n i:Nat) (acc:Array Value) (vs:List Value),vs.length=n→(∀ j u,vs[j]? = some u→w.cell? ⟨b,off+i+j,none⟩=some u)→(loadCellsFrom ⟨b,off,none⟩ i n acc).run P w = .ok (acc++vs.toArray) w
 | 0,i,acc,vs,hl,h=>by
  have:vs = []:=List.eq_nil_of_length_eq_zero hl
  subst this
  simp [loadCellsFrom]
 | n+1,i,acc,v::vs,hl,h=>by
  have h0:=h 0 v rfl
  have ih:=run_loadCellsFrom n (i+1) (acc.push v) vs (by simpa using hl) (fun j u hu=>by have:=h (j+1) u (by simpa using hu); rwa [show off+i+(j+1)=off+(i+1)+j by omega] at this)
  unfold loadCellsFrom
  have e:(load ((⟨b,off,none⟩:Addr).add i)).run P w = .ok v w:=by
   have ea:(⟨b,off,none⟩:Addr).add i=⟨b,off+i,none⟩:=by
    unfold Addr.add
    split
    ·subst_vars; rfl
    ·rfl
   rw [ea]
   simp only [Nat.add_zero] at h0
   simp [load,Sem.run,h0]
  rw [Sem.run_bind,e,Result.andThen_ok,ih]
  simp
 | n+1,i,acc,[],hl,h=>by simp at hl
def ldV (agg:Bool) (n:Nat) (cs:List V):Option V:=bif agg then (bif Nat.ble n cs.length then some (.agg (cs.take n)) else none) else cs.head?
theorem qbH {t:TypeId} {agg:Bool} {n b off:Nat} {cs:List V} {vs:List Value} {y:V} (ha:yJ P t=some agg) (hn:sizeT P t=some n) (hr:vM c.I c.φ cs vs) (hc:∀ j u,vs[j]? = some u→w.cell? ⟨b,off+j,none⟩=some u)
  (hy:ldV agg n cs=some y):∃ v,Rel c.I c.φ y v∧∀ w',Agree w w'→(Instr.loadAt t (.pointer (some ⟨b,off,none⟩))).run P w' = .ok v w':=by
 unfold ldV at hy
 cases agg with
 | true =>
  simp only [cond_true] at hy
  cases hle:Nat.ble n cs.length with
  | false=>rw [hle] at hy; cases hy
  | true =>
   rw [hle] at hy
   cases hy
   have hle:n≤cs.length:=Nat.le_of_ble_eq_true hle
   refine ⟨.agg (vs.take n).toArray,.agg (by simpa using hr.take n),fun w' hw => ?_⟩
   have h1:=run_loadCellsFrom (P:=P) (w:=w') (b:=b) (off:=off) n 0 #[] (vs.take n) (by rw [List.length_take,← hr.len]; omega) (fun j u hu=>by
    rw [List.getElem?_take] at hu
    split at hu
    ·exact hw.cell (hc j u hu)
    ·cases hu)
   simp only [Instr.loadAt,Instr.sureAddr,Sem.run_bind,Sem.run_pure,Result.andThen_ok,loadVar,Vr ha,if_true,run_sizeOf hn,loadCells,h1,Array.empty_append]
 | false =>
  simp only [cond_false] at hy
  cases cs with
  | nil=>cases hy
  | cons x xs =>
   cases hy
   cases hr with
   | cons h1 h2 =>
    rename_i v vs
    refine ⟨v,h1,fun w' hw => ?_⟩
    have h3:=hw.cell (hc 0 v rfl)
    simp only [Nat.add_zero] at h3
    simp only [Instr.loadAt,Instr.sureAddr,Sem.run_bind,Sem.run_pure,Result.andThen_ok,loadVar,Vr ha,Bool.false_eq_true,if_false]
    simp [load,Sem.run,h3]
def zK (N:Nat) (ops:List Oper) (dst:Option Tmp) (p:SV) (s:St) (K:St→Prop):Prop:=match p,dst with
 | .v (.ptr id off),some d=>match s.H[id]? with
  | some (.cells ks)=>match ks[off]? with
   | some (.own pr e n sz cs)=>d<N∧(match Qk ops d with
    | .transfer=>K ⟨vO d (.own pr e n sz cs) (QI (.cell id off) s.F),qo s.H id off .any⟩
    | .link=>K ⟨vO d (.lnk (.cell id off) n) s.F,s.H⟩
    | .copy=>K ⟨vO d (.v (.sl n sz cs)) s.F,qo s.H id off (.own false e n sz cs)⟩)
   | _=>False
  | _=>False
 | _,_=>False
def jh:SV→Option V
 | .v x=>some (match x with
  | .fs n sz cs => .sl n sz cs
  | x=>x)
 | .own false _ n sz cs=>some (.sl n sz cs)
 | _=>none
def shares:List SV→List V
 | [] => []
 | x::xs=>match jh x with
  | some y=>y::shares xs
  | none => []
theorem own_sl {r:Root} {e n sz:Nat} {cs:List V} {v:Value} (h:QF c w r (.own false e n sz cs) v):Rel c.I c.φ (.sl n sz cs) v:=by
 obtain ⟨h0,vs,h1,h2,h4,h3⟩:=h
 rcases h2.2 with ⟨rfl,rfl⟩ | ⟨g,cap,cur,rfl,_,g1,g2,g3,g4,g5⟩
 ·obtain ⟨rfl,rfl⟩:=KU h1 h2
  exact .sl0
 ·refine .sl h1 (fun j u hu => ?_) (by rw [h1.len,h2.1]) g2 g3 h4
  have:=(h3 g rfl).2 j
  rw [Nat.zero_add]
  rw [this]
  simpa using hu
theorem qnv {I:Nat→Nat→Option Value} {φ:List Nat} {n sz:Nat} {cs:List V} {v:Value} (h:Rel I φ (.fs n sz cs) v):Rel I φ (.sl n sz cs) v:=by
 cases h with
 | fs h1 h2 h3 h4 h5=>exact .sl h1 h2 h3 (Nat.le_refl _) h4 h5
 | fs0=>exact .sl0
theorem qlI {r:Root} {x:SV} {y:V} {v:Value} (h:QF c w r x v) (hx:jh x=some y):Rel c.I c.φ y v:=by
 cases x with
 | v x =>
  simp only [jh,Option.some.injEq] at hx
  subst hx
  split
  ·exact qnv h
  ·exact h
 | own pr e n sz cs =>
  cases pr with
  | true=>cases hx
  | false =>
   cases hx
   exact own_sl h
 | _=>cases hx
theorem qh5:∀ {xs:List SV} {j:Nat} {y:V},(shares xs)[j]? = some y→∃ x,xs[j]? = some x∧jh x=some y
 | [],j,y,h=>by simp [shares] at h
 | x::xs,j,y,h=>by
  unfold shares at h
  cases hx:jh x with
  | none=>rw [hx] at h; simp at h
  | some z =>
   rw [hx] at h
   cases j with
   | zero=>simp at h; subst h; exact ⟨x,rfl,hx⟩
   | succ j=>simpa using qh5 (xs:=xs) (by simpa using h)
theorem qh4:∀ {xs:List SV},(shares xs).length≤xs.length
 | []=>by simp [shares]
 | x::xs=>by
  unfold shares
  cases jh x with
  | none=>simp
  | some z=>simpa using qh4
def zA (H:List Bk) (p:SV):Option (List V):=match p with
 | .v (.ptr id off)=>match H[id]? with
  | some (.cells ks)=>some (shares (ks.drop off))
  | _=>none
 | _=>none
theorem qhb {s:St} {p:SV} {r:Root} {v:Value} {cs:List V} (h:Sim c N s a w) (hp:QF c w r p v) (hc:zA s.H p=some cs) :
  ∃ b off vs,v = .pointer (some ⟨b,off,none⟩)∧vM c.I c.φ cs vs∧(∀ j u,vs[j]? = some u→w.cell? ⟨b,off+j,none⟩=some u)∧∀ u∈vs,u.oneCell'=true:=by
 unfold zA at hc
 split at hc
 ·rename_i id off
  split at hc
  ·rename_i ks hk
   cases hc
   cases hp with
   | @ptr _ _ b hb =>
    obtain ⟨_,_,arr,e,g1,g2,g6,g3⟩:=h.inv.blk id b _ hb hk
    have hlen:(shares (ks.drop off)).length≤arr.size - off:=by
     rw [g2]
     have:=qh4 (xs:=ks.drop off)
     simpa using this
    refine ⟨b,off,(arr.toList.drop off).take (shares (ks.drop off)).length,rfl,?_,fun j u hu => ?_,fun u hu=>g6 u (List.mem_of_mem_drop (List.mem_of_mem_take hu))⟩
    ·refine .qdo (by simp; omega) fun j x v hx hv => ?_
     obtain ⟨y,h1,h2⟩:=qh5 hx
     rw [List.getElem?_drop] at h1
     rw [List.getElem?_take] at hv
     split at hv
     ·rw [List.getElem?_drop] at hv
      exact qlI (g3 (off+j) _ v h1 (by simpa using hv)).2 h2
     ·cases hv
    ·rw [List.getElem?_take] at hu
     split at hu
     ·rw [List.getElem?_drop] at hu
      simp [World.cell?,g1]
      simpa using hu
     ·cases hu
  ·cases hc
 ·cases hc
def yx (N:Nat) (dst:Option Tmp) (n:Nat) (p:SV) (s:St) (K:St→Prop):Prop:=match zA s.H p with
 | some cs=>match ldV true n cs with
  | some y=>jR N dst (.v y) s K
  | none=>False
 | none=>False
def Qo (P:Program) (N:Nat) (ops:List Oper) (dst:Option Tmp) (t:TypeId) (x:Operand) (s:St) (K:St→Prop):Prop:=match eval s x,yJ P t,sizeT P t with
 | some p,some agg,some n=>match zY s p with
  | some cs=>match ldV agg n cs with
   | some y=>jR N dst (.v y) s K
   | none=>bif agg then yx N dst n p s K else zK N ops dst p s K
  | none=>False
 | _,_,_=>False
theorem eval_ptr {x:Operand} {p:SV} {cs:List V} (h:Sim c N s a w) (hx:eval s x=some p) (hc:zY s p=some cs) :
  ∃ b off vs,a.eval x = .pointer (some ⟨b,off,none⟩)∧vM c.I c.φ cs vs∧(∀ j u,vs[j]? = some u→w.cell? ⟨b,off+j,none⟩=some u)∧∀ u∈vs,u.oneCell'=true:=by
 rcases VA h hx (.slot 0) with ⟨t,_,_,_,hr⟩ | ⟨z,rfl,hr⟩
 ·exact qbL h hr hc
 ·exact qbL (r := .slot 0) (p := .v z) h hr hc
theorem qmF {o:Oper} {t:TypeId} {x:Operand} {ops:List Oper} (ho:o.op = .load t x) (h:Sim c N s a w) (hk:Qo P N ops o.dst t x s K):Reads P o a w (Post c w N K):=by
 unfold Qo at hk
 cases he:eval s x with
 | none=>rw [he] at hk; exact hk.elim
 | some p =>
  cases ha:yJ P t with
  | none=>rw [he,ha] at hk; exact hk.elim
  | some agg =>
   cases hn:sizeT P t with
   | none=>rw [he,ha,hn] at hk; exact hk.elim
   | some n =>
    rw [he,ha,hn] at hk
    simp only at hk
    cases hc:zY s p with
    | none=>rw [hc] at hk; exact hk.elim
    | some cs =>
     rw [hc] at hk
     simp only at hk
     obtain ⟨b,off,vs,h1,h2,h3,_⟩:=eval_ptr h he hc
     cases hl:ldV agg n cs with
     | some y =>
      rw [hl] at hk
      obtain ⟨v,h4,h5⟩:=qbH (P:=P) ha hn h2 h3 hl
      refine ⟨v,fun w' hw => ?_,vg h hk fun _ _=>h4⟩
      have hw:=hw (by rw [ho]; rfl)
      unfold execOp
      simp only [ho,h1,Sem.run_bind,h5 w' hw,Result.andThen_ok,Sem.run_pure]
     | none =>
      rw [hl] at hk
      cases agg with
      | true =>
       simp only [cond_true] at hk
       unfold yx at hk
       cases hsh:zA s.H p with
       | none=>rw [hsh] at hk; exact hk.elim
       | some cs2 =>
        rw [hsh] at hk
        simp only at hk
        cases hl2:ldV true n cs2 with
        | none=>rw [hl2] at hk; exact hk.elim
        | some y =>
         rw [hl2] at hk
         have hq:∃ r,QF c w r p (a.eval x):=by
          rcases VA h he (.slot 0) with ⟨t,_,_,_,hr⟩ | ⟨z,rfl,hr⟩
          ·exact ⟨_,hr⟩
          ·exact ⟨.slot 0,hr⟩
         obtain ⟨r,hq⟩:=hq
         obtain ⟨b',off',vs',e1,e2,e3,_⟩:=qhb h hq hsh
         obtain ⟨v,h4,h5⟩:=qbH (P:=P) ha hn e2 e3 hl2
         refine ⟨v,fun w' hw => ?_,vg h hk fun _ _=>h4⟩
         have hw:=hw (by rw [ho]; rfl)
         unfold execOp
         simp only [ho,e1,Sem.run_bind,h5 w' hw,Result.andThen_ok,Sem.run_pure]
      | false =>
      simp only [cond_false] at hk
      unfold zK at hk
      cases p with
      | v z =>
       cases z with
       | ptr id off =>
        cases hd:o.dst with
        | none=>rw [hd] at hk; exact hk.elim
        | some d =>
         rw [hd] at hk
         simp only at hk
         cases hk':s.H[id]? with
         | none=>rw [hk'] at hk; exact hk.elim
         | some blk =>
          by_cases hck:∃ cs,blk = .cells cs
          rotate_left
          ·rw [hk'] at hk; cases blk <;> first | exact absurd ⟨_,rfl⟩ hck | cases hk | exact hk.elim
          obtain ⟨ks,rfl⟩:=hck
          rw [hk'] at hk
          simp only at hk
          cases hj:ks[off]? with
          | none=>rw [hj] at hk; exact hk.elim
          | some y =>
           cases y with
           | own pr e n' sz cs' =>
            rw [hj] at hk
            obtain ⟨h6,h7⟩:=hk
            have hp:Rel c.I c.φ (.ptr id off) (a.eval x):=by
             rcases VA h he (.slot 0) with ⟨t,_,_,_,hr⟩ | ⟨z,e',hr⟩
             ·exact hr
             ·cases e'; exact hr
            rw [h1] at hp
            cases hp with
            | ptr hb =>
             have run:∀ u w',Agree w w'→w.cell? ⟨b,off,none⟩=some u→(execOp a.eval o).run P w' = .ok (.value u) w':=by
              intro u w' hw hu
              have h8:=hw.cell hu
              unfold execOp
              simp only [ho,h1,Instr.loadAt,Instr.sureAddr,Sem.run_bind,Sem.run_pure,Result.andThen_ok,loadVar,Vr ha,Bool.false_eq_true,if_false]
              simp [load,Sem.run,h8]
             unfold Reads
             rw [hd]
             cases hu:Qk ops d with
             | transfer =>
              simp only [hu] at h7
              obtain ⟨c',u,k1,k2,k3⟩:=Sim.take (F:=s.F) (H:=s.H) h hb hk' hj h6
              exact ⟨u,fun w' hw=>run _ w' (hw (by rw [ho]; rfl)) k1,_,_,k2,k3,h7⟩
             | link =>
              simp only [hu] at h7
              obtain ⟨_,_,arr,e',g1,g2,_,g3⟩:=h.inv.blk id b _ hb hk'
              have hlt:off<arr.size:=by rw [g2]; exact (List.getElem?_eq_some_iff.1 hj).1
              have hcell:w.cell? ⟨b,off,none⟩=some arr[off]:=by simp [World.cell?,g1,hlt]
              exact ⟨_,fun w' hw=>run _ w' (hw (by rw [ho]; rfl)) hcell,_,_,Sim.put (F:=s.F) (H:=s.H) h h6 (x := .lnk (.cell id off) n') (fun e=>by cases e) (qfT (g3 off _ _ hj (Array.getElem?_eq_getElem hlt)).2 _),Ext.free c w _,h7⟩
             | copy =>
              simp only [hu] at h7
              obtain ⟨c',u,k1,k2,k3,k4,_⟩:=Sim.qgm (F:=s.F) (H:=s.H) h hb hk' hj
              exact ⟨u,fun w' hw=>run _ w' (hw (by rw [ho]; rfl)) k1,_,_,k3.put h6 (x := .v (.sl n' sz cs')) trivial k2,k4.trans (Ext.free c' w _),h7⟩
           | _=>rw [hj] at hk; exact hk.elim
       | _=>exact hk.elim
      | _=>exact hk.elim
def shift (x:SV) (o:Nat):Option SV:=match x with
 | .v (.ptr id off)=>some (.v (.ptr id (off+o)))
 | .v (.rd cs)=>some (.v (.rd (cs.drop o)))
 | .pth r off=>some (.pth r (off+o))
 | _=>none
theorem qbp {x y:SV} {o:Nat} {r:Root} {v:Value} (h:QF c w r x v) (hs:shift x o=some y):∃ b off,v = .pointer (some ⟨b,off,none⟩)∧∀ r',QF c w r' y (.pointer (some ⟨b,off+o,none⟩)):=by
 unfold shift at hs
 split at hs
 ·cases hs
  cases h with
  | ptr hb=>exact ⟨_,_,rfl,fun _ => .ptr hb⟩
 ·cases hs
  cases h with
  | rd h1 h2 h3=>exact ⟨_,_,rfl,fun _=>Rel.rd (h1.drop o) (fun j u hu=>by rw [List.getElem?_drop] at hu; have:=h2 _ u hu; rwa [← Nat.add_assoc] at this) (fun u hu=>h3 u (List.mem_of_mem_drop hu))⟩
 ·cases hs
  obtain ⟨b,rfl,hb⟩:=h
  exact ⟨b,_,rfl,fun _=>⟨b,rfl,hb⟩⟩
 ·cases hs
def qC (P:Program) (t:TypeId) (f:Nat):Option Nat:=match P.underlying t with
 | some (.struct fs)=>match fs[f]? with
  | some fd=>match sizeT P fd.type with
   | some (_+1)=>some fd.offset
   | _=>none
  | none=>none
 | _=>none
def qM (P:Program) (N:Nat) (dst:Option Tmp) (t:TypeId) (x:Operand) (f:Nat) (s:St) (K:St→Prop):Prop:=match eval s x,qC P t f with
 | some p,some o=>match shift p o with
  | some y=>jR N dst y s K
  | none=>False
 | _,_=>False
theorem add_eq (b off n:Nat):(⟨b,off,none⟩:Addr).add n=⟨b,off+n,none⟩:=by
 unfold Addr.add
 split
 ·subst_vars; rfl
 ·rfl
theorem qX {t:TypeId} {d:TypeDesc} (h:P.underlying t=some d) (w:World):(underlying t).run P w = .ok d w:=by
 unfold underlying program
 simp only [Sem.run_bind,Sem.run,Result.andThen_ok,h,Sem.run_pure]
theorem qiL {x:Operand} {p y:SV} {o:Nat} (h:Sim c N s a w) (hx:eval s x=some p) (hs:shift p o=some y):∃ b off,a.eval x = .pointer (some ⟨b,off,none⟩)∧∀ r',QF c w r' y (.pointer (some ⟨b,off+o,none⟩)):=by
 rcases VA h hx (.slot 0) with ⟨t,_,_,_,hr⟩ | ⟨z,rfl,hr⟩
 ·exact qbp hr hs
 ·exact qbp (r := .slot 0) (x := .v z) hr hs
theorem qgY {o:Oper} {t:TypeId} {x:Operand} {f:Nat} (ho:o.op = .fieldAddr t x f) (h:Sim c N s a w) (hk:qM P N o.dst t x f s K):Reads P o a w (Post c w N K):=by
 unfold qM at hk
 cases he:eval s x with
 | none=>rw [he] at hk; exact hk.elim
 | some p =>
  cases hf:qC P t f with
  | none=>rw [he,hf] at hk; exact hk.elim
  | some off =>
   rw [he,hf] at hk
   simp only at hk
   cases hs:shift p off with
   | none=>rw [hs] at hk; exact hk.elim
   | some y =>
    rw [hs] at hk
    obtain ⟨b,o',h1,h2⟩:=qiL h he hs
    refine ⟨_,fun w' _ => ?_,vg h hk fun d _=>h2 _⟩
    unfold qC at hf
    cases hu:P.underlying t with
    | none=>rw [hu] at hf; cases hf
    | some d =>
     cases d with
     | struct fs =>
      rw [hu] at hf
      simp only at hf
      cases hfd:fs[f]? with
      | none=>rw [hfd] at hf; cases hf
      | some fd =>
       rw [hfd] at hf
       simp only at hf
       cases hsz:sizeT P fd.type with
       | none=>rw [hsz] at hf; cases hf
       | some n =>
        rw [hsz] at hf
        cases n with
        | zero=>cases hf
        | succ n =>
         cases hf
         unfold execOp
         simp only [ho,h1,Instr.fieldAt,Sem.run_bind,qX hu,Result.andThen_ok,hfd,Instr.sureAddr,Sem.run_pure,fieldPlace,run_sizeOf hsz]
         simp [add_eq]
     | _=>rw [hu] at hf; cases hf
def rowAt (sz:Nat) (cs:List V) (i:Int):List V:=(cs.drop (i.toNat*sz)).take sz
def qL (P:Program) (N:Nat) (dst:Option Tmp) (t:TypeId) (x ix:Operand) (s:St) (K:St→Prop):Prop:=match eval s x,zZ s ix with
 | some p,some (.sc (.int _ i))=>match P.underlying t with
  | some (.slice e)=>match p with
   | .v (.sl n sz cs)=>sizeT P e=some sz∧(0≤i∧i<n)∧jR N dst (.v (.rd (rowAt sz cs i))) s K
   | .v (.slb id o n _)=>match sizeT P e with
    | some sz=>(0≤i∧i<n)∧jR N dst (.v (.ptr id (o+i.toNat*sz))) s K
    | none=>False
   | .lnk r n=>match sizeT P e with
    | some sz=>(0≤i∧i<n)∧jR N dst (.pth r (i.toNat*sz)) s K
    | none=>False
   | _=>False
  | some (.array n e)=>match sizeT P e with
   | some sz=>match shift p (i.toNat*sz) with
    | some y=>(0≤i∧i<n)∧jR N dst y s K
    | none=>False
   | none=>False
  | _=>False
 | _,_=>False
theorem run_indexAt {t e:TypeId} {b off n cap sz:Nat} {k:IntKind} {i:Int} (hu:P.underlying t=some (.slice e)) (hs:sizeT P e=some sz) (h0:0≤i) (h1:i<n) (w:World) :
  (Instr.indexAt t (.slice (some ⟨b,off,none⟩) n cap) (.int k i)).run P w = .ok (.pointer (some ⟨b,off+i.toNat*sz,none⟩)) w:=by
 simp only [Instr.indexAt,asIntOf,Sem.run_bind,Sem.run_pure,Result.andThen_ok,qX hu,h0,h1,and_self,if_true,run_sizeOf hs,add_eq]
theorem qdD {t e:TypeId} {b off n sz:Nat} {k:IntKind} {i:Int} (hu:P.underlying t=some (.array n e)) (hs:sizeT P e=some sz) (h0:0≤i) (h1:i<n) (w:World) :
  (Instr.indexAt t (.pointer (some ⟨b,off,none⟩)) (.int k i)).run P w = .ok (.pointer (some ⟨b,off+i.toNat*sz,none⟩)) w:=by
 simp only [Instr.indexAt,asIntOf,Sem.run_bind,Sem.run_pure,Result.andThen_ok,qX hu,Instr.sureAddr,h0,h1,and_self,if_true,run_sizeOf hs,add_eq]
theorem qgX {o:Oper} {t:TypeId} {x ix:Operand} (ho:o.op = .indexAddr t x ix) (h:Sim c N s a w) (hk:qL P N o.dst t x ix s K):Reads P o a w (Post c w N K):=by
 unfold qL at hk
 cases he:eval s x with
 | none=>rw [he] at hk; exact hk.elim
 | some p =>
  cases hi:zZ s ix with
  | none=>rw [he,hi] at hk; exact hk.elim
  | some z =>
   have hiv:=vD h hi
   rw [he,hi] at hk
   cases z with
   | sc u =>
    cases u with
    | int kd i =>
     have hix:a.eval ix = .int kd i:=Rel.exact hiv rfl
     simp only at hk
     cases hu:P.underlying t with
     | none=>rw [hu] at hk; exact hk.elim
     | some d =>
      rw [hu] at hk
      cases d with
      | slice e =>
       simp only at hk
       cases p with
       | v q =>
        cases q with
        | sl n sz cs =>
         obtain ⟨h1,⟨h2,h3⟩,h4⟩:=hk
         have hr:Rel c.I c.φ (.sl n sz cs) (a.eval x):=by
          rcases VA h he (.slot 0) with ⟨t,_,_,_,hr⟩ | ⟨z,e',hr⟩
          ·exact hr
          ·cases e'; exact hr
         generalize hv:a.eval x=v at hr
         cases hr with
         | sl r1 r2 r3 r4 r5 r6 =>
          rename_i vs b off cap
          refine ⟨_,fun w' _ => ?_,vg h h4 (v := .pointer (some ⟨b,off+i.toNat*sz,none⟩)) fun d _ => ?_⟩
          ·unfold execOp
           simp only [ho,hv,hix,Sem.run_bind,run_indexAt hu h1 h2 h3,Result.andThen_ok,Sem.run_pure]
          ·refine Rel.rd ((r1.drop _).take _) (fun j u hu => ?_) (fun u hu=>r6 u (List.mem_of_mem_drop (List.mem_of_mem_take hu)))
           rw [List.getElem?_take] at hu
           split at hu
           ·rw [List.getElem?_drop] at hu
            rw [Nat.add_assoc]
            exact r2 _ u hu
           ·cases hu
         | sl0=>omega
        | slb id o n cap =>
         simp only at hk
         cases hs:sizeT P e with
         | none=>rw [hs] at hk; exact hk.elim
         | some sz =>
          rw [hs] at hk
          obtain ⟨⟨h2,h3⟩,h4⟩:=hk
          have hr:Rel c.I c.φ (.slb id o n cap) (a.eval x):=by
           rcases VA h he (.slot 0) with ⟨t,_,_,_,hr⟩ | ⟨z,e',hr⟩
           ·exact hr
           ·cases e'; exact hr
          generalize hv:a.eval x=v at hr
          cases hr with
          | slb0=>omega
          | @slb _ _ _ _ b hb _ _ =>
           refine ⟨_,fun w' _ => ?_,vg h h4 (v := .pointer (some ⟨b,o+i.toNat*sz,none⟩)) fun d _=>Rel.ptr hb⟩
           unfold execOp
           simp only [ho,hv,hix,Sem.run_bind,run_indexAt hu hs h2 h3,Result.andThen_ok,Sem.run_pure]
        | _=>exact hk.elim
       | lnk r n =>
        simp only at hk
        cases hs:sizeT P e with
        | none=>rw [hs] at hk; exact hk.elim
        | some sz =>
         rw [hs] at hk
         obtain ⟨⟨h2,h3⟩,h4⟩:=hk
         have hr:=JJ h he (fun _ _ _ _ _ e=>by cases e) (.slot 0)
         rcases hr with ⟨_,rfl⟩ | ⟨b,cap,hv,hb⟩
         ·omega
         ·refine ⟨_,fun w' _ => ?_,vg h h4 (v := .pointer (some ⟨b,0+i.toNat*sz,none⟩)) fun d _=>⟨b,by rw [Nat.zero_add],hb⟩⟩
          unfold execOp
          simp only [ho,hv,hix,Sem.run_bind,run_indexAt hu hs h2 h3,Result.andThen_ok,Sem.run_pure]
       | _=>exact hk.elim
      | array n e =>
       simp only at hk
       cases hs:sizeT P e with
       | none=>rw [hs] at hk; exact hk.elim
       | some sz =>
        rw [hs] at hk
        simp only at hk
        cases hsh:shift p (i.toNat*sz) with
        | none=>rw [hsh] at hk; exact hk.elim
        | some y =>
         rw [hsh] at hk
         obtain ⟨⟨h2,h3⟩,h4⟩:=hk
         obtain ⟨b,o',h1,h5⟩:=qiL h he hsh
         refine ⟨_,fun w' _ => ?_,vg h h4 fun d _=>h5 _⟩
         unfold execOp
         simp only [ho,h1,hix,Sem.run_bind,qdD hu hs h2 h3,Result.andThen_ok,Sem.run_pure]
      | _=>exact hk.elim
    | _=>exact hk.elim
   | _=>exact hk.elim
end
section
variable {P:Program} {c:Cx} {N:Nat} {s:St} {a:Act} {w:World} {K:St→Prop}
def qY (N:Nat) (dst:Option Tmp) (x:Operand) (s:St) (K:St→Prop):Prop:=match eval s x with
 | some (.v (.ptr id off))=>jR N dst (.v (.ptr id off)) s K
 | some (.v (.rd cs))=>jR N dst (.v (.rd cs)) s K
 | some (.pth r off)=>jR N dst (.pth r off) s K
 | some (.v (.fn (.func f) first cap))=>jR N dst (.v (.fn (.func f) first cap)) s K
 | some (.v (.iface t v))=>jR N dst (.v (.iface t v)) s K
 | _=>False
theorem qhz {o:Oper} {x:Operand} (ho:o.op = .nilCheck x) (h:Sim c N s a w) (hk:qY N o.dst x s K):Reads P o a w (Post c w N K):=by
 unfold qY at hk
 split at hk
 ·rename_i id off he
  have hr:=JJ h he (fun _ _ _ _ _ e=>by cases e) (.slot 0)
  generalize hv:a.eval x=v at hr
  cases hr with
  | ptr hb =>
   refine ⟨_,fun w' _ => ?_,vg h hk fun _ _=>Rel.ptr hb⟩
   unfold execOp
   simp only [ho,hv,Sem.run_pure]
 ·rename_i cs he
  have hr:=JJ h he (fun _ _ _ _ _ e=>by cases e) (.slot 0)
  generalize hv:a.eval x=v at hr
  cases hr with
  | rd h1 h2 h3 =>
   refine ⟨_,fun w' _ => ?_,vg h hk fun _ _=>Rel.rd h1 h2 h3⟩
   unfold execOp
   simp only [ho,hv,Sem.run_pure]
 ·rename_i r off he
  have hr:=JJ h he (fun _ _ _ _ _ e=>by cases e) (.slot 0)
  obtain ⟨b,hv,hb⟩:=hr
  refine ⟨_,fun w' _ => ?_,vg h hk (v := .pointer (some ⟨b,off,none⟩)) fun _ _=>⟨b,rfl,hb⟩⟩
  unfold execOp
  simp only [ho,hv,Sem.run_pure]
 ·rename_i f first cap he
  have hr:=JJ h he (fun _ _ _ _ _ e=>by cases e) (.slot 0)
  generalize hv:a.eval x=v at hr
  cases hr with
  | fn h1 h2 =>
   refine ⟨_,fun w' _ => ?_,vg h hk fun _ _=>Rel.fn h1 h2⟩
   unfold execOp
   simp only [ho,hv,Sem.run_pure]
 ·rename_i t y he
  have hr:=JJ h he (fun _ _ _ _ _ e=>by cases e) (.slot 0)
  generalize hv:a.eval x=v at hr
  cases hr with
  | iface h1 =>
   refine ⟨_,fun w' _ => ?_,vg h hk fun _ _=>Rel.iface h1⟩
   unfold execOp
   simp only [ho,hv,Sem.run_pure]
 ·exact hk.elim
def Qr (t:Bool) (x y:V):V:=match x,y with
 | .sc (.bool a),.sc (.bool b) => .sc (.bool (bif t then a else b))
 | .sc (.int k a),.sc (.int k' b)=>bif k==k' then .sc (.int k (bif t then a else b)) else (bif t then x else y)
 | _,_=>bif t then x else y
theorem qo5 {I:Nat→Nat→Option Value} {φ:List Nat} {t:Bool} {x y:V} {u v:Value} (hx:Rel I φ x u) (hy:Rel I φ y v):Rel I φ (Qr t x y) (if t then u else v):=by
 unfold Qr
 split
 ·cases hx; cases hy; cases t <;> exact .sc _
 ·rename_i k a k' b
  cases hx; cases hy
  cases hk:k==k' with
  | true =>
   have:k=k':=by simpa using hk
   subst this
   cases t <;> exact .sc _
  | false=>cases t <;> exact .sc _
 ·cases t
  ·exact hy
  ·exact hx
def Ql (N:Nat) (dst:Option Tmp) (x y z:Operand) (s:St) (K:St→Prop):Prop:=match zZ s x,zZ s y,zZ s z with
 | some (.sc (.bool t)),some u,some v=>jR N dst (.v (Qr t u v)) s K
 | _,_,_=>False
theorem qmE {o:Oper} {x y z:Operand} (ho:o.op = .pick x y z) (h:Sim c N s a w) (hk:Ql N o.dst x y z s K):Reads P o a w (Post c w N K):=by
 unfold Ql at hk
 split at hk
 ·rename_i t u v hx hy hz
  have h1:a.eval x = .bool t:=Rel.exact (vD h hx) rfl
  refine ⟨if t then a.eval y else a.eval z,fun w' _ => ?_,vg h hk fun _ _=>qo5 (vD h hy) (vD h hz)⟩
  unfold execOp
  simp only [ho,h1,asBool,Sem.run_bind,Sem.run_pure,Result.andThen_ok]
 ·exact hk.elim
def Qe (P:Program) (t:TypeId) (cs:List V) (off:Nat):Option V:=match yJ P t,sizeT P t with
 | some true,some n=>bif Nat.ble (off+n) cs.length then some (.agg ((cs.drop off).take n)) else none
 | some false,some _=>cs[off]?
 | _,_=>none
theorem qlM {t:TypeId} {cs:List V} {off:Nat} {y:V} {vs:Array Value} (hr:vM c.I c.φ cs vs.toList) (hy:Qe P t cs off=some y):∃ v,Rel c.I c.φ y v∧∀ w,(part t vs off).run P w = .ok v w:=by
 unfold Qe at hy
 split at hy
 ·rename_i n ha hn
  cases hle:Nat.ble (off+n) cs.length with
  | false=>rw [hle] at hy; cases hy
  | true =>
   rw [hle] at hy
   cases hy
   have hle:=Nat.le_of_ble_eq_true hle
   refine ⟨.agg (vs.extract off (off+n)),.agg ?_,fun w => ?_⟩
   ·have:=(hr.drop off).take n
    simpa [List.extract,Array.toList_extract] using this
   ·simp only [part,Sem.run_bind,Vr ha,Result.andThen_ok,if_true,run_sizeOf hn,Sem.run_pure]
 ·rename_i n ha hn
  obtain ⟨v,hv,h1⟩:=hr.get hy
  refine ⟨v,h1,fun w => ?_⟩
  have hv:vs[off]? = some v:=by simpa using hv
  simp only [part,Sem.run_bind,Vr ha,Result.andThen_ok,Bool.false_eq_true,if_false,hv,Sem.run_pure]
 ·cases hy
def vX (P:Program) (N:Nat) (dst:Option Tmp) (t:TypeId) (x:Operand) (f:Nat) (s:St) (K:St→Prop):Prop:=match zZ s x,P.underlying t with
 | some (.agg cs),some (.struct fs)=>match fs[f]? with
  | some fd=>match Qe P fd.type cs fd.offset with
   | some y=>jR N dst (.v y) s K
   | none=>False
  | none=>False
 | _,_=>False
theorem qlk {o:Oper} {t:TypeId} {x:Operand} {f:Nat} (ho:o.op = .field t x f) (h:Sim c N s a w) (hk:vX P N o.dst t x f s K):Reads P o a w (Post c w N K):=by
 unfold vX at hk
 split at hk
 ·rename_i cs fs hx hu
  have hr:=vD h hx
  generalize hv:a.eval x=v at hr
  cases hr with
  | agg hr =>
   rename_i vs
   cases hfd:fs[f]? with
   | none=>rw [hfd] at hk; exact hk.elim
   | some fd =>
    rw [hfd] at hk
    simp only at hk
    cases hp:Qe P fd.type cs fd.offset with
    | none=>rw [hp] at hk; exact hk.elim
    | some y =>
     rw [hp] at hk
     obtain ⟨u,h1,h2⟩:=qlM hr hp
     refine ⟨u,fun w' _ => ?_,vg h hk fun _ _=>h1⟩
     unfold execOp
     simp only [ho,hv,Instr.field,Sem.run_bind,qX hu,Result.andThen_ok,hfd,asAgg,Sem.run_pure,h2]
 ·exact hk.elim
def yu (P:Program) (N:Nat) (dst:Option Tmp) (t:TypeId) (x ix:Operand) (s:St) (K:St→Prop):Prop:=match zZ s x,zZ s ix,P.underlying t with
 | some (.agg cs),some (.sc (.int _ i)),some (.array n e)=>match sizeT P e with
  | some sz=>(0≤i∧i<n)∧match Qe P e cs (i.toNat*sz) with
   | some y=>jR N dst (.v y) s K
   | none=>False
  | none=>False
 | _,_,_=>False
theorem qli {o:Oper} {t:TypeId} {x ix:Operand} (ho:o.op = .index t x ix) (h:Sim c N s a w) (hk:yu P N o.dst t x ix s K):Reads P o a w (Post c w N K):=by
 unfold yu at hk
 split at hk
 ·rename_i cs kd i n e hx hi hu
  have hr:=vD h hx
  have hix:a.eval ix = .int kd i:=Rel.exact (vD h hi) rfl
  generalize hv:a.eval x=v at hr
  cases hr with
  | agg hr =>
   rename_i vs
   cases hsz:sizeT P e with
   | none=>rw [hsz] at hk; exact hk.elim
   | some sz =>
    rw [hsz] at hk
    obtain ⟨⟨h0,h1⟩,hk⟩:=hk
    cases hp:Qe P e cs (i.toNat*sz) with
    | none=>rw [hp] at hk; exact hk.elim
    | some y =>
     rw [hp] at hk
     obtain ⟨u,h2,h3⟩:=qlM hr hp
     refine ⟨u,fun w' _ => ?_,vg h hk fun _ _=>h2⟩
     unfold execOp
     simp only [ho,hv,hix,Instr.index,asIntOf,Sem.run_bind,Sem.run_pure,qX hu,Result.andThen_ok,h0,h1,and_self,if_true,run_sizeOf hsz,h3]
 ·exact hk.elim
def zD (N:Nat) (dst:Option Tmp) (x:Operand) (i:Nat) (s:St) (K:St→Prop):Prop:=match zZ s x with
 | some (.tup cs)=>match cs[i]? with
  | some y=>jR N dst (.v y) s K
  | none=>False
 | _=>False
theorem qi4 {o:Oper} {x:Operand} {i:Nat} (ho:o.op = .extract x i) (h:Sim c N s a w) (hk:zD N o.dst x i s K):Reads P o a w (Post c w N K):=by
 unfold zD at hk
 split at hk
 ·rename_i cs hx
  have hr:=vD h hx
  generalize hv:a.eval x=v at hr
  cases hr with
  | tup hr =>
   rename_i vs
   cases hi:cs[i]? with
   | none=>rw [hi] at hk; exact hk.elim
   | some y =>
    rw [hi] at hk
    obtain ⟨u,h1,h2⟩:=hr.get hi
    have h1:vs[i]? = some u:=by simpa using h1
    refine ⟨u,fun w' _ => ?_,vg h hk fun _ _=>h2⟩
    unfold execOp
    simp only [ho,hv,Instr.extract,h1,Sem.run_bind,Sem.run_pure,Result.andThen_ok]
 ·exact hk.elim
def Zn:SV→Option Nat
 | .v (.sl n _ _)=>some n
 | .v .nil=>some 0
 | .v (.fs n _ _)=>some n
 | .v (.slb _ _ n _)=>some n
 | .lnk _ n=>some n
 | .own _ _ n _ _=>some n
 | _=>none
theorem qf3 {r:Root} {x:SV} {n:Nat} {v:Value} (h:QF c w r x v) (hn:Zn x=some n):∃ p cap,v = .slice p n cap:=by
 unfold Zn at hn
 split at hn <;> cases hn
 ·cases h with
  | sl=>exact ⟨_,_,rfl⟩
  | sl0=>exact ⟨_,_,rfl⟩
 ·cases h with
  | nil=>exact ⟨_,_,rfl⟩
 ·cases h with
  | fs=>exact ⟨_,_,rfl⟩
  | fs0=>exact ⟨_,_,rfl⟩
 ·cases h with
  | slb=>exact ⟨_,_,rfl⟩
  | slb0=>exact ⟨_,_,rfl⟩
 ·rcases h with ⟨rfl,rfl⟩ | ⟨b,cap,rfl,_⟩ <;> exact ⟨_,_,rfl⟩
 ·obtain ⟨_,vs,_,h2,_,_⟩:=h
  rcases h2.2 with ⟨rfl,rfl⟩ | ⟨g,cap,cur,rfl,_⟩ <;> exact ⟨_,_,rfl⟩
def ZJ (P:Program) (N:Nat) (dst:Option Tmp) (t:TypeId) (x:Operand) (s:St) (K:St→Prop):Prop:=match eval s x,P.underlying t with
 | some p,some (.slice _)=>match Zn p with
  | some n=>jR N dst (.v (.sc (.int .i64 n))) s K
  | none=>False
 | _,_=>False
theorem qnS {o:Oper} {t:TypeId} {x:Operand} (ho:o.op = .call { callee := .builtin .len,args := #[x],argTypes := #[t] }) (h:Sim c N s a w) (hk:ZJ P N o.dst t x s K):Reads P o a w (Post c w N K):=by
 unfold ZJ at hk
 split at hk
 ·rename_i p e hx hu
  cases hl:Zn p with
  | none=>rw [hl] at hk; exact hk.elim
  | some n =>
   rw [hl] at hk
   have hv:∃ q cap,a.eval x = .slice q n cap:=by
    rcases VA h hx (.slot 0) with ⟨t,_,_,_,hr⟩ | ⟨z,rfl,hr⟩
    ·exact qf3 hr hl
    ·exact qf3 (w:=w) (r := .slot 0) (x := .v z) hr hl
   obtain ⟨q,cap,hv⟩:=hv
   refine ⟨_,fun w' _ => ?_,vg h hk fun _ _=>Rel.sc _⟩
   unfold execOp
   simp only [ho,resolve,Sem.run_bind,Sem.run_pure,Result.andThen_ok,invoke,builtin,List.map_toArray,List.map_cons,List.map_nil,hv,Builtin.len_]
   simp [qX hu,goInt]
 ·exact hk.elim
def qeY (s:St) (d:Int):Option Operand→Option Int
 | none=>some d
 | some x=>match zZ s x with
  | some (.sc (.int _ i))=>some i
  | _=>none
theorem Wq {d:Int} {x:Option Operand} {i:Int} (h:Sim c N s a w) (hb:qeY s d x=some i):(x=none∧i=d)∨∃ y k,x=some y∧a.eval y = .int k i:=by
 cases x with
 | none=>cases hb; exact .inl ⟨rfl,rfl⟩
 | some y =>
  right
  simp only [qeY] at hb
  cases hy:zZ s y with
  | none=>rw [hy] at hb; cases hb
  | some z =>
   rw [hy] at hb
   cases z with
   | sc u =>
    cases u with
    | int k i'=>cases hb; exact ⟨y,k,rfl,Rel.exact (vD h hy) rfl⟩
    | _=>cases hb
   | _=>cases hb
def piece (sz:Nat) (cs:List V) (l h:Int):List V:=(cs.drop (l.toNat*sz)).take ((h - l).toNat*sz)
def slV:Option V→Option V
 | some (.fs n sz cs)=>some (.sl n sz cs)
 | x=>x
theorem slV_rel {x:Operand} {n sz:Nat} {cs:List V} (h:Sim c N s a w) (hx:slV (zZ s x)=some (.sl n sz cs)):Rel c.I c.φ (.sl n sz cs) (a.eval x):=by
 cases he:zZ s x with
 | none=>rw [he] at hx; cases hx
 | some y =>
  have hr:=vD h he
  rw [he] at hx
  cases y with
  | fs m z ds=>cases hx; exact qnv hr
  | _=>cases hx <;> exact hr
def vU (P:Program) (N:Nat) (dst:Option Tmp) (t:TypeId) (x:Operand) (lo hi mx:Option Operand) (s:St) (K:St→Prop):Prop:=match slV (zZ s x),P.underlying t with
 | some (.sl n sz cs),some (.slice e)=>match qeY s 0 lo,qeY s n hi,qeY s n mx with
  | some l,some h,some m=>sizeT P e=some sz∧(mx.isSome=true→hi.isSome=true)∧(0≤l∧l≤h∧h≤m∧m≤n)∧jR N dst (.v (bif mx.isSome&&h==m then .fs (h - l).toNat sz (piece sz cs l h) else .sl (h - l).toNat sz (piece sz cs l h))) s K
  | _,_,_=>False
 | _,_=>False
theorem run_sliceBound {x:Value} {k:IntKind} {i:Int} {y:Nat} {code:BoundsCode} (hx:x = .int k i) (h0:0≤i) (h1:i≤y) (w:World):(Instr.sliceBound x y code).run P w = .ok i.toNat w:=by
 subst hx
 simp only [Instr.sliceBound,asIntOf,Sem.run_bind,Sem.run_pure,Result.andThen_ok,h0,h1,and_self,if_true]
theorem full_if {I:Nat→Nat→Option Value} {φ:List Nat} {b:Bool} {n sz:Nat} {cs:List V} {v:Value} (hb:b=true→∃ q,v = .slice q n n) (h:Rel I φ (.sl n sz cs) v):Rel I φ (bif b then .fs n sz cs else .sl n sz cs) v:=by
 cases b with
 | false=>exact h
 | true =>
  obtain ⟨q,rfl⟩:=hb rfl
  cases h with
  | sl r1 r2 r3 r4 r5 r6=>exact .fs r1 r2 r3 r5 r6
  | sl0=>exact .fs0
theorem qgf {o:Oper} {t:TypeId} {x:Operand} {lo hi mx:Option Operand} (ho:o.op = .slice t x lo hi mx) (h:Sim c N s a w) (hk:vU P N o.dst t x lo hi mx s K):Reads P o a w (Post c w N K):=by
 unfold vU at hk
 split at hk
 ·rename_i n sz cs e hx hu
  split at hk
  ·rename_i l hh m hl hhi hm
   obtain ⟨hsz,hmh,⟨h0,h1,h2,h3⟩,hk⟩:=hk
   have hr:=slV_rel h hx
   generalize hv:a.eval x=v at hr
   have hcap:∃ q cap,v = .slice q n cap∧n≤cap:=by
    cases hr with
    | sl _ _ _ r4 _ _=>exact ⟨_,_,rfl,r4⟩
    | sl0=>exact ⟨_,_,rfl,Nat.le_refl _⟩
   obtain ⟨q,cap,rfl,hnc⟩:=hcap
   have B:∃ mm:Nat,(∀ w',(Instr.sliceBounds true n cap (lo.map a.eval) (hi.map a.eval) (mx.map a.eval)).run P w' = .ok (l.toNat,hh.toNat,mm) w')∧hh.toNat≤mm∧mm≤cap∧(mx.isSome=true→mm=m.toNat):=by
    rcases Wq h hm with ⟨rfl,rfl⟩ | ⟨my,mk,rfl,hmv⟩
    ·rcases Wq h hhi with ⟨rfl,rfl⟩ | ⟨hy,hk',rfl,hhv⟩
     ·rcases Wq h hl with ⟨rfl,rfl⟩ | ⟨ly,lk,rfl,hlv⟩
      ·exact ⟨cap,fun w'=>by simp [Instr.sliceBounds],by simpa using hnc,Nat.le_refl _,fun e=>by cases e⟩
      ·refine ⟨cap,fun w' => ?_,by simpa using hnc,Nat.le_refl _,fun e=>by cases e⟩
       simp only [Instr.sliceBounds,Option.map_none,Option.map_some,Sem.run_bind,Sem.run_pure,Result.andThen_ok,run_sliceBound hlv h0 h1]
       simp
     ·have hb:=fun w'=>run_sliceBound (P:=P) (code := .sliceAcap) hhv (by omega:(0:Int)≤hh) (y:=cap) (by omega) w'
      rcases Wq h hl with ⟨rfl,rfl⟩ | ⟨ly,lk,rfl,hlv⟩
      ·refine ⟨cap,fun w' => ?_,by omega,Nat.le_refl _,fun e=>by cases e⟩
       simp only [Instr.sliceBounds,Option.map_none,Option.map_some,Sem.run_bind,Sem.run_pure,Result.andThen_ok,if_true,hb]
       simp
      ·refine ⟨cap,fun w' => ?_,by omega,Nat.le_refl _,fun e=>by cases e⟩
       simp only [Instr.sliceBounds,Option.map_none,Option.map_some,Sem.run_bind,Sem.run_pure,Result.andThen_ok,if_true,hb,run_sliceBound hlv h0 (y:=hh.toNat) (by omega)]
    ·rcases Wq h hhi with ⟨rfl,rfl⟩ | ⟨hy,hk',rfl,hhv⟩
     ·have:=hmh rfl
      cases this
     ·have hmb:=fun w'=>run_sliceBound (P:=P) (code := .slice3Acap) hmv (by omega:(0:Int)≤m) (y:=cap) (by omega) w'
      have hb:=fun w'=>run_sliceBound (P:=P) (code := .slice3B) hhv (by omega:(0:Int)≤hh) (y:=m.toNat) (by omega) w'
      rcases Wq h hl with ⟨rfl,rfl⟩ | ⟨ly,lk,rfl,hlv⟩
      ·refine ⟨m.toNat,fun w' => ?_,by omega,by omega,fun _=>rfl⟩
       simp only [Instr.sliceBounds,Option.map_none,Option.map_some,Sem.run_bind,Sem.run_pure,Result.andThen_ok,if_true,hmb,hb]
       simp
      ·refine ⟨m.toNat,fun w' => ?_,by omega,by omega,fun _=>rfl⟩
       simp only [Instr.sliceBounds,Option.map_none,Option.map_some,Sem.run_bind,Sem.run_pure,Result.andThen_ok,if_true,hmb,hb,run_sliceBound hlv h0 (y:=hh.toNat) (by omega)]
   obtain ⟨mm,B1,B2,B3,B4⟩:=B
   have e1:(hh - l).toNat=hh.toNat - l.toNat:=by omega
   refine ⟨.slice (if mm=l.toNat then q else q.map (·.add (l.toNat*sz))) (hh.toNat - l.toNat) (mm - l.toNat),fun w' _ => ?_,vg h hk fun _ _ => ?_⟩
   ·unfold execOp
    simp only [ho,hv,Instr.sliceAt,Sem.run_bind,qX hu,Result.andThen_ok,Instr.slice,B1,run_sizeOf hsz,Sem.run_pure]
   ·show Rel c.I c.φ _ _
    refine full_if (fun hb => ?_) ?_
    ·simp only [Bool.and_eq_true,beq_iff_eq] at hb
     rw [B4 hb.1,hb.2]
     exact ⟨_,by rw [show (m - l).toNat=m.toNat - l.toNat by omega]⟩
    rw [e1]
    cases hr with
    | sl r1 r2 r3 r4 r5 r6 =>
     rename_i vs b off
     have hlen:hh.toNat*sz≤cs.length:=by rw [r3]; exact Nat.mul_le_mul_right _ (by omega)
     have hsub:(hh.toNat - l.toNat)*sz=hh.toNat*sz - l.toNat*sz:=by rw [Nat.sub_mul]
     have hle:l.toNat*sz≤hh.toNat*sz:=Nat.mul_le_mul_right _ (by omega)
     by_cases hml:mm=l.toNat
     ·rw [if_pos hml]
      have hz:hh.toNat - l.toNat=0:=by omega
      have hp:piece sz cs l hh = []:=by unfold piece; rw [e1,hz]; simp
      rw [hz,hp]
      exact .sl (vs := []) .nil (fun j u hu=>by simp at hu) (by simp) (Nat.zero_le _) (by omega) (fun u hu=>by simp at hu)
     ·rw [if_neg hml]
      simp only [Option.map_some,add_eq]
      refine .sl (vs:=(vs.drop (l.toNat*sz)).take ((hh.toNat - l.toNat)*sz)) ?_ (fun j u hu => ?_) ?_ (by omega) (by omega) (fun u hu=>r6 u (List.mem_of_mem_drop (List.mem_of_mem_take hu)))
      ·have:=(r1.drop (l.toNat*sz)).take ((hh - l).toNat*sz)
       rw [e1] at this
       unfold piece
       rw [e1]
       exact this
      ·rw [List.getElem?_take] at hu
       split at hu
       ·rw [List.getElem?_drop] at hu
        rw [Nat.add_assoc]
        exact r2 _ u hu
       ·cases hu
      ·unfold piece
       rw [e1,List.length_take,List.length_drop,hsub]
       omega
    | sl0 =>
     have:hh.toNat=0:=by omega
     have hl0:l.toNat=0:=by omega
     have hm0:mm=0:=by omega
     have hp:piece sz [] l hh = []:=by unfold piece; simp
     rw [this,hl0,hp,hm0]
     exact .sl0
  ·exact hk.elim
 ·exact hk.elim
def jE (P:Program) (N:Nat) (dst:Option Tmp) (t:TypeId) (x:Operand) (lo hi mx:Option Operand) (s:St) (K:St→Prop):Prop:=match x,dst,eval s x,P.underlying t,hi with
 | .tmp u,some d,some (.own true e n sz cs),some (.slice e'),some y=>match zZ s y with
  | some (.sc (.int _ i))=>lo=none∧mx=none∧sizeT P e'=some sz∧(0≤i∧i≤n)∧d<N∧K ⟨vO d (.own true e i.toNat sz (cs.take (i.toNat*sz))) (del u s.F),s.H⟩
  | _=>False
 | _,_,_,_,_=>False
theorem qjk {o:Oper} {t:TypeId} {x:Operand} {lo hi mx:Option Operand} (ho:o.op = .slice t x lo hi mx) (h:Sim c N s a w) (hk:jE P N o.dst t x lo hi mx s K):Reads P o a w (Post c w N K):=by
 unfold jE at hk
 split at hk
 ·rename_i u d e n sz cs e' y hd hu hx
  split at hk
  ·rename_i k i hy
   obtain ⟨rfl,rfl,hsz,⟨hi0,hi1⟩,hd',hk⟩:=hk
   have hyv:a.eval y = .int k i:=by
    have:=vD h hy
    generalize a.eval y=v at this
    cases this
    rfl
   obtain ⟨F,H⟩:=s
   rcases VA h hx (.slot 0) with ⟨u',e1,hg,hv,_⟩ | ⟨z,e',_⟩
   rotate_left
   ·cases e'
   cases e1
   obtain ⟨v,hv',h0,vs,h1,h2,h6,h3⟩:=h.fr u _ (QO hg)
   have hav:a.eval (.tmp u)=v:=by
    rw [hv'] at hv
    exact (Option.some.inj hv).symm
   have hdl:Sim c N ⟨del u F,H⟩ a w:=h.sub fun p hp=>(QL (x:=p.2) (k:=p.1) hp).1
   obtain ⟨m,rfl⟩:=Int.eq_ofNat_of_zero_le hi0
   simp only [Int.toNat_natCast] at hk ⊢
   have hmn:m≤n:=by omega
   rcases h2.2 with ⟨rfl,rfl⟩ | ⟨g,cap,cur,rfl,hb0,g1,g2,g3,g4,g5⟩
   ·obtain ⟨rfl,rfl⟩:=KU h1 h2
    have hm0:m=0:=by omega
    subst hm0
    refine ⟨.slice none 0 0,fun w' _ => ?_,?_⟩
    ·unfold execOp
     simp only [ho,hav,Option.map_some,Option.map_none,Instr.sliceAt,Sem.run_bind,qX hu,Result.andThen_ok,Instr.slice,Instr.sliceBounds,Sem.run_pure,if_true,run_sliceBound hyv (Int.le_refl 0) (Int.le_refl 0),run_sizeOf hsz]
     simp
    ·rw [hd]
     exact ⟨_,_,hdl.put' hd' (qcn h0),Ext.free c w _,by simpa using hk⟩
   ·obtain ⟨k1,k2⟩:=h3 g rfl
    have hlt:=h.inv.lt g (by rw [k1]; simp)
    refine ⟨.slice (some ⟨g,0,none⟩) m cap,fun w' _ => ?_,?_⟩
    ·unfold execOp
     simp only [ho,hav,Option.map_some,Option.map_none,Instr.sliceAt,Sem.run_bind,qX hu,Result.andThen_ok,Instr.slice,Instr.sliceBounds,Sem.run_pure,if_true,run_sliceBound hyv hi0 (show (m:Int)≤cap by omega),run_sizeOf hsz]
     simp [add_eq]
    ·rw [hd]
     have hsub:m*sz≤n*sz:=Nat.mul_le_mul_right _ hmn
     refine ⟨_,_,hdl.qfP hd' hlt (fun id=>by rw [k1]; simp) (fun id j=>by rw [k1]; simp) (fun k x hx => ?_) ?_,Ext.give c w (fun _=>by rw [k1]; simp),hk⟩
     ·have h5:=QL (QL hx).1
      refine ⟨by rw [k1]; simpa using Ne.symm h5.2.1,fun q hq => ?_⟩
      rw [k1] at hq
      cases hq
      exact h5.2.2
     ·refine ⟨h0,vs.take (m*sz),h1.take _,⟨by rw [List.length_take,h2.1]; omega,.inr ⟨g,cap,cur,rfl,hb0,g1,by omega,g3,g4,by rw [← g5,List.take_take,Nat.min_eq_left hsub]⟩⟩,fun x hx=>h6 x (List.mem_of_mem_take hx),fun b hb => ?_⟩
      cases hb
      exact ⟨YW,k2⟩
  ·exact hk.elim
 ·exact hk.elim
end
end AM
end Go.Proofs.YtnconfggojpkcaaGreat
namespace Go.Proofs.YtnconfggojpkcaaGreat
namespace Mix
def vT (o:Oper):Bool :=
  match o.op with
  | .move _ | .assign _ | .pick .. | .load .. | .nilCheck _ | .binOp .. | .unOp .. | .makeInterface .. | .slice .. | .fieldAddr .. | .field .. | .indexAddr .. | .index ..
  | .lookup .. | .typeAssert .. | .extract .. | .convert .. | .build .. | .makeFunc .. => false
  | .call c =>
    match c.callee with
    | .builtin b=>(match b with | .len | .cap | .min | .max=>false | _=>true)
    | _=>true
  | _=>true
def idleB (o:Oper):Bool :=
  match o.op with
  | .move _ | .assign _ | .pick .. | .extract .. | .makeInterface .. => true
  | .makeFunc .. => true
  | _=>false
def Qc (o:Oper):Bool :=
  match o.op with
  | .alloc _ | .box .. | .buildSlice .. => true
  | _=>false
def qbd (ga:Nat) (x y:Oper):Bool:=(idleB x && !vT x)||(idleB y && !vT y)||(!vT x && !vT y)||(ga==1 && !vT x&&Qc y)||(ga==2&&(!vT x || !vT y))
def qae (b:Array Nat) (j i:Nat):Bool:=(b.getD j 0).testBit i
def qcC (ops:Array Oper) (b:Array Nat):Bool :=
  (List.range ops.size).all fun j=>(List.range ops.size).all fun i => !qae b j i ||
    (match ops[j]? with
     | some o=>o.after.any fun e=>Region.binds .any e&&decide (e.on<j)&&(e.on==i||qae b e.on i)
     | none=>false)
def qjR (ga:Nat) (ops:Array Oper):Bool :=
  qcC ops (Region.before ops) &&
  (Region.noSelect ops &&
  ((ops.zipIdx.all fun (o,i)=>o.after.all fun e => !Region.binds .any e||decide (e.on<i)) &&
  ((List.range ops.size).all fun i=>(List.range ops.size).all fun j => !decide (i<j)||(qae (Region.before ops) j i ||
    (match ops[i]?,ops[j]? with
     | some x,some y=>x.apart ops y&&qbd ga x y
     | _,_=>true)))))
def bot:Exit→Act→World→Prop:=fun _ _ _=>False
section
variable {P:Program} {ops:Array Oper} {C:World→World→Prop} {J:World→Prop}
def qe2 (P:Program) (s:Sem Next) (w:World) (K:Option Deferred→Value→World→Prop):Prop :=
  match s.run P w with
  | .ok (.value v) w'=>K none v w'
  | .ok .skip w'=>K none undef w'
  | .ok (.defer d) w'=>K (some d) undef w'
  | .ok (.enter f args) w'=>Calls P f args w' fun
      | .returned v,w''=>K none v w''
      | _,_=>False
  | .ok (.row row args) w'=>Rows P row args w' fun v w''=>K none v w''
  | _=>False
theorem Zt {s:Sem Next} {w:World} {K K':Option Deferred→Value→World→Prop} (hK:∀ d v w,K d v w→K' d v w) (h:qe2 P s w K):qe2 P s w K':=by
  unfold qe2 at *
  generalize s.run P w=r at *
  cases r with
  | ok n w' =>
    cases n <;> first
      | exact hK _ _ _ h
      | exact Calls.mono h (fun e w'' he=>by cases e <;> first | exact hK _ _ _ he | exact he)
      | exact Rows.mono h (fun _ _ he=>hK _ _ _ he)
      | exact h
  | halt x w'=>exact h
theorem qk8 {s:Sem Next} {w:World} {K:Option Deferred→Value→World→Prop} (h:qe2 P s w K):∃ d v w',K d v w':=by
  unfold qe2 at h
  generalize s.run P w=r at *
  cases r with
  | ok n w' =>
    cases n <;> first
      | exact ⟨_,_,_,h⟩
      | (obtain ⟨e,w'',fr,hR,_⟩:=h []
         cases e <;> first
           | exact ⟨_,_,_,hR⟩
           | exact hR.elim)
      | (obtain ⟨v,w'',hR,_⟩:=h default []
         exact ⟨_,_,_,hR⟩)
      | exact h.elim
  | halt x w'=>exact h.elim
inductive Kind where
  | skip
  | eff
  | still
  deriving DecidableEq
def qad (P:Program) (C:World→World→Prop) (J:World→Prop) (k:Kind) (s:Sem Next) (w:World) (K:Option Deferred→Value→World→Prop):Prop :=
  match k with
  | .skip=>K none undef w
  | .eff=>qe2 P s w fun d v w'=>J w'∧K d v w'
  | .still=>∃ v,(∀ w',C w w'→s.run P w' = .ok (.value v) w')∧K none v w
theorem YC {k:Kind} {s:Sem Next} {w:World} {K K':Option Deferred→Value→World→Prop} (hw:J w) (hK:∀ d v w,J w→K d v w→K' d v w) (h:qad P C J k s w K):qad P C J k s w K':=by
  cases k with
  | skip=>exact hK _ _ _ hw h
  | eff =>
    change qe2 P s w (fun d v w'=>J w'∧K d v w') at h
    change qe2 P s w (fun d v w'=>J w'∧K' d v w')
    exact Zt (fun d v w h=>⟨h.1,hK _ _ _ h.1 h.2⟩) h
  | still=>obtain ⟨v,h1,h2⟩:=h; exact ⟨v,h1,hK _ _ _ hw h2⟩
theorem qcz {k:Kind} {s:Sem Next} {w:World} {K:Option Deferred→Value→World→Prop} (hw:J w) (h:qad P C J k s w K):∃ d v w',J w'∧K d v w':=by
  cases k with
  | skip=>exact ⟨_,_,_,hw,h⟩
  | eff=>exact qk8 h
  | still=>obtain ⟨v,h1,h2⟩:=h; exact ⟨_,_,_,hw,h2⟩
def Idle (P:Program) (s:Sem Next):Prop:=∀ w n w',s.run P w = .ok n w'→w'=w∧∀ u,s.run P u = .ok n u
def Lays (P:Program) (s:Sem Next):Prop:=∀ w n w',s.run P w = .ok n w'→∃ v o,n = .value v∧w'=w.alloc o
def Swaps (P:Program) (C:World→World→Prop) (J:World→Prop) (ki kj:Kind) (si sj:Sem Next):Prop :=
  ki = .skip∨kj = .skip∨(ki = .still∧Idle P si)∨(kj = .still∧Idle P sj)∨(ki = .still∧kj = .still) ∨
    (ki = .still∧kj = .eff∧Lays P sj∧∀ w o w',C (w.alloc o) w'→C w w')∨((ki = .still∨kj = .still)∧∀ w w',C w w'↔J w')
theorem swap (hC:∀ w,J w→C w w) {ki kj:Kind} {si sj:Sem Next} (hs:Swaps P C J ki kj si sj) {w:World} (hw:J w) {K:Option Deferred→Value→Option Deferred→Value→World→Prop}
    (h:qad P C J ki si w fun d v w'=>qad P C J kj sj w' fun e u w''=>K d v e u w''):qad P C J kj sj w fun e u w'=>qad P C J ki si w' fun d v w''=>K d v e u w'':=by
  rcases hs with rfl | rfl | ⟨rfl,hi⟩ | ⟨rfl,hj⟩ | ⟨rfl,rfl⟩ | ⟨rfl,rfl,hl,hga⟩ | ⟨hs,hx⟩
  · exact h
  · exact YC hw (fun d v w _ h=>h) h
  · obtain ⟨v,h1,h2⟩:=h
    refine YC hw (fun e u w' _ h3 => ?_) h2
    exact ⟨v,fun w'' _=>(hi w _ _ (h1 w (hC w hw))).2 w'',h3⟩
  · obtain ⟨d,v,w',hw',u,h1,h2⟩:=qcz hw h
    have hall:=(hj w' _ _ (h1 w' (hC w' hw'))).2
    refine ⟨u,fun w'' _=>hall w'',YC hw (fun d v w' hw' h3 => ?_) h⟩
    obtain ⟨u',h4,h5⟩:=h3
    have h6:=h4 w' (hC w' hw')
    rw [hall w'] at h6
    injection h6 with h6
    injection h6 with h6
    subst h6
    exact h5
  · obtain ⟨v,h1,u,h2,h3⟩:=h
    exact ⟨u,h2,v,h1,h3⟩
  · obtain ⟨v,h1,h2⟩:=h
    unfold qad qe2 at h2
    unfold qad qe2
    simp only at h2 ⊢
    cases hr:sj.run P w with
    | ok n w' =>
      obtain ⟨u,o,rfl,rfl⟩:=hl _ _ _ hr
      rw [hr] at h2
      exact ⟨h2.1,v,fun w'' hw=>h1 w'' (hga _ _ _ hw),h2.2⟩
    | halt x w'=>rw [hr] at h2; exact h2.elim
  · rcases hs with rfl | rfl
    · obtain ⟨v,h1,h2⟩:=h
      exact YC hw (fun e u w' _ h3=>⟨v,fun w'' hw''=>h1 w'' ((hx _ _).2 ((hx _ _).1 hw'')),h3⟩) h2
    · obtain ⟨d,v,w',hw',u,h1,h2⟩:=qcz hw h
      refine ⟨u,fun w'' hw''=>h1 w'' ((hx _ _).2 ((hx _ _).1 hw'')),YC hw (fun d v w1 hw1 h3 => ?_) h⟩
      obtain ⟨u',h4,h5⟩:=h3
      have h6:=h4 w1 (hC w1 hw1)
      rw [h1 w1 ((hx _ _).2 hw1)] at h6
      injection h6 with h6
      injection h6 with h6
      subst h6
      exact h5
def kindOf (ops:Array Oper) (o:Oper) (a:Act):Kind:=if Region.wanted o (yielded ops a.tmps)=true then (if vT o=true then .eff else .still) else .skip
def y7 (a:Act) (dst:Option Tmp) (d:Option Deferred) (v:Value):Act :=
  match d with
  | none=>a.put dst v
  | some d=>({ a with defers:=d::a.defers }:Act).put dst v
def mOp (P:Program) (ops:Array Oper) (C:World→World→Prop) (J:World→Prop) (i:Nat) (K:Act→World→Prop) (a:Act) (w:World):Prop :=
  match ops[i]? with
  | none=>K a w
  | some o=>qad P C J (kindOf ops o a) (execOp a.eval o) w fun d v w'=>K (y7 a o.dst d v) w'
theorem JF {i:Nat} {K K':Act→World→Prop} {a:Act} {w:World} (hw:J w) (hK:∀ a w,J w→K a w→K' a w) (h:mOp P ops C J i K a w):mOp P ops C J i K' a w:=by
  unfold mOp at *
  cases ho:ops[i]? with
  | none=>rw [ho] at h; exact hK _ _ hw h
  | some o=>rw [ho] at h; exact YC hw (fun d v w' hw' h=>hK _ _ hw' h) h
theorem qen {i:Nat} {K:Act→World→Prop} {a:Act} {w:World} (hw:J w) (h:mOp P ops C J i K a w):∃ a w,K a w:=by
  unfold mOp at h
  cases ho:ops[i]? with
  | none=>rw [ho] at h; exact ⟨_,_,h⟩
  | some o=>rw [ho] at h; obtain ⟨d,v,w',_,h⟩:=qcz hw h; exact ⟨_,_,h⟩
theorem qjI (o:Oper) (hs:∀ cs b,o.op ≠ .select cs b) (a:Act) (dst:Option Tmp) (d:Option Deferred) (v:Value) (h:∀ t,dst=some t→t∉o.looksAt ops) :
    execOp (y7 a dst d v).eval o=execOp a.eval o:=by
  cases d with
  | none=>exact execOp_put o hs a dst v h
  | some d=>exact execOp_put (ops:=ops) o hs { a with defers:=d::a.defers } dst v h
theorem qjH (o:Oper) (a:Act) (dst:Option Tmp) (d:Option Deferred) (v:Value) (h:∀ t,dst=some t→t∉o.looksAt ops):kindOf ops o (y7 a dst d v)=kindOf ops o a:=by
  unfold kindOf
  cases d with
  | none=>rw [show y7 a dst none v=a.put dst v from rfl,wanted_put o a dst v h]
  | some d =>
    have:=wanted_put (ops:=ops) o { a with defers:=d::a.defers } dst v h
    rw [show y7 a dst (some d) v=({ a with defers:=d::a.defers }:Act).put dst v from rfl,this]
theorem qjJ (a:Act) {x y:Option Tmp} (d e:Option Deferred) (v u:Value) (h:∀ t,x=some t→y≠some t) (hde:d=none∨e=none) :
    y7 (y7 a x d v) y e u=y7 (y7 a y e u) x d v:=by
  rcases hde with rfl | rfl
  · cases e with
    | none=>exact Act.put_comm a v u h
    | some e =>
      show ({ a.put x v with defers:=e::(a.put x v).defers }:Act).put y u=(({ a with defers:=e::a.defers }:Act).put y u).put x v
      rw [Act.put_defers,Act.put_comm _ v u h]
  · cases d with
    | none=>exact Act.put_comm a v u h
    | some d =>
      show (({ a with defers:=d::a.defers }:Act).put x v).put y u=({ a.put y u with defers:=d::(a.put y u).defers }:Act).put x v
      rw [Act.put_defers,Act.put_comm _ v u h]
theorem qcU (n:Next):Idle P (pure n):=by
  intro w n' w' hr
  simp only [Sem.run_pure,Result.ok.injEq] at hr
  obtain ⟨rfl,rfl⟩:=hr
  exact ⟨rfl,fun u=>by simp only [Sem.run_pure]⟩
theorem qgI (h:Halt):Idle P (Sem.halt h):=by
  intro w n' w' hr
  simp [Sem.run] at hr
theorem qox {o:Oper} (h:idleB o=true) (ρ:Operand→Value):Idle P (execOp ρ o):=by
  unfold idleB at h
  unfold execOp
  split at h
  case h_1 x hx=>simp only [hx]; exact qcU _
  case h_2 x hx=>simp only [hx]; exact qcU _
  case h_3 c x y hx =>
    simp only [hx]
    cases ρ c <;> first | exact qcU _ | exact qgI _
  case h_4 t k hx =>
    simp only [hx,Instr.extract]
    cases ρ t <;> try exact qgI _
    rename_i vs
    cases hk:vs[k]? with
    | none=>simp only [hk]; exact qgI _
    | some v=>simp only [hk]; exact qcU _
  case h_5 t x hx =>
    simp only [hx,Instr.makeInterface]
    intro w n w' hr
    cases hu:P.underlying t with
    | none=>simp [underlying,program,hu,stuck,Sem.run_bind,Sem.run,Result.andThen] at hr
    | some d =>
      cases d <;> simp [underlying,program,hu,stuck,Sem.run_bind,Sem.run_pure,Sem.run,Result.andThen] at hr ⊢
      all_goals (obtain ⟨rfl,rfl⟩:=hr; simp)
  case h_6 f l k hx=>simp only [hx,Instr.makeFunc,pure_bind]; exact qcU _
  case h_7=>cases h
theorem qop {o:Oper} (h:Qc o=true) (ρ:Operand→Value):Lays P (execOp ρ o):=by
  intro w n w' hr
  unfold Qc at h
  unfold execOp at hr
  split at h
  case h_1 e hx =>
    simp only [hx,Instr.alloc,newVar,newRow,newObj,zeroValue,Sem.run_bind] at hr
    cases h1:(typeInfo e).run P w with
    | halt a b=>simp [h1,Result.andThen] at hr
    | ok i w1 =>
      have hw:w1=w:=by
        unfold typeInfo at h1
        simp only [program,Sem.run_bind,Sem.run,Sem.run_pure,Result.andThen] at h1
        split at h1
        · simp only [Sem.run_pure,Result.ok.injEq] at h1; exact h1.2.symm
        · simp [stuck,Sem.run] at h1
      subst hw
      cases h2:i.zero <;> simp [h1,h2,unsupported,Sem.run,Sem.run_pure,Result.andThen] at hr
      obtain ⟨rfl,rfl⟩:=hr
      exact ⟨_,_,rfl,rfl⟩
  case h_2 e x hx =>
    simp [hx,Instr.box,newVar,newRow,newObj,Sem.run_bind,Sem.run,Sem.run_pure,Result.andThen] at hr
    obtain ⟨rfl,rfl⟩:=hr
    exact ⟨_,_,rfl,rfl⟩
  case h_3 t len ps hx =>
    simp only [hx,Instr.buildSlice,underlying,program,sizeOf,typeInfo,zeroValue,Sem.run_bind,Sem.run,Sem.run_pure,Result.andThen] at hr
    cases hu:P.underlying t with
    | none=>simp [hu,stuck,Sem.run] at hr
    | some d =>
      cases d <;> simp [hu,stuck,Sem.run,Sem.run_pure] at hr
      rename_i e
      cases hi:P.info? e with
      | none=>simp [hi,stuck,Sem.run] at hr
      | some i =>
        simp [hi,Sem.run_pure] at hr
        split at hr
        · rename_i v w2 hh
          simp only [Result.ok.injEq] at hr
          obtain ⟨rfl,rfl⟩:=hr
          split at hh
          · cases hh
          · split at hh
            · split at hh
              · simp [newRow,newObj,Functor.map,Sem.bind,Sem.run,pure,bind] at hh
                exact ⟨_,_,rfl,hh.2.symm⟩
              · simp [Sem.run] at hh
            · cases hz:i.zero with
              | none=>simp [hz,unsupported,Sem.run,Result.andThen] at hh
              | some z =>
                simp only [hz,Sem.run_pure,Result.andThen] at hh
                split at hh
                · simp [newRow,newObj,Functor.map,Sem.bind,Sem.run,pure,bind] at hh
                  exact ⟨_,_,rfl,hh.2.symm⟩
                · simp [Sem.run] at hh
        · cases hr
  case h_4=>cases h
theorem qjw {s:Sem Value} {w w':World} {n:Next} (h:(s >>= fun x=>pure (Next.value x)).run P w = .ok n w'):∃ v,n = .value v:=by
  rw [Sem.run_bind] at h
  cases hs:s.run P w with
  | halt a b=>rw [hs] at h; cases h
  | ok x w1 =>
    rw [hs] at h
    simp only [Result.andThen,Sem.run_pure,Result.ok.injEq] at h
    exact ⟨x,h.1.symm⟩
theorem value_of {o:Oper} (he:vT o=false) {ρ:Operand→Value} {w w':World} {n:Next} (h:(execOp ρ o).run P w = .ok n w'):∃ v,n = .value v:=by
  obtain ⟨dst,op,type,pos,after,guard⟩:=o
  unfold execOp at h
  cases op <;> simp only [vT] at he
  case move x=>simp only [Sem.run_pure,Result.ok.injEq] at h; exact ⟨_,h.1.symm⟩
  case assign x=>simp only [Sem.run_pure,Result.ok.injEq] at h; exact ⟨_,h.1.symm⟩
  case pick c x y =>
    simp only at h
    cases hc:ρ c <;> rw [hc] at h <;> simp only [asBool] at h
    case bool b=>simp [Sem.run_pure] at h; exact ⟨_,h.1.symm⟩
    all_goals (simp [stuck,Sem.run] at h)
  case nilCheck x =>
    simp only at h
    split at h
    all_goals first
      | (simp [runtimePanic,program,goPanic,Sem.run] at h; done)
      | skip
    · split at h
      · simp [runtimePanic,program,goPanic,Sem.run] at h
      · rw [Sem.run_bind] at h
        cases hp:(program).run P w with
        | halt a b=>rw [hp] at h; cases h
        | ok p w1 =>
          rw [hp] at h
          simp only [Result.andThen,Sem.run_bind] at h
          generalize Sem.run P _ w1=r at h
          cases r with
          | halt a b=>cases h
          | ok q w2 =>
            simp only [Result.andThen] at h
            split at h
            · simp [unsupported,Sem.run] at h
            · simp only [Sem.run_pure,pure_bind,Result.ok.injEq] at h
              exact ⟨_,h.1.symm⟩
      · simp only [Sem.run_pure,Result.ok.injEq] at h
        exact ⟨_,h.1.symm⟩
    · simp only [Sem.run_pure,Result.ok.injEq] at h
      exact ⟨_,h.1.symm⟩
  case call c =>
    obtain ⟨callee,args,argTypes⟩:=c
    cases callee <;> simp only [Bool.true_eq_false] at he
    rename_i b
    simp only [resolve,pure_bind,invoke] at h
    cases b <;> simp only [Bool.true_eq_false] at he
    all_goals (simp only [builtin] at h; exact qjw h)
  all_goals first
    | exact qjw h
    | (simp only [Bool.true_eq_false] at he)
theorem swaps_of {ga:Nat} (hga:ga=1→∀ w o w',C (w.alloc o) w'→C w w') (hgx:ga=2→∀ w w',C w w'↔J w') {x y:Oper} (h:qbd ga x y=true) (a:Act) :
    Swaps P C J (kindOf ops x a) (kindOf ops y a) (execOp a.eval x) (execOp a.eval y):=by
  unfold kindOf
  by_cases hx:Region.wanted x (yielded ops a.tmps)=true
  · by_cases hy:Region.wanted y (yielded ops a.tmps)=true
    · rw [if_pos hx,if_pos hy]
      simp only [qbd,Bool.or_eq_true,Bool.and_eq_true,Bool.not_eq_true',beq_iff_eq] at h
      rcases h with (((⟨h1,h2⟩ | ⟨h1,h2⟩) | ⟨h1,h2⟩) | ⟨⟨h1,h2⟩,h3⟩) | ⟨h1,h2⟩
      · exact .inr (.inr (.inl ⟨by rw [h2]; rfl,qox h1 _⟩))
      · exact .inr (.inr (.inr (.inl ⟨by rw [h2]; rfl,qox h1 _⟩)))
      · exact .inr (.inr (.inr (.inr (.inl ⟨by rw [h1]; rfl,by rw [h2]; rfl⟩))))
      · by_cases hey:vT y=true
        · exact .inr (.inr (.inr (.inr (.inr (.inl ⟨by rw [h2]; rfl,by rw [if_pos hey],qop h3 _,hga h1⟩)))))
        · have hey:vT y=false:=by simpa using hey
          exact .inr (.inr (.inr (.inr (.inl ⟨by rw [h2]; rfl,by rw [hey]; rfl⟩))))
      · exact .inr (.inr (.inr (.inr (.inr (.inr ⟨h2.imp (fun h=>by rw [h]; rfl) (fun h=>by rw [h]; rfl),hgx h1⟩)))))
    · rw [if_neg hy]; exact .inr (.inl rfl)
  · rw [if_neg hx]; exact .inl rfl
theorem qhZ {k:Kind} {s:Sem Next} {w:World} {K:Option Deferred→Value→World→Prop} (hk:k ≠ .eff) (h:qad P C J k s w K) :
    qad P C J k s w (fun d v w'=>d=none∧K d v w'):=by
  cases k with
  | skip=>exact ⟨rfl,h⟩
  | eff=>exact absurd rfl hk
  | still=>obtain ⟨v,h1,h2⟩:=h; exact ⟨v,h1,rfl,h2⟩
theorem qoQ {ki kj:Kind} {si sj:Sem Next} (h:Swaps P C J ki kj si sj):ki ≠ .eff∨kj ≠ .eff:=by
  rcases h with rfl | rfl | ⟨rfl,_⟩ | ⟨rfl,_⟩ | ⟨rfl,_⟩ | ⟨rfl,_⟩ | ⟨rfl | rfl,_⟩
  · exact .inl (by simp)
  · exact .inr (by simp)
  · exact .inl (by simp)
  · exact .inr (by simp)
  · exact .inl (by simp)
  · exact .inl (by simp)
  · exact .inl (by simp)
  · exact .inr (by simp)
theorem qfZ (hC:∀ w,J w→C w w) {ga:Nat} (hga:ga=1→∀ w o w',C (w.alloc o) w'→C w w') (hgx:ga=2→∀ w w',C w w'↔J w') {i j:Nat} {x y:Oper} (hi:ops[i]? = some x) (hj:ops[j]? = some y)
    (hsx:∀ cs b,x.op ≠ .select cs b) (hsy:∀ cs b,y.op ≠ .select cs b) (hap:x.apart ops y=true) (hp:qbd ga x y=true) {K:Act→World→Prop} {a:Act} {w:World} (hw:J w)
    (h:mOp P ops C J i (mOp P ops C J j K) a w):mOp P ops C J j (mOp P ops C J i K) a w:=by
  obtain ⟨h1,h2,h3⟩:=Oper.apart_spec hap
  have hsw:=swaps_of (P:=P) (C:=C) (J:=J) (ops:=ops) hga hgx hp a
  unfold mOp at *
  simp only [hi,hj] at *
  have e1:∀ d v,execOp (y7 a x.dst d v).eval y=execOp a.eval y:=fun d v=>qjI y hsy a x.dst d v h1
  have e2:∀ d v,execOp (y7 a y.dst d v).eval x=execOp a.eval x:=fun d v=>qjI x hsx a y.dst d v h3
  have k1:∀ d v,kindOf ops y (y7 a x.dst d v)=kindOf ops y a:=fun d v=>qjH y a x.dst d v h1
  have k2:∀ d v,kindOf ops x (y7 a y.dst d v)=kindOf ops x a:=fun d v=>qjH x a y.dst d v h3
  simp only [e1,k1] at h
  simp only [e2,k2]
  rcases qoQ hsw with hk | hk
  · have h':=qhZ hk h
    have h4:qad P C J (kindOf ops x a) (execOp a.eval x) w fun d v w'=>qad P C J (kindOf ops y a) (execOp a.eval y) w' fun e u w''=>K (y7 (y7 a y.dst e u) x.dst d v) w'':=by
      refine YC hw (fun d v w' hw' hh => ?_) h'
      obtain ⟨rfl,hh⟩:=hh
      exact YC hw' (fun e u w'' _ hh=>by rw [← qjJ a none e v u h2 (.inl rfl)]; exact hh) hh
    exact swap hC hsw hw h4
  · have h4:qad P C J (kindOf ops x a) (execOp a.eval x) w fun d v w'=>qad P C J (kindOf ops y a) (execOp a.eval y) w' fun e u w''=>K (y7 (y7 a y.dst e u) x.dst d v) w'':=by
      refine YC hw (fun d v w' hw' hh => ?_) h
      exact YC hw' (fun e u w'' _ hh=>by obtain ⟨rfl,hh⟩:=hh; rw [← qjJ a d none v u h2 (.inr rfl)]; exact hh) (qhZ hk hh)
    exact swap hC hsw hw h4
def anyM (P:Program) (ops:Array Oper) (C:World→World→Prop) (J:World→Prop) (Q:Act→World→Prop):Nat→Array Bool→Act→World→Prop
  | 0,listed,a,w=>Region.ready .any ops listed = []∧Q a w
  | fuel+1,listed,a,w=>(Region.ready .any ops listed = []→Q a w)∧∀ i∈Region.ready .any ops listed,mOp P ops C J i (anyM P ops C J Q fuel (listed.setIfInBounds i true)) a w
def Closed (ops:Array Oper) (listed:Array Bool):Prop :=
  ∀ j o,ops[j]? = some o→listed.getD j false=true→∀ e∈o.after,Region.binds .any e=true→listed.getD e.on false=true
theorem Closed.set {listed:Array Bool} (h:Closed ops listed) {i:Nat} (hi:i∈Region.ready .any ops listed):Closed ops (listed.setIfInBounds i true):=by
  obtain ⟨_,oi,hoi,hall⟩:=mem_ready.1 hi
  intro j o hj hl e he hb
  by_cases hij:i=j
  · subst hij
    rw [hoi] at hj
    injection hj with hj
    subst hj
    exact getD_set_true (hall e he hb)
  · rw [getD_set_ne false hij] at hl
    exact getD_set_true (h j o hj hl e he hb)
theorem qeX {b:Array Nat} (h:qcC ops b=true) {j i:Nat} (hj:j<ops.size) (hi:i<ops.size) (hb:qae b j i=true) :
    ∃ o,ops[j]? = some o∧∃ e∈o.after,Region.binds .any e=true∧e.on<j∧(e.on=i∨qae b e.on i=true):=by
  unfold qcC at h
  have h1:=List.all_eq_true.1 (List.all_eq_true.1 h j (List.mem_range.2 hj)) i (List.mem_range.2 hi)
  rw [hb] at h1
  have h1:(match ops[j]? with
     | some o=>o.after.any fun e=>Region.binds .any e&&decide (e.on<j)&&(e.on==i||qae b e.on i)
     | none=>false)=true:=by simpa using h1
  split at h1
  · rename_i o ho
    obtain ⟨e,he,hb'⟩:=Array.any_eq_true'.1 h1
    simp only [Bool.and_eq_true,decide_eq_true_eq,Bool.or_eq_true,beq_iff_eq] at hb'
    exact ⟨o,ho,e,he,hb'.1.1,hb'.1.2,hb'.2⟩
  · cases h1
theorem qms {b:Array Nat} (h:qcC ops b=true) {listed:Array Bool} (hcl:Closed ops listed) {i:Nat} (hi:i<ops.size) :
    ∀ (n j:Nat),j≤n→j<ops.size→qae b j i=true→listed.getD j false=true→listed.getD i false=true:=by
  intro n
  induction n with
  | zero =>
    intro j hjn hj hb hl
    obtain ⟨o,ho,e,he,hbi,hlt,_⟩:=qeX h hj hi hb
    omega
  | succ n ih =>
    intro j hjn hj hb hl
    obtain ⟨o,ho,e,he,hbi,hlt,hor⟩:=qeX h hj hi hb
    have hle:=hcl j o ho hl e he hbi
    rcases hor with rfl | hor
    · exact hle
    · exact ih e.on (by omega) (by omega) hor hle
theorem qaA {b:Array Nat} (h:qcC ops b=true) {listed:Array Bool} (hcl:Closed ops listed) {i j:Nat} (hi:i<ops.size) (hj:j∈Region.ready .any ops listed)
    (hb:qae b j i=true):listed.getD i false=true:=by
  obtain ⟨_,o,ho,hall⟩:=mem_ready.1 hj
  have hjs:j<ops.size:=(Array.getElem?_eq_some_iff.1 ho).1
  obtain ⟨o',ho',e,he,hbi,hlt,hor⟩:=qeX h hjs hi hb
  rw [ho] at ho'
  injection ho' with ho'
  subst ho'
  have hle:=hall e he hbi
  rcases hor with rfl | hor
  · exact hle
  · exact qms h hcl hi e.on e.on (Nat.le_refl _) (by omega) hor hle
structure Static (ga:Nat) (ops:Array Oper):Prop where
  cert:qcC ops (Region.before ops)=true
  sel:Region.noSelect ops=true
  back:∀ (i:Nat) (o:Oper),ops[i]? = some o→∀ e∈o.after,Region.binds .any e=true→e.on<i
  pairs:∀ (i j:Nat) (x y:Oper),ops[i]? = some x→ops[j]? = some y→i<j→qae (Region.before ops) j i=true∨(x.apart ops y=true∧qbd ga x y=true)
theorem qoR {ga:Nat} (h:qjR ga ops=true):Static ga ops:=by
  simp only [qjR,Bool.and_eq_true] at h
  obtain ⟨h1,h2,h3,h4⟩:=h
  refine ⟨h1,h2,fun i o ho e he hb => ?_,fun i j x y hx hy hij => ?_⟩
  · have h5:=Array.all_eq_true_iff_forall_mem.1 h3 (o,i) (by
      rw [Array.mem_iff_getElem?]
      exact ⟨i,by simp [Array.getElem?_zipIdx,ho]⟩)
    have h6:=Array.all_eq_true_iff_forall_mem.1 h5 e he
    simpa [hb] using h6
  · have hi:i<ops.size:=(Array.getElem?_eq_some_iff.1 hx).1
    have hj:j<ops.size:=(Array.getElem?_eq_some_iff.1 hy).1
    have h5:=List.all_eq_true.1 (List.all_eq_true.1 h4 i (List.mem_range.2 hi)) j (List.mem_range.2 hj)
    simp only [hx,hy,hij,decide_true,Bool.not_true,Bool.false_or,Bool.or_eq_true,Bool.and_eq_true] at h5
    exact h5
theorem qnN (hC:∀ w,J w→C w w) {ga:Nat} (hga:ga=1→∀ w o w',C (w.alloc o) w'→C w w') (hgx:ga=2→∀ w w',C w w'↔J w') (hst:Static ga ops) {Q:Act→World→Prop} {i:Nat} {x:Oper} (hi:ops[i]? = some x) :
    ∀ (fuel:Nat) (listed:Array Bool) (a:Act) (w:World),J w→Closed ops listed→(∀ m,m<i→listed.getD m false=true)→i∈Region.ready .any ops listed →
      mOp P ops C J i (anyM P ops C J Q fuel (listed.setIfInBounds i true)) a w→anyM P ops C J Q (fuel+1) listed a w:=by
  have his:i<ops.size:=(Array.getElem?_eq_some_iff.1 hi).1
  intro fuel
  induction fuel with
  | zero =>
    intro listed a w hw hcl hlow hr H
    refine ⟨fun h=>(by rw [h] at hr; cases hr),fun j hj => ?_⟩
    by_cases hji:j=i
    · subst hji; exact H
    · obtain ⟨a',w',h0,_⟩:=qen hw H
      have:=ready_mono hj hji
      rw [h0] at this
      cases this
  | succ fuel ih =>
    intro listed a w hw hcl hlow hr H
    refine ⟨fun h=>(by rw [h] at hr; cases hr),fun j hj => ?_⟩
    by_cases hji:j=i
    · subst hji; exact H
    · obtain ⟨hjun,y,hy,hall⟩:=mem_ready.1 hj
      have hij:i<j:=by
        rcases Nat.lt_or_ge i j with h | h
        · exact h
        · have h1:=hlow j (by omega)
          rcases Nat.lt_or_ge j listed.size with h' | h'
          · simp [h'] at hjun h1; rw [hjun] at h1; cases h1
          · simp [Array.getElem?_eq_none h'] at h1
      have hiun:=(mem_ready.1 hr).1
      have hilt:i<listed.size:=by
        rcases Nat.lt_or_ge i listed.size with h' | h'
        · exact h'
        · simp [Array.getElem?_eq_none h'] at hiun
      have hnb:¬ qae (Region.before ops) j i=true:=fun hb=>by
        have h1:=qaA hst.cert hcl his hj hb
        simp [hilt] at hiun h1
        rw [hiun] at h1
        cases h1
      obtain ⟨hap,hpk⟩:=(hst.pairs i j x y hi hy hij).resolve_left hnb
      have H2:mOp P ops C J i (mOp P ops C J j (anyM P ops C J Q fuel ((listed.setIfInBounds i true).setIfInBounds j true))) a w :=
        JF hw (fun a' w' _ h=>h.2 j (ready_mono hj hji)) H
      have H3:=qfZ hC hga hgx hi hy (fun cs b=>Region.noSelect_spec hst.sel i x cs b hi) (fun cs b=>Region.noSelect_spec hst.sel j y cs b hy) hap hpk hw H2
      refine JF hw (fun a' w' hw' h=>ih (listed.setIfInBounds j true) a' w' hw' (hcl.set hj) (fun m hm=>getD_set_true (hlow m hm)) (ready_mono hr (Ne.symm hji)) ?_) H3
      rw [Array.setIfInBounds_comm _ _ hji]
      exact h
def walk (P:Program) (ops:Array Oper) (C:World→World→Prop) (J:World→Prop) (Q:Exit→Act→World→Prop):List Oper→Act→World→Prop
  | [],a,w=>Q .normal a w
  | o::rest,a,w=>if vT o=true then wpList P ops (Exit.then (fun a w=>J w∧walk P ops C J Q rest a w) bot) [o] a w else wpQuiet P ops (C w) (fun a'=>walk P ops C J Q rest a' w) [o] a
theorem Jh {o:Oper} {a:Act} {w:World} {K:Act→World→Prop} (h:o.wp P a w K bot):qe2 P (execOp a.eval o) w fun d v w'=>K (y7 a o.dst d v) w':=by
  unfold Oper.wp at h
  unfold qe2
  generalize (execOp a.eval o).run P w=r at *
  cases r with
  | ok n w' =>
    cases n <;> simp only [Oper.upon] at h ⊢ <;> first
      | exact h
      | exact Calls.mono h (fun e w'' he=>by
          cases e with
          | returned v=>exact he
          | panicked c=>exact he.elim
          | outgrown=>obtain ⟨_,_,he⟩:=he; exact he.elim)
  | halt x w'=>cases x <;> simp only [Oper.upon] at h <;> exact h.elim
theorem ZX {o:Oper} {a:Act} {w:World} {K:Act→World→Prop} {Q:Exit→Act→World→Prop} (h:qe2 P (execOp a.eval o) w fun d v w'=>K (y7 a o.dst d v) w'):o.wp P a w K Q:=by
  unfold Oper.wp
  unfold qe2 at h
  generalize (execOp a.eval o).run P w=r at *
  cases r with
  | ok n w' =>
    cases n <;> simp only [Oper.upon] at h ⊢ <;> first
      | exact h
      | exact Calls.mono h (fun e w'' he=>by
          cases e with
          | returned v=>exact he
          | panicked c=>exact he.elim
          | outgrown=>exact he.elim)
  | halt x w'=>exact h.elim
theorem ql3 {Q:Exit→Act→World→Prop} {i:Nat} {o:Oper} {rest:List Oper} {a:Act} {w:World} (hi:ops[i]? = some o) (h:walk P ops C J Q (o::rest) a w) :
    mOp P ops C J i (walk P ops C J Q rest) a w:=by
  unfold walk at h
  unfold mOp
  simp only [hi]
  by_cases he:vT o=true
  · rw [if_pos he] at h
    unfold wpList at h
    by_cases hw:Region.wanted o (yielded ops a.tmps)=true
    · rw [if_pos hw] at h
      rcases h with h | ⟨_,a0,w0,h⟩
      · rw [show kindOf ops o a = .eff by unfold kindOf; rw [if_pos hw,if_pos he]]
        exact Jh (K:=fun a w=>J w∧walk P ops C J Q rest a w) (Oper.wp_mono (fun a' w' h=>h) (by
          have:∀ {a' w'} {K:Act→World→Prop},wpList P ops (Exit.then K bot) [] a' w'=K a' w':=rfl
          refine Oper.wp_mono (K:=wpList P ops (Exit.then (fun a w=>J w∧walk P ops C J Q rest a w) bot) []) (fun a' w' h=>h) ?_
          revert h
          unfold Oper.wp
          generalize (execOp a.eval o).run P w=r
          cases r with
          | ok n w' =>
            cases n <;> simp only [Oper.upon] <;> intro h <;> first
              | exact h
              | exact Calls.mono h (fun e w'' he=>by
                  cases e with
                  | returned v=>exact he
                  | panicked c=>exact he
                  | outgrown=>obtain ⟨_,_,he⟩:=he; exact he.elim)
          | halt x w'=>cases x <;> simp only [Oper.upon] <;> intro h <;> exact h))
      · exact h.elim
    · rw [if_neg hw] at h
      rw [show kindOf ops o a = .skip by unfold kindOf; rw [if_neg hw]]
      exact (show J w∧walk P ops C J Q rest (a.put o.dst undef) w from h).2
  · have he':vT o=false:=by simpa using he
    rw [if_neg he] at h
    unfold wpQuiet at h
    by_cases hw:Region.wanted o (yielded ops a.tmps)=true
    · rw [if_pos hw] at h
      rw [show kindOf ops o a = .still by unfold kindOf; rw [if_pos hw,if_neg he]]
      obtain ⟨v,h1,h2⟩:=h
      refine ⟨v,fun w' hw' => ?_,h2⟩
      have h3:=h1 w' hw'
      unfold Oper.quietAt at h3
      cases hr:(execOp a.eval o).run P w' with
      | halt x w''=>rw [hr] at h3; simp only [Oper.quietUpon] at h3
      | ok n w'' =>
        rw [hr] at h3
        obtain ⟨u,rfl⟩:=value_of he' hr
        simp only [Oper.quietUpon] at h3
        obtain ⟨rfl,rfl⟩:=h3
        rfl
    · rw [if_neg hw] at h
      rw [show kindOf ops o a = .skip by unfold kindOf; rw [if_neg hw]]
      exact h
theorem qlf (hC:∀ w,J w→C w w) {ga:Nat} (hga:ga=1→∀ w o w',C (w.alloc o) w'→C w w') (hgx:ga=2→∀ w w',C w w'↔J w') (hst:Static ga ops) {Q:Exit→Act→World→Prop} :
    ∀ (l:List Oper) (k:Nat) (listed:Array Bool) (a:Act) (w:World),(∀ j,l[j]? = ops[k+j]?)→k+l.length=ops.size→listed.size=ops.size →
      (∀ m,m<ops.size→listed.getD m true=decide (m<k))→J w→walk P ops C J Q l a w→anyM P ops C J (Q .normal) l.length listed a w:=by
  intro l
  induction l with
  | nil =>
    intro k listed a w hl hk hs hls hw h
    refine ⟨?_,h⟩
    rw [List.eq_nil_iff_forall_not_mem]
    intro j hj
    obtain ⟨h1,o,ho,_⟩:=mem_ready.1 hj
    have hjs:j<ops.size:=(Array.getElem?_eq_some_iff.1 ho).1
    rw [hls j hjs] at h1
    simp only [List.length_nil,Nat.add_zero] at hk
    simp at h1
    omega
  | cons o rest ih =>
    intro k listed a w hl hk hs hls hw h
    have h0:ops[k]? = some o:=by simpa using (hl 0).symm
    have hks:k<ops.size:=(Array.getElem?_eq_some_iff.1 h0).1
    have both:∀ m,m<ops.size→listed.getD m false=listed.getD m true:=fun m hm=>by simp [hs,hm]
    have hr:k∈Region.ready .any ops listed:=by
      rw [mem_ready]
      refine ⟨by rw [hls k hks]; simp,o,h0,fun e he hb => ?_⟩
      have:=hst.back k o h0 e he hb
      rw [both e.on (by omega),hls e.on (by omega)]
      simpa using this
    have hcl:Closed ops listed:=by
      intro j oj hj hlj e he hb
      have hjs:j<ops.size:=(Array.getElem?_eq_some_iff.1 hj).1
      have:=hst.back j oj hj e he hb
      rw [both j hjs,hls j hjs] at hlj
      rw [both e.on (by omega),hls e.on (by omega)]
      simp at hlj ⊢
      omega
    refine qnN hC hga hgx hst h0 rest.length listed a w hw hcl (fun m hm=>by rw [both m (by omega),hls m (by omega)]; simpa using hm) hr ?_
    refine JF hw (fun a' w' hw' h' => ?_) (ql3 h0 h)
    refine ih (k+1) (listed.setIfInBounds k true) a' w' (fun j=>by have:=hl (j+1); simpa [Nat.add_assoc,Nat.add_comm 1 j] using this) (by simp only [List.length_cons] at hk; omega) (by simpa using hs) (fun m hm => ?_) hw' h'
    by_cases hmk:k=m
    · subst hmk
      simp [hs,hks]
    · rw [getD_set_ne true hmk,hls m hm]
      simp only [decide_eq_decide]
      omega
theorem qhn (hC:∀ w,J w→C w w) {Q:Exit→Act→World→Prop}:∀ (fuel:Nat) (listed:Array Bool) (a:Act) (w:World),J w→anyM P ops C J (Q .normal) fuel listed a w →
    wpAny P .any ops (Exit.then (Q .normal) bot) fuel listed a w
  | 0,_,_,_,_,h=>h
  | fuel+1,listed,a,w,hJ,h=>by
    refine ⟨h.1,fun i hi => ?_⟩
    have h1:=JF hJ (fun a w hw h=>qhn hC (Q:=Q) fuel _ a w hw h) (h.2 i hi)
    unfold mOp at h1
    unfold wpOp
    cases ho:ops[i]? with
    | none=>rw [ho] at h1; exact h1
    | some o =>
      simp only [ho] at h1 ⊢
      unfold kindOf at h1
      by_cases hw:Region.wanted o (yielded ops a.tmps)=true
      · rw [if_pos hw] at h1
        rw [if_pos hw]
        by_cases he:vT o=true
        · rw [if_pos he] at h1
          exact .inl (ZX (Zt (P:=P) (K:=fun d v w'=>J w'∧wpAny P .any ops (Exit.then (Q .normal) bot) fuel (listed.setIfInBounds i true) (y7 a o.dst d v) w') (fun d v w h=>h.2) h1))
        · rw [if_neg he] at h1
          obtain ⟨v,h2,h3⟩:=h1
          refine .inl ?_
          unfold Oper.wp
          rw [h2 w (hC w hJ)]
          exact h3
      · rw [if_neg hw] at h1
        rw [if_neg hw]
        exact h1
end
theorem qhO {P:Program} {C:World→World→Prop} {J:World→Prop} (hC:∀ w,J w→C w w) {ga:Nat} (hga:ga=1→∀ w o w',C (w.alloc o) w'→C w w') (hgx:ga=2→∀ w w',C w w'↔J w') {id:Nat} {l:List Oper} {Q:Exit→Act→World→Prop} {a:Act} {w:World}
    (hm:P.follows .mixedOrders=true) (hB:qjR ga l.toArray=true) (hw:J w.drew) (h:walk P l.toArray C J Q l a w.drew):(Code.region id l.toArray true).wp P Q a w:=by
  have h1:=qlf hC hga hgx (qoR hB) l 0 (Array.replicate l.toArray.size false) a w.drew (by simp) (by simp) (by simp) (fun m hm=>by simp at hm; simp [hm]) hw h
  have h2:=qhn hC (Q:=Q) _ _ _ _ hw h1
  refine Code.wp_mono (Q:=Exit.then (Q .normal) bot) (fun e a w h => ?_) (wp_region_any hm (by simpa using h2))
  cases e <;> first | exact h | exact h.elim
structure More where
  d:Nat
  os:Array Obj
instance:Inhabited More:=⟨⟨0,#[]⟩⟩
def ext (w:World) (p:More):World := { w with heap:=w.heap++p.os,drawn:=p.d }
end Mix
end Go.Proofs.YtnconfggojpkcaaGreat
namespace Go.Proofs.YtnconfggojpkcaaGreat
open Go.RowKit
namespace AM
section
variable {P:Program} {c:Cx} {N:Nat} {s:St} {a:Act} {w:World} {K:St→Prop}
def Yl (P:Program) (o:Oper) (a:Act) (w:World) (Q:Act→World→Prop):Prop:=o.wp P a w Q Mix.bot
theorem Reads.acts {o:Oper} {Q:Act→World→Prop} (h:Reads P o a w Q):Yl P o a w Q:=by
 obtain ⟨v,h1,h2⟩:=h
 unfold Yl Oper.wp
 rw [h1 w (fun _=>Agree.refl w)]
 exact h2
theorem Zg {o:Oper} {Q:Act→World→Prop} {v:Value} {w':World} (hr:(execOp a.eval o).run P w = .ok (.value v) w') (h:Q (a.put o.dst v) w'):Yl P o a w Q:=by
 unfold Yl Oper.wp
 rw [hr]
 exact h
theorem qbt {o:Oper} {Q:Act→World→Prop} {w':World} (hr:(execOp a.eval o).run P w = .ok .skip w') (h:Q (a.put o.dst undef) w'):Yl P o a w Q:=by
 unfold Yl Oper.wp
 rw [hr]
 exact h
theorem Post.step {c':Cx} {w' w'':World} {a':Act} (x:Ext c w c' w') (h:Post c' w' N K a' w''):Post c w N K a' w'':=by
 obtain ⟨c2,s2,h1,h2,h3⟩:=h
 exact ⟨c2,s2,h1,x.trans h2,h3⟩
def V.one:V→Bool
 | .sc v=>v.oneCell'
 | .agg _=>false
 | .tup _=>false
 | _=>true
theorem one_rel {I:Nat→Nat→Option Value} {φ:List Nat} {x:V} {v:Value} (h:Rel I φ x v) (h1:x.one=true):v.oneCell'=true:=by
 cases h <;> first | exact h1 | rfl | (simp [V.one] at h1)
theorem qcN {I:Nat→Nat→Option Value} {φ:List Nat}:∀ {xs:List V} {vs:List Value},vM I φ xs vs→xs.all V.one=true→∀ v∈vs,v.oneCell'=true
 | _,_,.nil,_=>fun v hv=>by cases hv
 | _,_,.cons h k,h1=>fun v hv=>by
  simp only [List.all_cons,Bool.and_eq_true] at h1
  rcases List.mem_cons.1 hv with rfl | hv
  ·exact one_rel h h1.1
  ·exact qcN k h1.2 v hv
def qdN (P:Program) (t:TypeId):Option Value:=(P.info? t).bind (·.zero)
theorem Xk {t:TypeId} {z:Value} (h:qdN P t=some z) (w:World):(zeroValue t).run P w = .ok z w:=by
 unfold qdN at h
 unfold zeroValue typeInfo program
 cases hu:P.info? t with
 | none=>rw [hu] at h; cases h
 | some d =>
  rw [hu] at h
  simp only [Option.bind_some] at h
  simp only [Sem.run_bind,Sem.run,Result.andThen_ok,hu,Sem.run_pure,h]
def za (P:Program) (t:TypeId):Option (List V):=match qdN P t with
 | some z=>bif z.cells.toList.all (·.oneCell') then some (z.cells.toList.map V.vL) else none
 | none=>none
theorem qbG (e:TypeId) (cells:Array Value) (w:World):(newRow e cells).run P w = .ok ⟨w.heap.size,0,none⟩ (w.alloc (.cells cells e)):=by
 unfold newRow newObj
 simp only [Sem.run_bind,Sem.run,Result.andThen_ok,Sem.run_pure]
 rfl
def ZH (N:Nat) (dst:Option Tmp) (cs:List V) (s:St) (K:St→Prop):Prop:=match dst with
 | some d=>d<N∧K ⟨vO d (.v (.ptr s.H.length 0)) s.F,s.H ++ [.cells (cs.map .v)]⟩
 | none=>False
theorem qjV {dst:Option Tmp} {cs:List V} {arr:Array Value} {e:TypeId} (h:Sim c N s a w) (hk:ZH N dst cs s K) (hc:vM c.I c.φ cs arr.toList) (h1:∀ v∈arr.toList,v.oneCell'=true) :
  Post c w N K (a.put dst (.pointer (some ⟨w.heap.size,0,none⟩))) (w.alloc (.cells arr e)):=by
 cases dst with
 | none=>exact hk.elim
 | some d =>
  obtain ⟨k1,k2⟩:=hk
  have hs:=Sim.lay (F:=s.F) (H:=s.H) (e:=e) h hc h1
  have hp:=lay_ptr h.inv w.heap.size
  exact ⟨_,_,hs.put k1 (x := .v (.ptr s.H.length 0)) trivial hp,(Ext.lay c w _).trans (Ext.free _ _ _),k2⟩
def yc (P:Program) (N:Nat) (dst:Option Tmp) (t:TypeId) (s:St) (K:St→Prop):Prop:=match za P t with
 | some cs=>ZH N dst cs s K
 | none=>False
theorem qmJ {o:Oper} {t:TypeId} (ho:o.op = .alloc t) (h:Sim c N s a w) (hk:yc P N o.dst t s K):Yl P o a w (Post c w N K):=by
 unfold yc za at hk
 cases hz:qdN P t with
 | none=>rw [hz] at hk; exact hk.elim
 | some z =>
  rw [hz] at hk
  simp only at hk
  cases h1:z.cells.toList.all (·.oneCell') with
  | false=>rw [h1] at hk; exact hk.elim
  | true =>
   rw [h1] at hk
   simp only [cond_true] at hk
   refine Zg (v := .pointer (some ⟨w.heap.size,0,none⟩)) (w':=w.alloc (.cells z.cells t)) ?_ (qjV h hk (qaP qar _) fun v hv=>List.all_eq_true.1 h1 v hv)
   unfold execOp
   simp only [ho,Instr.alloc,Sem.run_bind,Xk hz,Result.andThen_ok,newVar,qbG,Sem.run_pure]
def ZE (N:Nat) (dst:Option Tmp) (x:Operand) (s:St) (K:St→Prop):Prop:=match zZ s x with
 | some y=>(V.cells y).all V.one=true∧ZH N dst (V.cells y) s K
 | none=>False
theorem qdd {I:Nat→Nat→Option Value} {φ:List Nat} {y:V} {v:Value} (h:Rel I φ y v) (h1:(V.cells y).all V.one=true):vM I φ (V.cells y) v.cells.toList:=by
 cases h with
 | agg h=>exact h
 | sc =>
  have:v.cells = #[v]:=by
   cases v <;> first | rfl | (simp [V.cells,V.one,Value.oneCell'] at h1)
  rw [this]
  exact .cons (.sc _) .nil
 | tup h=>simp [V.cells,V.one] at h1
 | nil=>exact .cons .nil .nil
 | sl a1 a2 a3 a4 a5 a6=>exact .cons (.sl a1 a2 a3 a4 a5 a6) .nil
 | sl0=>exact .cons .sl0 .nil
 | rd a1 a2 a3=>exact .cons (.rd a1 a2 a3) .nil
 | ptr h=>exact .cons (.ptr h) .nil
 | map h=>exact .cons (.map h) .nil
 | fn a1 a2=>exact .cons (.fn a1 a2) .nil
 | iface h=>exact .cons (.iface h) .nil
 | fs a1 a2 a3 a4 a5=>exact .cons (.fs a1 a2 a3 a4 a5) .nil
 | fs0=>exact .cons .fs0 .nil
 | slb a1 a2 a3=>exact .cons (.slb a1 a2 a3) .nil
 | slb0=>exact .cons .slb0 .nil
theorem qpv {o:Oper} {t:TypeId} {x:Operand} (ho:o.op = .box t x) (h:Sim c N s a w) (hk:ZE N o.dst x s K):Yl P o a w (Post c w N K):=by
 unfold ZE at hk
 cases hx:zZ s x with
 | none=>rw [hx] at hk; exact hk.elim
 | some y =>
  rw [hx] at hk
  obtain ⟨h1,hk⟩:=hk
  have hc:=qdd (vD h hx) h1
  refine Zg (v := .pointer (some ⟨w.heap.size,0,none⟩)) (w':=w.alloc (.cells (a.eval x).cells t)) ?_ (qjV h hk hc (qcN hc h1))
  unfold execOp
  simp only [ho,Instr.box,Sem.run_bind,Result.andThen_ok,newVar,qbG,Sem.run_pure]
def setCells (H:List Bk) (id off:Nat):List V→List Bk
 | []=>H
 | x::xs=>setCells (qo H id off (.v x)) id (off+1) xs
def ze (P:Program) (t:TypeId) (x y:Operand) (s:St) (K:St→Prop):Prop:=match y,eval s y,eval s x,sizeT P t with
 | .tmp u,some (.own pr e n sz cs),some (.v (.ptr id off)),some m=>m=1∧(match s.H[id]? with
  | some (.cells ks)=>Nat.ble (off+1) ks.length=true∧K ⟨QI (.cell id off) (del u s.F),qo s.H id off (.own pr e n sz cs)⟩
  | _=>False)
 | _,_,_,_=>False
def Qz:Option SV→Bool
 | some (.own ..)=>true
 | _=>false
def yt (P:Program) (dst:Option Tmp) (t:TypeId) (x y:Operand) (s:St) (K:St→Prop):Prop:=dst=none∧bif Qz (eval s y) then ze P t x y s K else match eval s x,zZ s y,sizeT P t with
 | some (.v (.ptr id off)),some v,some n=>(V.cells v).all V.one=true∧(V.cells v).length=n∧(match s.H[id]? with
  | some (.cells ks)=>Nat.ble (off+n) ks.length=true∧K ⟨s.F,setCells s.H id off (V.cells v)⟩
  | _=>False)
 | some (.pth (.slot t) off),some v,some n=>(V.cells v).all V.one=true∧(V.cells v).length=n∧(match qm t s.F with
  | some (.own true e m sz cs)=>off+n≤cs.length∧K ⟨yR t (.own true e m sz (cs.take off++V.cells v++cs.drop (off+n))) s.F,s.H⟩
  | _=>False)
 | some (.pth (.cell id j) off),some v,some n=>(V.cells v).all V.one=true∧(V.cells v).length=n∧(match s.H[id]? with
  | some (.cells ks)=>(match ks[j]? with
   | some (.own true e m sz cs)=>off+n≤cs.length∧K ⟨s.F,qo s.H id j (.own true e m sz (cs.take off++V.cells v++cs.drop (off+n)))⟩
   | _=>False)
  | _=>False)
 | _,_,_=>False
theorem qdk {b o:Nat} {v u:Value} {arr:Array Value} {e:TypeId} (hb:w.heap[b]? = some (.cells arr e (0,0))) (hu:arr[o]? = some u) (h1:v.oneCell'=true):(store ⟨b,o,none⟩ v).run P w = .ok () (w.setCell ⟨b,o,none⟩ v):=by
 rw [run_store P w _ v .plain h1]
 have hc:w.cell? ⟨b,o,none⟩=some u:=by simp [World.cell?,hb,hu]
 have hf:w.frozen? ⟨b,o,none⟩=false:=by simp [World.frozen?,hb]
 rw [hc,hf]
 simp
theorem qgo {H:List Bk} {id j:Nat} {x:SV} {cs:List SV} (hk:H[id]? = some (.cells cs)):qo H id j x=H.set id (.cells (cs.set j x)):=by
 unfold qo
 rw [hk]
theorem qba {id b off:Nat}:∀ (xs:List V) (vs:List Value) (i:Nat) {H:List Bk} {ks:List SV} {w:World} {F:Fr},Sim c N ⟨F,H⟩ a w→c.φ[id]? = some b→H[id]? = some (.cells ks)→vM c.I c.φ xs vs→(∀ v∈vs,v.oneCell'=true) →
  off+i+xs.length≤ks.length→∃ w',(storeCells ⟨b,off,none⟩ vs i).run P w = .ok () w'∧Sim c N ⟨F,setCells H id (off+i) xs⟩ a w'∧Ext c w c w'
 | [],vs,i,H,ks,w,F,h,hb,hk,hr,h1,hl=>by
  cases hr
  exact ⟨w,by simp [storeCells],h,Ext.refl c w⟩
 | x::xs,vs,i,H,ks,w,F,h,hb,hk,hr,h1,hl=>by
  cases hr with
  | cons hx hr =>
   rename_i v vs
   obtain ⟨g0,_,arr,e,g1,g2,_,_⟩:=h.inv.blk id b _ hb hk
   simp only [List.length_cons] at hl
   have hlt:off+i<arr.size:=by omega
   have hv1:=h1 v (by simp)
   have hst:=qdk (P:=P) g1 (Array.getElem?_eq_getElem hlt) hv1
   have h2:=h.store (v:=v) (x:=x) (j:=off+i) hb hk hv1 hx
   have hk2:(H.set id (.cells (ks.set (off+i) (.v x))))[id]? = some (.cells (ks.set (off+i) (.v x))):=by
    rw [List.getElem?_set_self (List.getElem?_eq_some_iff.1 hk).1]
   obtain ⟨w',k1,k2,k3⟩:=qba (off:=off) xs vs (i+1) (ks:=ks.set (off+i) (.v x)) h2 hb hk2 hr (fun u hu=>h1 u (List.mem_cons_of_mem _ hu)) (by simp; omega)
   refine ⟨w',?_,?_,(Ext.store c w (by rw [g0]; simp)).trans k3⟩
   ·unfold storeCells
    rw [add_eq,Sem.run_bind,hst,Result.andThen_ok,k1]
   ·unfold setCells
    rw [qgo hk]
    exact k2
theorem qj5 {t:Nat} {x y:SV}:∀ {F:Fr},qm t F=some y→qm t (yR t x F)=some x
 | [],h=>by cases h
 | (k,z)::F,h=>by
  unfold qm at h
  cases hkt:k==t with
  | true=>simp [yR,qm,hkt]
  | false =>
   rw [hkt] at h
   simp only [cond_false] at h
   simp only [yR,hkt,cond_false,qm]
   exact qj5 h
theorem qgn {t:Nat} {x y:SV}:∀ {F:Fr},yR t x (yR t y F)=yR t x F
 | []=>rfl
 | (k,z)::F=>by
  cases hkt:k==t with
  | true=>simp [yR,hkt,qgn (F:=F)]
  | false=>simp [yR,hkt,qgn (F:=F)]
theorem qef {t e m sz b off:Nat}:∀ (xs:List V) (vs:List Value) (i:Nat) {cs:List V} {w:World} {F:Fr} {H:List Bk},Sim c N ⟨F,H⟩ a w→qm t F=some (.own true e m sz cs)→c.R b = .own (.slot t)→vM c.I c.φ xs vs→(∀ v∈vs,v.oneCell'=true) →
  off+i+xs.length≤cs.length→∃ w',(storeCells ⟨b,off,none⟩ vs i).run P w = .ok () w'∧Sim c N ⟨yR t (.own true e m sz (cs.take (off+i)++xs++cs.drop (off+i+xs.length))) F,H⟩ a w'∧Ext c w c w'
 | [],vs,i,cs,w,F,H,h,ht,hb,hr,h1,hl=>by
  cases hr
  refine ⟨w,by simp [storeCells],?_,Ext.refl c w⟩
  simp only [List.append_nil,List.length_nil,Nat.add_zero,List.take_append_drop]
  exact ⟨h.inv,h.size,h.defers,fun k x hx=>by
   rcases KD hx with ⟨rfl,rfl⟩ | ⟨_,hx⟩
   ·exact h.fr _ _ (QO ht)
   ·exact h.fr k x hx⟩
 | x::xs,vs,i,cs,w,F,H,h,ht,hb,hr,h1,hl=>by
  cases hr with
  | cons hx hr =>
   rename_i v vs
   simp only [List.length_cons] at hl
   have hv1:=h1 v (by simp)
   have hlt:off+i<cs.length:=by omega
   obtain ⟨h2,h3⟩:=h.poke (t:=t) (v:=v) (x:=x) (o:=off+i) ht hb hlt hv1 hx
   obtain ⟨u,hu,h0,us,q1,q2,_,q3⟩:=h.fr t _ (QO ht)
   have hst:(store ⟨b,off+i,none⟩ v).run P w = .ok () (w.setCell ⟨b,off+i,none⟩ v):=by
    rcases q2.2 with ⟨rfl,rfl⟩ | ⟨g,cap,cur,rfl,_,g1,g2,g3,g4,g5⟩
    ·obtain ⟨rfl,rfl⟩:=KU q1 q2
     simp at hlt
    ·have:=h.inv.uniq g b _ (q3 g rfl).1 hb
     subst this
     have hc:off+i<cur.size:=by
      have h6:=q2.1
      have h7:=q1.len
      have:m*sz≤cap*sz:=Nat.mul_le_mul_right _ g2
      omega
     exact qdk g1 (Array.getElem?_eq_getElem hc) hv1
   have hg:qm t (yR t (.own true e m sz (cs.set (off+i) x)) F)=some (.own true e m sz (cs.set (off+i) x)):=qj5 ht
   obtain ⟨w',k1,k2,k3⟩:=qef (off:=off) xs vs (i+1) (cs:=cs.set (off+i) x) h2 hg hb hr (fun u hu=>h1 u (List.mem_cons_of_mem _ hu)) (by simp; omega)
   refine ⟨w',?_,?_,h3.trans k3⟩
   ·unfold storeCells
    rw [add_eq,Sem.run_bind,hst,Result.andThen_ok,k1]
   ·refine k2.sub fun p hp => ?_
    have e1:(cs.set (off+i) x).take (off+(i+1))++xs++(cs.set (off+i) x).drop (off+(i+1)+xs.length)=cs.take (off+i)++(x::xs)++cs.drop (off+i+(xs.length+1)):=by
     rw [show off+(i+1)=off+i+1 by omega,List.drop_set_of_lt (by omega),List.take_set,List.take_succ_eq_append_getElem hlt]
     rw [List.set_append,if_neg (by simp; omega),List.length_take,Nat.min_eq_left (by omega),Nat.sub_self]
     simp only [List.set_cons_zero,List.append_assoc,List.cons_append,List.nil_append]
     rw [show off+i+1+xs.length=off+i+(xs.length+1) by omega]
    rw [e1]
    rw [qgn]
    exact hp
theorem Sim.pokeCell {id j e n sz o:Nat} {ks:List SV} {cs:List V} {x:V} {b:Nat} {v:Value} {F:Fr} {H:List Bk} (h:Sim c N ⟨F,H⟩ a w) (hk:H[id]? = some (.cells ks)) (hj:ks[j]? = some (.own true e n sz cs)) (hb:c.R b = .own (.cell id j)) (ho:o<cs.length) (hv1:v.oneCell'=true) (hx:Rel c.I c.φ x v) :
  Sim c N ⟨F,H.set id (.cells (ks.set j (.own true e n sz (cs.set o x))))⟩ a (w.setCell ⟨b,o,none⟩ v)∧Ext c w c (w.setCell ⟨b,o,none⟩ v):=by
 have hidl:=(List.getElem?_eq_some_iff.1 hk).1
 obtain ⟨b0,hb0⟩:∃ b0,c.φ[id]? = some b0:=by
  have h2:=h.inv.len
  exact ⟨c.φ[id],List.getElem?_eq_getElem (by rw [h2]; exact hidl)⟩
 obtain ⟨r0,i0,arr,e0,g1,g2,g6,g3⟩:=h.inv.blk id b0 _ hb0 hk
 have hjl:=(List.getElem?_eq_some_iff.1 hj).1
 have hja:j<arr.size:=by omega
 obtain ⟨f0,h0,vs,h1,h2,h6,h3⟩:=g3 j _ _ hj (Array.getElem?_eq_getElem hja)
 have hblk:arr[j].ownBlock=some b:=by
  generalize arr[j]=u at *
  rcases h2.2 with ⟨rfl,rfl⟩ | ⟨g,cap,cur,rfl,_⟩
  ·obtain ⟨rfl,rfl⟩:=KU h1 h2
   simp at ho
  ·have:=h.inv.uniq g b _ (h3 g rfl).1 hb
   subst this
   rfl
 obtain ⟨_,k2⟩:=h3 b hblk
 have k2':∀ o,c.I b o=none:=fun o=>by rw [k2]; rfl
 have hne0:b0≠b:=by rintro rfl; rw [r0] at hb; cases hb
 refine ⟨⟨⟨fun b' o' u hu => ?_,by rw [List.length_set]; exact h.inv.len,fun b' hb'=>by rw [size_set]; exact h.inv.lt b' hb',h.inv.uniq,fun id' b' k hb' hk' => ?_⟩,h.size,h.defers,fun k y hy => ?_⟩,Ext.store c w (by rw [hb]; simp)⟩
 ·have hne:b'≠b:=by rintro rfl; rw [k2'] at hu; cases hu
  rw [World.cell?_of_block (a:=⟨b',o',none⟩) (ZQ (w:=w) (p:=⟨b,o,none⟩) (u:=v) hne)]
  exact h.inv.imm b' o' u hu
 ·by_cases hid:id=id'
  ·subst hid
   rw [List.getElem?_set_self hidl] at hk'
   cases hk'
   rw [hb0] at hb'
   cases hb'
   refine ⟨r0,i0,arr,e0,(ZQ (w:=w) (p:=⟨b,o,none⟩) (u:=v) hne0).trans g1,by rw [List.length_set]; exact g2,g6,fun i y u hy hu => ?_⟩
   by_cases hij:j=i
   ·subst hij
    rw [List.getElem?_set_self hjl] at hy
    cases hy
    rw [Array.getElem?_eq_getElem hja] at hu
    cases hu
    refine ⟨rfl,h0,vs.set o v,h1.set o hx,qol h2 hblk (by rw [← h1.len]; exact ho),fun u hu=>(List.mem_or_eq_of_mem_set hu).elim (h6 u) (fun e=>e▸hv1),fun b' hb' => ?_⟩
    obtain ⟨k3,k4⟩:=h3 b' hb'
    exact ⟨k3,fun o=>by rw [k4]; rfl⟩
   ·rw [List.getElem?_set_ne hij] at hy
    obtain ⟨q1,q2⟩:=g3 i y u hy hu
    exact ⟨q1,q2.apart hb (by intro e; cases e; exact hij rfl)⟩
  ·rw [List.getElem?_set_ne hid] at hk'
   obtain ⟨q1,q2,q3⟩:=h.inv.blk id' b' k hb' hk'
   have hneb:b'≠b:=by rintro rfl; rw [q1] at hb; cases hb
   refine ⟨q1,q2,?_⟩
   by_cases hck:∃ cs,k = .cells cs
   rotate_left
   ·exact qac.stay (fun cs e=>hck ⟨cs,e⟩) q3 (fun _ _ _ h=>h) (fun _ _ h=>h) (fun _ _ h ho=>qkF h ho)
   obtain ⟨cs',rfl⟩:=hck
   obtain ⟨arr',e',p1,p2,p6,p3⟩:=q3
   refine ⟨arr',e',(ZQ (w:=w) (p:=⟨b,o,none⟩) (u:=v) hneb).trans p1,p2,p6,fun i y u hy hu => ?_⟩
   obtain ⟨q1,q2⟩:=p3 i y u hy hu
   exact ⟨q1,q2.apart hb (by intro e; cases e; exact hid rfl)⟩
 ·obtain ⟨u',hu',hs⟩:=h.fr k y hy
  exact ⟨u',hu',hs.apart hb (by simp)⟩
theorem qdF {id j e m sz b off:Nat}:∀ (xs:List V) (vs:List Value) (i:Nat) {ks:List SV} {cs:List V} {w:World} {F:Fr} {H:List Bk},Sim c N ⟨F,H⟩ a w→H[id]? = some (.cells ks)→ks[j]? = some (.own true e m sz cs)→c.R b = .own (.cell id j)→vM c.I c.φ xs vs→(∀ v∈vs,v.oneCell'=true) →
  off+i+xs.length≤cs.length→∃ w',(storeCells ⟨b,off,none⟩ vs i).run P w = .ok () w'∧Sim c N ⟨F,H.set id (.cells (ks.set j (.own true e m sz (cs.take (off+i)++xs++cs.drop (off+i+xs.length)))))⟩ a w'∧Ext c w c w'
 | [],vs,i,ks,cs,w,F,H,h,hk,hj,hb,hr,h1,hl=>by
  cases hr
  refine ⟨w,by simp [storeCells],?_,Ext.refl c w⟩
  simp only [List.append_nil,List.length_nil,Nat.add_zero,List.take_append_drop]
  have e1:ks.set j (.own true e m sz cs)=ks:=by
   obtain ⟨hl,hg⟩:=List.getElem?_eq_some_iff.1 hj
   rw [← hg,List.set_getElem_self]
  have e2:H.set id (.cells ks)=H:=by
   obtain ⟨hl,hg⟩:=List.getElem?_eq_some_iff.1 hk
   rw [← hg,List.set_getElem_self]
  rw [e1,e2]
  exact h
 | x::xs,vs,i,ks,cs,w,F,H,h,hk,hj,hb,hr,h1,hl=>by
  cases hr with
  | cons hx hr =>
   rename_i v vs
   simp only [List.length_cons] at hl
   have hv1:=h1 v (by simp)
   have hlt:off+i<cs.length:=by omega
   obtain ⟨h2,h3⟩:=h.pokeCell (v:=v) (x:=x) (o:=off+i) hk hj hb hlt hv1 hx
   have hst:(store ⟨b,off+i,none⟩ v).run P w = .ok () (w.setCell ⟨b,off+i,none⟩ v):=by
    have hidl:=(List.getElem?_eq_some_iff.1 hk).1
    obtain ⟨b0,hb0⟩:∃ b0,c.φ[id]? = some b0:=by
     have h2:=h.inv.len
     exact ⟨c.φ[id],List.getElem?_eq_getElem (by rw [h2]; exact hidl)⟩
    obtain ⟨r0,i0,arr,e0,g1,g2,g6,g3⟩:=h.inv.blk id b0 _ hb0 hk
    have hjl:=(List.getElem?_eq_some_iff.1 hj).1
    have hja:j<arr.size:=by omega
    obtain ⟨f0,h0,us,q1,q2,_,q3⟩:=g3 j _ _ hj (Array.getElem?_eq_getElem hja)
    generalize arr[j]=u at *
    rcases q2.2 with ⟨rfl,rfl⟩ | ⟨g,cap,cur,rfl,_,g1,g2,g3,g4,g5⟩
    ·obtain ⟨rfl,rfl⟩:=KU q1 q2
     simp at hlt
    ·have:=h.inv.uniq g b _ (q3 g rfl).1 hb
     subst this
     have hc:off+i<cur.size:=by
      have h6:=q2.1
      have h7:=q1.len
      have:m*sz≤cap*sz:=Nat.mul_le_mul_right _ g2
      omega
     exact qdk g1 (Array.getElem?_eq_getElem hc) hv1
   have hk2:(H.set id (.cells (ks.set j (.own true e m sz (cs.set (off+i) x)))))[id]? = some (.cells (ks.set j (.own true e m sz (cs.set (off+i) x)))):=List.getElem?_set_self (List.getElem?_eq_some_iff.1 hk).1
   have hj2:(ks.set j (.own true e m sz (cs.set (off+i) x)))[j]? = some (.own true e m sz (cs.set (off+i) x)):=List.getElem?_set_self (List.getElem?_eq_some_iff.1 hj).1
   obtain ⟨w',k1,k2,k3⟩:=qdF (off:=off) xs vs (i+1) h2 hk2 hj2 hb hr (fun u hu=>h1 u (List.mem_cons_of_mem _ hu)) (by simp; omega)
   refine ⟨w',?_,?_,h3.trans k3⟩
   ·unfold storeCells
    rw [add_eq,Sem.run_bind,hst,Result.andThen_ok,k1]
   ·have e1:(cs.set (off+i) x).take (off+(i+1))++xs++(cs.set (off+i) x).drop (off+(i+1)+xs.length)=cs.take (off+i)++(x::xs)++cs.drop (off+i+(xs.length+1)):=by
     rw [show off+(i+1)=off+i+1 by omega,List.drop_set_of_lt (by omega),List.take_set,List.take_succ_eq_append_getElem hlt]
     rw [List.set_append,if_neg (by simp; omega),List.length_take,Nat.min_eq_left (by omega),Nat.sub_self]
     simp only [List.set_cons_zero,List.append_assoc,List.cons_append,List.nil_append]
     rw [show off+i+1+xs.length=off+i+(xs.length+1) by omega]
    rw [e1,List.set_set,List.set_set] at k2
    exact k2
theorem qmC {o:Oper} {t:TypeId} {x y:Operand} (ho:o.op = .store t x y) (h:Sim c N s a w) (hk:yt P o.dst t x y s K):Yl P o a w (Post c w N K):=by
 obtain ⟨hd,hk⟩:=hk
 cases hio:Qz (eval s y) with
 | true =>
  rw [hio] at hk
  simp only [cond_true] at hk
  unfold ze at hk
  split at hk
  ·rename_i u pr e n sz cs id off m hx hn hy
   obtain ⟨rfl,hk⟩:=hk
   cases hb':s.H[id]? with
   | none=>rw [hb'] at hk; exact hk.elim
   | some blk =>
    by_cases hck:∃ cs,blk = .cells cs
    rotate_left
    ·rw [hb'] at hk; cases blk <;> first | exact absurd ⟨_,rfl⟩ hck | cases hk | exact hk.elim
    obtain ⟨ks,rfl⟩:=hck
    rw [hb'] at hk
    obtain ⟨h3,hk⟩:=hk
    have h3:=Nat.le_of_ble_eq_true h3
    have hp:=JJ h hx (fun _ _ _ _ _ e=>by cases e) (.slot 0)
    generalize hv:a.eval x=q at hp
    cases hp with
    | ptr hb =>
     rename_i b
     obtain ⟨c',v,k1,k2,k3,k4⟩:=Sim.place (F:=s.F) (H:=s.H) h hy hb hb' (off:=off) (by omega)
     obtain ⟨_,_,arr,e',g1,g2,_,_⟩:=h.inv.blk id b _ hb hb'
     have hst:=qdk (P:=P) g1 (Array.getElem?_eq_getElem (i:=off) (by omega)) k2
     refine qbt (w':=w.setCell ⟨b,off,none⟩ v) ?_ ⟨c',_,by rw [hd]; exact k3,k4,hk⟩
     have ev:a.eval (.tmp u)=v:=by simp [Act.eval,k1]
     have hsz:v.cells = #[v]:=by cases v <;> first | rfl | (simp [Value.oneCell'] at k2)
     unfold execOp
     simp only [ho,hv,ev,Instr.storeAt,Instr.sureAddr,Sem.run_bind,Sem.run_pure,Result.andThen_ok,storeVar,run_sizeOf hn,hsz]
     simp [storeCells,add_eq,hst]
  ·exact hk.elim
 | false =>
 rw [hio] at hk
 simp only [cond_false] at hk
 split at hk
 ·rename_i id off v n hx hy hn
  obtain ⟨h1,h2,hk⟩:=hk
  cases hb':s.H[id]? with
  | none=>rw [hb'] at hk; exact hk.elim
  | some blk =>
   by_cases hck:∃ cs,blk = .cells cs
   rotate_left
   ·rw [hb'] at hk; cases blk <;> first | exact absurd ⟨_,rfl⟩ hck | cases hk | exact hk.elim
   obtain ⟨ks,rfl⟩:=hck
   rw [hb'] at hk
   obtain ⟨h3,hk⟩:=hk
   have h3:=Nat.le_of_ble_eq_true h3
   have hp:=JJ h hx (fun _ _ _ _ _ e=>by cases e) (.slot 0)
   generalize hv:a.eval x=u at hp
   cases hp with
   | ptr hb =>
    rename_i b
    have hc:=qdd (vD h hy) h1
    obtain ⟨w',k1,k2,k3⟩:=qba (P:=P) (off:=off) (V.cells v) (a.eval y).cells.toList 0 (F:=s.F) h hb hb' hc (qcN hc h1) (by omega)
    refine qbt (w':=w') ?_ ⟨c,_,by rw [hd]; exact k2,k3,by simpa using hk⟩
    have hsz:(a.eval y).cells.size=n:=by rw [← h2,hc.len]; simp
    unfold execOp
    simp only [ho,hv,Instr.storeAt,Instr.sureAddr,Sem.run_bind,Sem.run_pure,Result.andThen_ok,storeVar,run_sizeOf hn]
    rw [if_neg (by simpa using hsz),k1]
    simp
 ·rename_i t' off v n hx hy hn
  obtain ⟨h1,h2,hk⟩:=hk
  split at hk
  ·rename_i e m sz cs ht
   obtain ⟨h3,hk⟩:=hk
   obtain ⟨b,hv,hb⟩:=JJ h hx (fun _ _ _ _ _ e=>by cases e) (.slot 0)
   have hc:=qdd (vD h hy) h1
   obtain ⟨w',k1,k2,k3⟩:=qef (P:=P) (off:=off) (V.cells v) (a.eval y).cells.toList 0 (F:=s.F) (H:=s.H) h ht hb hc (qcN hc h1) (by omega)
   have e1:(V.cells v).length=n:=h2
   simp only [Nat.add_zero,e1] at k2
   refine qbt (w':=w') ?_ ⟨c,_,by rw [hd]; exact k2,k3,hk⟩
   have hsz:(a.eval y).cells.size=n:=by rw [← h2,hc.len]; simp
   unfold execOp
   simp only [ho,hv,Instr.storeAt,Instr.sureAddr,Sem.run_bind,Sem.run_pure,Result.andThen_ok,storeVar,run_sizeOf hn]
   rw [if_neg (by simpa using hsz),k1]
   simp
  ·exact hk.elim
 ·rename_i id j off v n hx hy hn
  obtain ⟨h1,h2,hk⟩:=hk
  split at hk
  ·rename_i ks hks
   split at hk
   ·rename_i e m sz cs hj
    obtain ⟨h3,hk⟩:=hk
    obtain ⟨b,hv,hb⟩:=JJ h hx (fun _ _ _ _ _ e=>by cases e) (.slot 0)
    have hc:=qdd (vD h hy) h1
    obtain ⟨w',k1,k2,k3⟩:=qdF (P:=P) (off:=off) (V.cells v) (a.eval y).cells.toList 0 (F:=s.F) (H:=s.H) h hks hj hb hc (qcN hc h1) (by omega)
    have e1:(V.cells v).length=n:=h2
    simp only [Nat.add_zero,e1] at k2
    rw [qgo hks] at hk
    refine qbt (w':=w') ?_ ⟨c,_,by rw [hd]; exact k2,k3,hk⟩
    have hsz:(a.eval y).cells.size=n:=by rw [← h2,hc.len]; simp
    unfold execOp
    simp only [ho,hv,Instr.storeAt,Instr.sureAddr,Sem.run_bind,Sem.run_pure,Result.andThen_ok,storeVar,run_sizeOf hn]
    rw [if_neg (by simpa using hsz),k1]
    simp
   ·exact hk.elim
  ·exact hk.elim
 ·exact hk.elim
end
section
variable {P:Program} {c:Cx} {N:Nat} {s:St} {a:Act} {w:World} {K:St→Prop}
def putAt (cs:List V) (off:Nat) (xs:List V):List V:=cs.take off++xs++cs.drop (off+xs.length)
def Qd (place:Nat→Option (Nat×Nat)) (cs:List V):List (Nat×V)→Option (List V)
 | []=>some cs
 | (i,v)::rest=>match place i with
  | none=>none
  | some (off,size)=>bif (V.cells v).length==size&&Nat.ble (off+size) cs.length&&(V.cells v).all V.one then Qd place (putAt cs off (V.cells v)) rest else none
theorem foldl_set (vs:List Value):∀ (arr:Array Value) (off k:Nat),off+k+vs.length≤arr.size →
  ((vs.zipIdx k).foldl (fun cs (p:Value×Nat)=>cs.setIfInBounds (off+p.2) p.1) arr).toList=arr.toList.take (off+k)++vs++arr.toList.drop (off+k+vs.length):=by
 induction vs with
 | nil=>intro arr off k h; simp
 | cons v vs ih =>
  intro arr off k h
  simp only [List.length_cons] at h
  rw [List.zipIdx_cons,List.foldl_cons,ih _ off (k+1) (by simp; omega),Array.toList_setIfInBounds]
  have hlt:off+k<arr.toList.length:=by simp; omega
  rw [show off+(k+1)=off+k+1 by omega,List.take_set,List.take_succ_eq_append_getElem hlt,List.drop_set_of_lt (by omega)]
  rw [List.set_append,if_neg (by simp; omega),List.length_take,Nat.min_eq_left (by omega),Nat.sub_self]
  simp only [List.set_cons_zero,List.append_assoc,List.cons_append,List.nil_append,List.length_cons]
  rw [show off+k+1+vs.length=off+k+(vs.length+1) by omega]
theorem vM.putAt {I:Nat→Nat→Option Value} {φ:List Nat} {cs xs:List V} {vs us:List Value} (h:vM I φ cs vs) (k:vM I φ xs us) (off:Nat):vM I φ (putAt cs off xs) (vs.take off++us++vs.drop (off+us.length)):=by
 unfold AM.putAt
 rw [← k.len]
 exact ((h.take off).append k).append (h.drop _)
inductive Parts (I:Nat→Nat→Option Value) (φ:List Nat):List (Nat×V)→List (Nat×Value)→Prop
 | nil:Parts I φ [] []
 | cons {i:Nat} {x:V} {v:Value} {xs:List (Nat×V)} {vs:List (Nat×Value)}:Rel I φ x v→Parts I φ xs vs→Parts I φ ((i,x)::xs) ((i,v)::vs)
theorem qgM {I:Nat→Nat→Option Value} {φ:List Nat} {place:Nat→Option (Nat×Nat)}:∀ {ps:List (Nat×V)} {qs:List (Nat×Value)} {cs ds:List V} {arr:Array Value},Parts I φ ps qs→vM I φ cs arr.toList→(∀ v∈arr.toList,v.oneCell'=true) →
  Qd place cs ps=some ds→∃ arr',Instr.fill place arr qs=some arr'∧vM I φ ds arr'.toList∧arr'.size=arr.size∧∀ v∈arr'.toList,v.oneCell'=true
 | _,_,cs,ds,arr,.nil,hc,h1,hf=>by
  cases hf
  exact ⟨arr,rfl,hc,rfl,h1⟩
 | _,_,cs,ds,arr,.cons (i:=i) (x:=x) (v:=v) (xs:=xs) (vs:=vs) hx hp,hc,h1,hf=>by
  unfold Qd at hf
  unfold Instr.fill
  cases hpl:place i with
  | none=>rw [hpl] at hf; cases hf
  | some p =>
   obtain ⟨off,size⟩:=p
   rw [hpl] at hf
   simp only at hf ⊢
   cases hb:((V.cells x).length==size&&Nat.ble (off+size) cs.length&&(V.cells x).all V.one) with
   | false=>rw [hb] at hf; cases hf
   | true =>
    rw [hb] at hf
    simp only [cond_true] at hf
    simp only [Bool.and_eq_true,beq_iff_eq] at hb
    obtain ⟨⟨b1,b2⟩,b3⟩:=hb
    have b2:=Nat.le_of_ble_eq_true b2
    have hcr:=qdd hx b3
    have hsz:v.cells.size=size:=by rw [← b1,hcr.len]; simp
    have hcl:=hc.len
    simp only [Array.length_toList] at hcl
    rw [if_neg (by simp [hsz]; omega)]
    have hfold:=foldl_set v.cells.toList arr off 0 (by simp [hsz]; omega)
    have e1:Array.foldl (fun cs (x:Value×Nat)=>match x with | (c,j)=>cs.setIfInBounds (off+j) c) arr v.cells.zipIdx=((v.cells.toList.zipIdx 0).foldl (fun cs (p:Value×Nat)=>cs.setIfInBounds (off+p.2) p.1) arr):=by
     rw [← Array.foldl_toList,Array.toList_zipIdx]
    rw [e1]
    have hone:=qcN hcr b3
    have hput:=hc.putAt hcr off
    simp only [Nat.add_zero] at hfold
    rw [← hfold] at hput
    obtain ⟨arr',k1,k2,k3,k4⟩:=qgM (place:=place) hp hput (fun u hu=>by
     rw [hfold] at hu
     rcases List.mem_append.1 hu with hu | hu
     ·rcases List.mem_append.1 hu with hu | hu
      ·exact h1 u (List.mem_of_mem_take hu)
      ·exact hone u hu
     ·exact h1 u (List.mem_of_mem_drop hu)) hf
    refine ⟨arr',k1,k2,?_,k4⟩
    rw [k3,← Array.length_toList,hfold]
    simp [hsz]
    omega
def vK (s:St):List (Nat×Operand)→Option (List (Nat×V))
 | []=>some []
 | (i,x)::ps=>match zZ s x,vK s ps with
  | some v,some l=>some ((i,v)::l)
  | _,_=>none
theorem qfr (h:Sim c N s a w):∀ {ps:List (Nat×Operand)} {l:List (Nat×V)},vK s ps=some l→Parts c.I c.φ l (ps.map fun (i,x)=>(i,a.eval x))
 | [],l,hl=>by cases hl; exact .nil
 | (i,x)::ps,l,hl=>by
  unfold vK at hl
  cases hx:zZ s x with
  | none=>rw [hx] at hl; cases hl
  | some v =>
   cases hp:vK s ps with
   | none=>rw [hx,hp] at hl; cases hl
   | some l' =>
    rw [hx,hp] at hl
    cases hl
    exact .cons (vD h hx) (qfr h hp)
def qeO (P:Program):List Field→Option (List (Nat×Nat))
 | []=>some []
 | f::fs=>match sizeT P f.type,qeO P fs with
  | some n,some l=>some ((f.offset,n)::l)
  | _,_=>none
def placeOf (P:Program) (t:TypeId):Option (Nat→Option (Nat×Nat)):=match P.underlying t with
 | some (.struct fs)=>match qeO P fs.toList with
  | some l=>some (fun i=>l[i]?)
  | none=>none
 | some (.array _ e)=>match sizeT P e with
  | some n=>some (fun i=>some (i*n,n))
  | none=>none
 | _=>none
def vZ (P:Program) (N:Nat) (dst:Option Tmp) (t:TypeId) (parts:List (Nat×Operand)) (s:St) (K:St→Prop):Prop:=match za P t,vK s parts,placeOf P t with
 | some zc,some ps,some place=>match Qd place zc ps with
  | some cs=>jR N dst (.v (.agg cs)) s K
  | none=>False
 | _,_,_=>False
theorem run_places {w:World}:∀ {fs:List Field} {l:List (Nat×Nat)},qeO P fs=some l→(fs.mapM fun f=>do pure (f.offset,← sizeOf f.type):Sem (List (Nat×Nat))).run P w = .ok l w
 | [],l,h=>by cases h; simp
 | f::fs,l,h=>by
  unfold qeO at h
  cases hn:sizeT P f.type with
  | none=>rw [hn] at h; cases h
  | some n =>
   cases hl:qeO P fs with
   | none=>rw [hn,hl] at h; cases h
   | some l' =>
    rw [hn,hl] at h
    cases h
    simp only [List.mapM_cons,Sem.run_bind,run_sizeOf hn,Result.andThen_ok,Sem.run_pure,run_places hl]
theorem qlm {o:Oper} {t:TypeId} {parts:Array (Nat×Operand)} (ho:o.op = .build t parts) (h:Sim c N s a w) (hk:vZ P N o.dst t parts.toList s K):Reads P o a w (Post c w N K):=by
 unfold vZ at hk
 split at hk
 ·rename_i zc ps place hz hp hpl
  cases hf:Qd place zc ps with
  | none=>rw [hf] at hk; exact hk.elim
  | some cs =>
   rw [hf] at hk
   unfold za at hz
   cases hzt:qdN P t with
   | none=>rw [hzt] at hz; cases hz
   | some z =>
    rw [hzt] at hz
    simp only at hz
    cases h1:z.cells.toList.all (·.oneCell') with
    | false=>rw [h1] at hz; cases hz
    | true =>
     rw [h1] at hz
     cases hz
     obtain ⟨arr',k1,k2,_,_⟩:=qgM (I:=c.I) (φ:=c.φ) (qfr h hp) (qaP qar z.cells.toList) (fun v hv=>List.all_eq_true.1 h1 v hv) hf
     refine ⟨.agg arr',fun w' _ => ?_,vg h hk fun _ _=>Rel.agg k2⟩
     have e1:(parts.map fun (x:Nat×Operand)=>match x with | (i,x)=>(i,a.eval x)).toList=parts.toList.map fun (i,x)=>(i,a.eval x):=by simp
     unfold placeOf at hpl
     cases hu:P.underlying t with
     | none=>rw [hu] at hpl; cases hpl
     | some d =>
      rw [hu] at hpl
      cases d with
      | struct fs =>
       simp only at hpl
       cases hls:qeO P fs.toList with
       | none=>rw [hls] at hpl; cases hpl
       | some l =>
        rw [hls] at hpl
        cases hpl
        have hm:(fs.mapM fun f=>do pure (f.offset,← sizeOf f.type):Sem (Array (Nat×Nat))).run P w' = .ok l.toArray w':=by
         have:=run_places (P:=P) (w:=w') hls
         rw [Array.mapM_eq_mapM_toList,Sem.run_map,this]
         rfl
        unfold execOp
        simp only [ho,Instr.build,Sem.run_bind,Xk hzt,Result.andThen_ok,Sem.run_pure,qX hu,hm]
        rw [e1]
        have e2:(fun x:Nat=>l.toArray[x]?)=fun i=>l[i]? := by funext i; simp
        simp only [e2,k1,Sem.run_pure,Result.andThen_ok]
      | array n e =>
       simp only at hpl
       cases hls:sizeT P e with
       | none=>rw [hls] at hpl; cases hpl
       | some l =>
        rw [hls] at hpl
        cases hpl
        unfold execOp
        simp only [ho,Instr.build,Sem.run_bind,Xk hzt,Result.andThen_ok,Sem.run_pure,qX hu,run_sizeOf hls]
        rw [e1]
        simp only [k1,Sem.run_pure,Result.andThen_ok]
      | _=>cases hpl
 ·exact hk.elim
end
end AM
end Go.Proofs.YtnconfggojpkcaaGreat
