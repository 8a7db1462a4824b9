import Derived.Test.YtknchlpcpgflkaaGreatDoorKGAT
import Derived.Test.YtknchlpcpgflkaaGreatDoorKGAO
import Derived.Test.YtknchlpcpgflkaaGreatDoorKGAN
namespace Go.Proofs.YtknchlpcpgflkaaGreatDoor
open Go.RowKit Go.Shelf Lim
section
variable {p q r : Int → Bool}
end
open Go.RowKit Go.Shelf
theorem due_is {L:Lm} {l:List Int} (h:(dueS L l).2=0):prB L=true∧(addS l L.f L.n L.u).2=0∧dueS L l=openS (pzB L.f L.S) l (nthU (pzB L.f L.S) L.f ((addS l L.f L.n L.u).1 - L.f).toNat):=by
 unfold dueS at h ⊢
 cases hp:prB L with
 | false=>rw [hp,if_neg (by simp)] at h;cases h
 | true=>
  rw [hp,if_pos rfl] at h;rw [if_pos rfl];by_cases ha:(addS l L.f L.n L.u).2=0
  · rw [if_pos ha]
    exact ⟨rfl,ha,rfl⟩
  · rw [if_neg ha] at h
    exact absurd h ha
theorem due_end {L:Lm} {l:List Int} (h:(dueS L l).2=0):(addS l L.f L.n L.u).1≤(dueS L l).1:=by
 obtain ⟨h1,h2,h3⟩:=due_is h;rw [h3] at h ⊢;obtain ⟨g1,-,-⟩:=add_ge h2;obtain ⟨-,-,-,-,hS⟩:=prB_iff.1 h1;obtain ⟨a1,-,-⟩:=nthU_spec (pz_far (f:=L.f) hS) L.f ((addS l L.f L.n L.u).1 - L.f).toNat;obtain ⟨o1,-⟩:=openS_ok h;omega
theorem due_days {id:ByteArray} {n f:Int} {S:List Stp2} {l:List Int} (h:(dueS ⟨id,n,1,f,S⟩ l).2=0):f+n≤(dueS ⟨id,n,1,f,S⟩ l).1:=by
 have h1:=due_end h;obtain ⟨-,h2,-⟩:=due_is h;simp only at h1 h2;obtain ⟨-,-,-,-,-,-,p,h7,-,h9,-⟩:=addS_ok h2;unfold stepS at h7;rw [if_pos rfl] at h7;injection h7 with h7 _;have:=fromS_le l p;omega
theorem change_cases (L:Lm) (day n u least:Int) (l:List Int) :
 (∃ f,f≠0∧changeS L day n u least l=(Lm.zero,f)) ∨
 ((dueS L l).2=0∧(dueS L l).1<day∧changeS L day n u least l=(L,0)) ∨
 ((dueS L l).2=0∧¬ (dueS L l).1<day∧0≤day∧day≤1000000∧0≤least∧least≤1000000∧∃ N U F,changeS L day n u least l=(⟨L.id,N,U,F,L.S⟩,0)∧(dueS ⟨L.id,N,U,F,L.S⟩ l).2=0∧day+least≤(dueS ⟨L.id,N,U,F,L.S⟩ l).1 ∧
  (dueS ⟨L.id,n,u,L.f,L.S⟩ l).2=0∧((dueS ⟨L.id,n,u,L.f,L.S⟩ l).1<day+least∨(N=n∧U=u∧F=L.f))):=by
 unfold changeS;by_cases h1:prB L=false∨isB day=false∨ptB n u=false∨least<0∨1000000<least
 · rw [if_pos h1];exact .inl ⟨1,by simp,rfl⟩
 rw [if_neg h1];by_cases h2:(dueS L l).2≠0
 · rw [if_pos h2];exact .inl ⟨_,h2,rfl⟩
 rw [if_neg h2];have h2:(dueS L l).2=0:=Classical.not_not.1 h2;by_cases h3:(dueS L l).1<day
 · rw [if_pos h3];exact .inr (.inl ⟨h2,h3,rfl⟩)
 rw [if_neg h3]
 have hd:0≤day∧day≤1000000:=by
  refine (isB_iff _).1 ?_
  cases hh:isB day with
  | true=>rfl
  | false=>exact absurd (.inr (.inl hh)) h1
 have hl:0≤least∧least≤1000000:=by
  constructor
  · rcases Int.lt_or_le least 0 with c | c
    · exact absurd (.inr (.inr (.inr (.inl c)))) h1
    · exact c
  · rcases Int.lt_or_le 1000000 least with c | c
    · exact absurd (.inr (.inr (.inr (.inr c)))) h1
    · exact c
 by_cases h4:(dueS ⟨L.id,n,u,L.f,L.S⟩ l).2≠0
 · rw [if_pos h4];exact .inl ⟨_,h4,rfl⟩
 rw [if_neg h4];have h4:(dueS ⟨L.id,n,u,L.f,L.S⟩ l).2=0:=Classical.not_not.1 h4;by_cases h5:(dueS ⟨L.id,n,u,L.f,L.S⟩ l).1<day+least
 · rw [if_pos h5]
   by_cases h6:(dueS ⟨L.id,least,1,day,L.S⟩ l).2≠0
   · rw [if_pos h6];exact .inl ⟨_,h6,rfl⟩
   rw [if_neg h6];have h6:(dueS ⟨L.id,least,1,day,L.S⟩ l).2=0:=Classical.not_not.1 h6;exact .inr (.inr ⟨h2,h3,hd.1,hd.2,hl.1,hl.2,least,1,day,rfl,h6,due_days h6,h4,.inl h5⟩)
 · rw [if_neg h5]
   exact .inr (.inr ⟨h2,h3,hd.1,hd.2,hl.1,hl.2,n,u,L.f,rfl,h4,by omega,h4,.inr ⟨rfl,rfl,rfl⟩⟩)
def termOf (ts:List Lm) (id:ByteArray):Option Lm:=ts.find? fun t=>decide (t.id=id)
noncomputable def chgS (ts:List Lm) (day:Int) (l:List Int) (x:Lm):Lm×Int:=
 match termOf ts x.id with
 | some t=>changeS x day t.n t.u t.f l
 | none=>(x,0)
noncomputable def chgE (ts:List Lm) (day:Int) (l:List Int):List Lm→Int
 | []=>0
 | x::xs=>if (chgS ts day l x).2≠0 then (chgS ts day l x).2 else chgE ts day l xs
noncomputable def chgL (ts:List Lm) (day:Int) (l:List Int) (ls:List Lm):List Lm:=ls.map fun x=>(chgS ts day l x).1
noncomputable def applyE (m:Mt) (g:Mg) (p q:Pc) (day:Int) (l:List Int):Int:=
 if apB m g p q day=false then 1
 else if newSt g m.st<0 then 12
 else if day<m.o∨day<lastI m.o m.mv then 24
 else chgE g.ts day l m.ls
noncomputable def applyM (m:Mt) (g:Mg) (p q:Pc) (day:Int) (l:List Int):Mt:=
 if applyE m g p q day l=0 then ⟨m.id,m.o,m.cs,g.tn,newSt g m.st,m.mv,mergeR g.rs m.rs,chgL g.ts day l m.ls⟩ else Mt.zero
theorem namedL_some {rs:List (ByteArray×ByteArray)} {n:ByteArray} {r:ByteArray×ByteArray} (h:(rs.find? fun r=>decide (r.1=n))=some r):namedL rs n=r.2:=by unfold namedL;rw [h]
theorem namedL_none {rs:List (ByteArray×ByteArray)} {n:ByteArray} (h:(rs.find? fun r=>decide (r.1=n))=none):namedL rs n=n:=by unfold namedL;rw [h]
theorem find_none {rs:List (ByteArray×ByteArray)} {n:ByteArray} : (rs.find? fun r=>decide (r.1=n))=none↔n∉rs.map (·.1):=by
 rw [List.find?_eq_none,List.mem_map];constructor
 · rintro h ⟨r,hr,he⟩
   exact h r hr (decide_eq_true he)
 · intro h r hr he
   exact h ⟨r,hr,of_decide_eq_true he⟩
theorem chgE_zero {ts:List Lm} {day:Int} {l:List Int} : ∀ {ls:List Lm},chgE ts day l ls=0↔∀ x∈ls,(chgS ts day l x).2=0
 | []=>by simp [chgE]
 | x::xs=>by
  unfold chgE;by_cases h:(chgS ts day l x).2≠0
  · rw [if_pos h]
    exact ⟨fun h1=>absurd h1 h,fun h1=>h1 x (by simp)⟩
  · rw [if_neg h,chgE_zero]
    exact ⟨fun h1 y hy=>by
     rcases List.mem_cons.1 hy with rfl | hy
     · exact Classical.not_not.1 h
     · exact h1 y hy,fun h1 y hy=>h1 y (List.mem_cons_of_mem _ hy)⟩
def aidS:ByteArray:=⟨#[97,105,100]⟩
def supS:ByteArray:=⟨#[115,117,112,112,111,114,116]⟩
def helpS:ByteArray:=⟨#[104,101,108,112]⟩
def hxM:Mt:=⟨⟨#[109]⟩,5,[],oldS,1,[6],[(supS,9),(aidS,7)],[]⟩
def hxA:Mt:=⟨⟨#[109]⟩,5,[],nextS,2,[6],[(helpS,7)],[]⟩
def hxG:Mg:=⟨oldS,nextS,[0,2,3],[(aidS,helpS),(supS,helpS)],[]⟩
def hxN:Mg:=⟨oldS,nextS,[0,-1,3],[(aidS,helpS),(supS,helpS)],[]⟩
def hxL:Pc:=⟨nextS,[filedS,triedS,heardS,decidedS],[(0,1),(1,0),(2,3)]⟩
theorem hx_ap1:applyE hxM hxG exP exQ 10 []=0∧applyM hxM hxG exP exQ 10 []=hxA:=by
 have h:apB hxM hxG exP exQ 10=true:=by decide +kernel
 have he:applyE hxM hxG exP exQ 10 []=0:=by
  unfold applyE;rw [if_neg (by rw [h];decide),if_neg (by decide +kernel),if_neg (by decide +kernel)];rfl
 refine ⟨he,?_⟩;unfold applyM;rw [if_pos he];have hr:mergeR hxG.rs hxM.rs=[(helpS,7)]:=by decide +kernel
 rw [hr];rfl
theorem hx_ap2:applyE hxM hxN exP exQ 10 []=12∧applyM hxM hxN exP exQ 10 []=Mt.zero:=by
 have h:apB hxM hxN exP exQ 10=true:=by decide +kernel
 have he:applyE hxM hxN exP exQ 10 []=12:=by
  unfold applyE;rw [if_neg (by rw [h];decide),if_pos (by decide +kernel)]
 refine ⟨he,?_⟩;unfold applyM;rw [if_neg (by rw [he];decide)]
theorem hx_ap3:applyE hxM hxG exP exQ 5 []=24∧applyM hxM hxG exP exQ 5 []=Mt.zero:=by
 have h:apB hxM hxG exP exQ 5=true:=by decide +kernel
 have he:applyE hxM hxG exP exQ 5 []=24:=by
  unfold applyE;rw [if_neg (by rw [h];decide),if_neg (by decide +kernel),if_pos (by decide +kernel)]
 refine ⟨he,?_⟩;unfold applyM;rw [if_neg (by rw [he];decide)]
theorem hx_v1:vdB hxG exP exQ=true:=by decide +kernel
theorem hx_v2:vdB hxG exQ exP=false:=by decide +kernel
theorem hx_v3:vdB hxG exP hxL=true:=by decide +kernel
theorem hx_e0:endB exP 0=true:=endB_iff.2 ⟨2,⟨by decide,by decide,by decide⟩,.step (t:=1) (by decide) (.step (t:=2) (by decide) (.refl _))⟩
theorem hx_l0:endB hxL 0=false:=by
 cases h:endB hxL 0 with
 | false=>rfl
 | true=>
  obtain ⟨t,ht,hr⟩:=endB_iff.1 h
  have hV:t=0∨t=1:=hr.fore (V:=fun x=>x=0∨x=1) (by
   intro m hm h;simp only [hxL,List.mem_cons,List.not_mem_nil,or_false] at hm;rcases hm with rfl | rfl | rfl
   · exact .inr rfl
   · exact .inl rfl
   · simp at h) (.inl rfl)
  rcases hV with rfl | rfl
  · exact absurd rfl (ht.2.2 (0,1) (by decide))
  · exact absurd rfl (ht.2.2 (1,0) (by decide))
theorem hx_l2:endB hxL 2=true:=endB_iff.2 ⟨3,⟨by decide,by decide,by decide⟩,.step (t:=3) (by decide) (.refl _)⟩
theorem hx_l3:endB hxL 3=true:=endB_iff.2 ⟨3,⟨by decide,by decide,by decide⟩,.refl _⟩
theorem hx_stuck:stuckL hxG exP hxL=[0]:=by
 unfold stuckL;rw [if_pos hx_v3]
 have s0:stkB hxG exP hxL 0=true:=by
  show (decide (0≤(0:Int)) && (endB exP 0 && !endB hxL 0))=true;rw [hx_e0,hx_l0];rfl
 have s1:stkB hxG exP hxL 1=false:=by
  show (decide (0≤(2:Int)) && (endB exP 1 && !endB hxL 2))=false;rw [hx_l2];simp
 have s2:stkB hxG exP hxL 2=false:=by
  show (decide (0≤(3:Int)) && (endB exP 2 && !endB hxL 3))=false;rw [hx_l3];simp
 show ((([]++if stkB hxG exP hxL 0=true then [((0:Nat):Int)] else [])++if stkB hxG exP hxL 1=true then [((1:Nat):Int)] else [])++if stkB hxG exP hxL 2=true then [((2:Nat):Int)] else [])=[0];rw [s0,s1,s2];rfl
end Go.Proofs.YtknchlpcpgflkaaGreatDoor
