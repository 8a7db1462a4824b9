import Derived.Test.YtknchlpcpgflkaaGreatDoorKGAL
import Derived.Test.YtknchlpcpgflkaaGreatDoorKGAR
import Derived.ProofKit
import Derived.Test.YtknchlpcpgflkaaGreatDoorKGBB
import Derived.BigQuiet
set_option maxRecDepth 100000
set_option maxHeartbeats 16000000
namespace Go.Proofs.YtknchlpcpgflkaaGreatDoor
open Go.RowKit Go.ChangeShapes Go.WideShapes Go.Deep
section
variable {H : Type} {enc : TypeId × Value → H} {P : Program} {w : World} {base : Nat} {spare : Nat → Bool} {held : Bool}
theorem slice_elems {t e:TypeId} {fuel len cap k:Nat} {A:Option Addr} {x:DataW H×List MemPlace} (ht:P.underlying t=some (.slice e)) (hC:P.cellsOf e=k) (hk:0<k)
 (h:DataW.trod enc P w base spare held fuel t [.slice A len cap]=some x) :
 ∀ i,i<len→∃ (g off n:Nat) (vs:List Value) (y:DataW H×List MemPlace),A=some ⟨g,off,none⟩∧g<w.heap.size∧vs.length=k∧(∀ j v,vs[j]? = some v→w.cell? ⟨g,off+i*k+j,none⟩=some v)∧DataW.trod enc P w base spare held n e vs=some y:=by
 intro i hi;rcases open_slice ht h with ⟨h0,_⟩ | ⟨a,len',cap',m,n,D,Pl,hcs,hb,hl,hm,hmm,hx,hall⟩
 · injection h0 with h0
   injection h0 with _ h1 _;omega
 · injection hcs with hcs _
   injection hcs with hA hle hca;subst hA hle hca;rw [hC] at hall;obtain ⟨g,off,spot⟩:=a
   have hspot:spot=none:=by
    obtain ⟨cs0,hc0,_⟩:=hall 0 (by rw [hmm];split <;> omega);obtain ⟨_,hcl0,hat0⟩:=World.cells?_some hc0;have h1:=hat0 0 hk;rw [List.getElem?_eq_getElem (by omega),Go.Deep.add_add] at h1;simpa [Addr.add] using World.cell?_spot h1
   subst hspot;obtain ⟨cs',hc,ht'⟩:=hall i (by rw [hmm];split <;> omega);obtain ⟨_,hcl,hat⟩:=World.cells?_some hc
   have hcell:∀ j v,cs'[j]? = some v→w.cell? ⟨g,off+i*k+j,none⟩=some v:=fun j v hv=>by
    have hj:j<k:=by rw [← hcl];exact (List.getElem?_eq_some_iff.1 hv).1
    have h1:=hat j hj;rw [hv,Go.Deep.add_add] at h1;have h2:=spot_none h1;rw [h2] at h1;have h3:off+(i*k+j)=off+i*k+j:=by omega
    rw [h3] at h1;exact h1
   have hlt:g<w.heap.size:=by
    have h1:=hcell 0 (cs'[0]'(by omega)) (List.getElem?_eq_getElem (by omega));exact World.block_lt_of_cell? w ⟨g,off+i*k+0,none⟩ h1
   exact ⟨g,off,n,cs',_,rfl,hlt,hcl,hcell,ht'⟩
end
section
variable {H : Type} {enc : TypeId × Value → H} {w : World} {base : Nat} {spare : Nat → Bool} {held : Bool} {fuel len cap : Nat} {A : Option Addr} {x : DataW H × List MemPlace}
theorem ints_trod {t:TypeId} (ht:Tryz.prog.underlying t=some (.slice 3)) (hf:DataW.trod enc Tryz.prog w base spare held fuel t [.slice A len cap]=some x):∃ l:List Int,l.length=len∧IntsAt w w.heap.size A l∧len≤9223372036854775807:=by
 have hlen:=slice_len ht hf;have hs:=slice_elems ht (k:=1) (by kernel_rfl) (by decide) hf
 obtain ⟨l,hl,hp⟩:=list_of (p:=fun i (v:Int)=>∃ g off,A=some ⟨g,off,none⟩∧g<w.heap.size∧w.cell? ⟨g,off+i,none⟩=some (.int .i64 v)) len (fun i hi=>by
  obtain ⟨g,off,n,vs,y,hA,hg,hvl,hc,ht'⟩:=hs i hi
  match vs,hvl with
  | [v0],_=>
   obtain ⟨v,h0,_,_⟩:=DataW.trod_int Tryz.underlying3 ht';have q0:v0 = .int .i64 v:=by injection h0
   subst q0;have:=hc 0 _ rfl;rw [Nat.mul_one,Nat.add_zero] at this;exact ⟨v,g,off,hA,hg,this⟩)
 exact ⟨l,hl,hp,hlen⟩
theorem strs_trod {t:TypeId} (ht:Tryz.prog.underlying t=some (.slice 9)) (hf:DataW.trod enc Tryz.prog w base spare held fuel t [.slice A len cap]=some x):∃ l:List ByteArray,l.length=len∧BtsAt w w.heap.size A l∧(∀ s∈l,s.size≤9223372036854775807)∧len≤9223372036854775807:=by
 have hlen:=slice_len ht hf;have hs:=slice_elems ht (k:=1) (by kernel_rfl) (by decide) hf
 obtain ⟨l,hl,hp⟩:=list_of (p:=fun i (v:ByteArray)=>(∃ g off,A=some ⟨g,off,none⟩∧g<w.heap.size∧w.cell? ⟨g,off+i,none⟩=some (.string v))∧v.size≤9223372036854775807) len (fun i hi=>by
  obtain ⟨g,off,n,vs,y,hA,hg,hvl,hc,ht'⟩:=hs i hi
  match vs,hvl with
  | [v0],_=>
   obtain ⟨v,h0,_,w0⟩:=DataW.trod_string Tryz.underlying9 ht';have q0:v0 = .string v:=by injection h0
   subst q0;have:=hc 0 _ rfl;rw [Nat.mul_one,Nat.add_zero] at this;exact ⟨v,⟨g,off,hA,hg,this⟩,w0⟩)
 exact ⟨l,hl,fun i v h=>(hp i v h).1,fun s h=>by obtain ⟨i,hi⟩:=List.getElem?_of_mem h;exact (hp i s hi).2,hlen⟩
theorem rts_trod (hf:DataW.trod enc Tryz.prog w base spare held fuel 24 [.slice A len cap]=some x):∃ l:List Rt,l.length=len∧RtsAt w w.heap.size A l∧(∀ r∈l,r.1.size≤9223372036854775807)∧len≤9223372036854775807:=by
 have hlen:=slice_len Tryz.underlying24 hf;have hs:=slice_elems Tryz.underlying24 (k:=2) (by kernel_rfl) (by decide) hf
 obtain ⟨l,hl,hp⟩:=list_of (p:=fun i (v:Rt)=>(∃ g off,A=some ⟨g,off,none⟩∧g<w.heap.size∧w.cell? ⟨g,off+i*2,none⟩=some (.string v.1)∧w.cell? ⟨g,off+i*2+1,none⟩=some (.int .i64 v.2))∧v.1.size≤9223372036854775807) len (fun i hi=>by
  obtain ⟨g,off,n,vs,y,hA,hg,hvl,hc,ht'⟩:=hs i hi
  match vs,hvl with
  | [v0,v1],_=>
   obtain ⟨xs,n,_,hx,hl,hlen,hfl⟩:=DataW.trod_struct Tryz.underlying56 ht';have hlen2:xs.length=2:=hlen;have gg:∀ i,i<xs.length→∃ y,xs[i]? = some y:=fun i hi=>⟨_,List.getElem?_eq_getElem hi⟩;obtain ⟨y0,e0⟩:=gg 0 (by omega);obtain ⟨y1,e1⟩:=gg 1 (by omega);obtain ⟨s,h0,_,w0⟩:=DataW.trod_string Tryz.underlying9 ((hfl 0 _ rfl).trans e0);obtain ⟨d,h1,_,_⟩:=DataW.trod_int Tryz.underlying3 ((hfl 1 _ rfl).trans e1);have q0:v0 = .string s:=by injection h0
   have q1:v1 = .int .i64 d:=by injection h1
   subst q0 q1;exact ⟨(s,d),⟨g,off,hA,hg,hc 0 _ rfl,hc 1 _ rfl⟩,w0⟩)
 exact ⟨l,hl,fun i v h=>(hp i v h).1,fun s h=>by obtain ⟨i,hi⟩:=List.getElem?_of_mem h;exact (hp i s hi).2,hlen⟩
theorem stops_trod (hf:DataW.trod enc Tryz.prog w base spare held fuel 42 [.slice A len cap]=some x):∃ S:List Stp2,S.length=len∧StopsAt w w.heap.size A S∧len≤9223372036854775807:=by
 have hlen:=slice_len Tryz.underlying42 hf;have hs:=slice_elems Tryz.underlying42 (k:=2) (by kernel_rfl) (by decide) hf
 obtain ⟨l,hl,hp⟩:=list_of (p:=fun i (s:Stp2)=>∃ g off,A=some ⟨g,off,none⟩∧g<w.heap.size∧w.cell? ⟨g,off+i*2,none⟩=some (.int .i64 s.1)∧w.cell? ⟨g,off+i*2+1,none⟩=some (.int .i64 s.2)) len (fun i hi=>by
  obtain ⟨g,off,n,vs,y,hA,hg,hvl,hc,ht'⟩:=hs i hi
  match vs,hvl with
  | [v0,v1],_=>
   obtain ⟨xs,n,_,hx,hl,hlen,hfl⟩:=DataW.trod_struct Tryz.underlying90 ht';have hlen2:xs.length=2:=hlen;have gg:∀ i,i<xs.length→∃ y,xs[i]? = some y:=fun i hi=>⟨_,List.getElem?_eq_getElem hi⟩;obtain ⟨y0,e0⟩:=gg 0 (by omega);obtain ⟨y1,e1⟩:=gg 1 (by omega);obtain ⟨s,h0,_,_⟩:=DataW.trod_int Tryz.underlying3 ((hfl 0 _ rfl).trans e0);obtain ⟨d,h1,_,_⟩:=DataW.trod_int Tryz.underlying3 ((hfl 1 _ rfl).trans e1);have q0:v0 = .int .i64 s:=by injection h0
   have q1:v1 = .int .i64 d:=by injection h1
   subst q0 q1;exact ⟨(s,d),g,off,hA,hg,hc 0 _ rfl,hc 1 _ rfl⟩)
 exact ⟨l,hl,hp,hlen⟩
theorem limit_trod {cs:List Value} (hc5:cs.length=5) (hf:DataW.trod enc Tryz.prog w base spare held fuel 44 cs=some x):∃ x:LmV,cs=[.string x.1.id,.int .i64 x.1.n,.int .i64 x.1.u,.int .i64 x.1.f,.slice x.2.1 x.1.S.length x.2.2]∧LmAt w w.heap.size x.2.1 x.1:=by
 match cs,hc5 with
 | [c0,c1,c2,c3,c4],_=>
  obtain ⟨xs,n,_,hx,hl,hlen,hfl⟩:=DataW.trod_struct Tryz.underlying44 hf;have g:∀ i,i<xs.length→∃ y,xs[i]? = some y:=fun i hi=>⟨_,List.getElem?_eq_getElem hi⟩;have hlen2:xs.length=4:=hlen;obtain ⟨y0,e0⟩:=g 0 (by omega);obtain ⟨y1,e1⟩:=g 1 (by omega);obtain ⟨y2,e2⟩:=g 2 (by omega);obtain ⟨y3,e3⟩:=g 3 (by omega);have t0:=(hfl 0 _ rfl).trans e0;have t1:=(hfl 1 _ rfl).trans e1;have t2:=(hfl 2 _ rfl).trans e2;have t3:=(hfl 3 _ rfl).trans e3;have t1':DataW.trod enc Tryz.prog w base spare held n 41 [c1,c2]=some y1:=t1;have t3':DataW.trod enc Tryz.prog w base spare held n 42 [c4]=some y3:=t3;obtain ⟨k0,h0,_,w0⟩:=DataW.trod_string Tryz.underlying9 t0;obtain ⟨k2,h2',_,_⟩:=DataW.trod_int Tryz.underlying3 t2;have q0:c0 = .string k0:=by injection h0
  have q3:c3 = .int .i64 k2:=by injection h2'
  obtain ⟨xs1,n1,_,_,_,hlen1,hfl1⟩:=DataW.trod_struct Tryz.underlying41 t1';have g1:∀ i,i<xs1.length→∃ y,xs1[i]? = some y:=fun i hi=>⟨_,List.getElem?_eq_getElem hi⟩;have hlen3:xs1.length=2:=hlen1;obtain ⟨z0,f0⟩:=g1 0 (by omega);obtain ⟨z1,f1⟩:=g1 1 (by omega);obtain ⟨m0,j0,_,_⟩:=DataW.trod_int Tryz.underlying3 ((hfl1 0 _ rfl).trans f0);obtain ⟨m1,j1,_,_⟩:=DataW.trod_int Tryz.underlying3 ((hfl1 1 _ rfl).trans f1);have q1:c1 = .int .i64 m0:=by injection j0
  have q2:c2 = .int .i64 m1:=by injection j1
  obtain ⟨A,len,cap,q4⟩:∃ A len cap,c4 = .slice A len cap:=by
   rcases open_slice Tryz.underlying42 t3' with ⟨h0,_⟩ | ⟨a,len',cap',m,n,D,Pl,hcs,_⟩
   · exact ⟨none,0,0,by injection h0⟩
   · exact ⟨_,_,_,by injection hcs⟩
  subst q0 q1 q2 q3 q4;obtain ⟨S,hS,hst,hl9⟩:=stops_trod t3';subst hS;exact ⟨(⟨k0,m0,m1,k2,S⟩,A,cap),rfl,hst,w0,hl9⟩
theorem lms_trod (hf:DataW.trod enc Tryz.prog w base spare held fuel 25 [.slice A len cap]=some x):∃ l:List LmV,l.length=len∧LmsAt w w.heap.size A l∧len≤9223372036854775807:=by
 have hlen:=slice_len Tryz.underlying25 hf;have hs:=slice_elems Tryz.underlying25 (k:=5) (by kernel_rfl) (by decide) hf
 obtain ⟨l,hl,hp⟩:=list_of (p:=fun i (x:LmV)=>∃ g off,A=some ⟨g,off,none⟩∧g<w.heap.size∧w.cell? ⟨g,off+i*5,none⟩=some (.string x.1.id)∧w.cell? ⟨g,off+i*5+1,none⟩=some (.int .i64 x.1.n)∧w.cell? ⟨g,off+i*5+2,none⟩=some (.int .i64 x.1.u)∧w.cell? ⟨g,off+i*5+3,none⟩=some (.int .i64 x.1.f)∧w.cell? ⟨g,off+i*5+4,none⟩=some (.slice x.2.1 x.1.S.length x.2.2)∧LmAt w w.heap.size x.2.1 x.1) len (fun i hi=>by
  obtain ⟨g,off,n,vs,y,hA,hg,hvl,hc,ht'⟩:=hs i hi;obtain ⟨x,hx,hlm⟩:=limit_trod hvl ht';subst hx;exact ⟨x,g,off,hA,hg,hc 0 _ rfl,hc 1 _ rfl,hc 2 _ rfl,hc 3 _ rfl,hc 4 _ rfl,hlm⟩)
 exact ⟨l,hl,hp,hlen⟩
def MtIn (w:World) (z:Mt×MtX):Prop:=MtAt w w.heap.size z.1 z.2∧z.1.cs.length≤9223372036854775807∧z.1.mv.length≤9223372036854775807∧z.1.rs.length≤9223372036854775807∧z.1.ls.length≤9223372036854775807∧wf64 z.1.o∧wf64 z.1.st
theorem slice_form {t e:TypeId} {v:Value} (ht:Tryz.prog.underlying t=some (.slice e)) (hf:DataW.trod enc Tryz.prog w base spare held fuel t [v]=some x):∃ A len cap,v = .slice A len cap:=by
 rcases open_slice ht hf with ⟨h0,_⟩ | ⟨a,len',cap',m,n,D,Pl,hcs,_⟩
 · exact ⟨none,0,0,by injection h0⟩
 · exact ⟨_,_,_,by injection hcs⟩
theorem matter_at {v:Value} {d:DataW H} {p:List MemPlace} {cs:Array Value} (hv:v = .agg cs) (hsz:cs.size=Tryz.prog.cellsOf 27)
 (h:DataW.Trod enc Tryz.prog w base spare held 27 v d p):∃ z:Mt×MtX,v = .agg (mtC z.1 z.2)∧MtIn w z:=by
 subst hv;have h2:Tryz.prog.cellsOf 27=8:=by kernel_rfl
 rw [h2] at hsz;obtain ⟨fuel,hf⟩:=h;have hc:(Value.agg cs).cells.toList=cs.toList:=rfl;rw [hc] at hf
 obtain ⟨c0,c1,c2,c3,c4,c5,c6,c7,hcs⟩:∃ c0 c1 c2 c3 c4 c5 c6 c7,cs=#[c0,c1,c2,c3,c4,c5,c6,c7]:=by
  obtain ⟨l⟩:=cs
  match l,hsz with
  | [c0,c1,c2,c3,c4,c5,c6,c7],_=>exact ⟨c0,c1,c2,c3,c4,c5,c6,c7,rfl⟩
 subst hcs;obtain ⟨xs,n,_,hx,hl,hlen,hfl⟩:=DataW.trod_struct Tryz.underlying27 hf;have g:∀ i,i<xs.length→∃ y,xs[i]? = some y:=fun i hi=>⟨_,List.getElem?_eq_getElem hi⟩;have hlen2:xs.length=8:=hlen;obtain ⟨y0,e0⟩:=g 0 (by omega);obtain ⟨y1,e1⟩:=g 1 (by omega);obtain ⟨y2,e2⟩:=g 2 (by omega);obtain ⟨y3,e3⟩:=g 3 (by omega);obtain ⟨y4,e4⟩:=g 4 (by omega);obtain ⟨y5,e5⟩:=g 5 (by omega);obtain ⟨y6,e6⟩:=g 6 (by omega);obtain ⟨y7,e7⟩:=g 7 (by omega);obtain ⟨k0,h0,_,w0⟩:=DataW.trod_string Tryz.underlying9 ((hfl 0 _ rfl).trans e0);obtain ⟨k1,h1,_,w1⟩:=DataW.trod_int Tryz.underlying3 ((hfl 1 _ rfl).trans e1);have t2:DataW.trod enc Tryz.prog w base spare held n 23 [c2]=some y2:=(hfl 2 _ rfl).trans e2;obtain ⟨k3,h3,_,w3⟩:=DataW.trod_string Tryz.underlying9 ((hfl 3 _ rfl).trans e3);obtain ⟨k4,h4,_,w4⟩:=DataW.trod_int Tryz.underlying3 ((hfl 4 _ rfl).trans e4);have t5:DataW.trod enc Tryz.prog w base spare held n 22 [c5]=some y5:=(hfl 5 _ rfl).trans e5;have t6:DataW.trod enc Tryz.prog w base spare held n 24 [c6]=some y6:=(hfl 6 _ rfl).trans e6;have t7:DataW.trod enc Tryz.prog w base spare held n 25 [c7]=some y7:=(hfl 7 _ rfl).trans e7;obtain ⟨A2,l2,q2,rfl⟩:=slice_form Tryz.underlying23 t2;obtain ⟨A5,l5,q5,rfl⟩:=slice_form Tryz.underlying22 t5;obtain ⟨A6,l6,q6,rfl⟩:=slice_form Tryz.underlying24 t6;obtain ⟨A7,l7,q7,rfl⟩:=slice_form Tryz.underlying25 t7;have r0:c0 = .string k0:=by injection h0
 have r1:c1 = .int .i64 k1:=by injection h1
 have r3:c3 = .string k3:=by injection h3
 have r4:c4 = .int .i64 k4:=by injection h4
 subst r0 r1 r3 r4;obtain ⟨ics,hcs,b2,m2⟩:=ints_trod Tryz.underlying23 t2;obtain ⟨mvs,hmv,b5,m5⟩:=ints_trod Tryz.underlying22 t5;obtain ⟨rs,hrs,b6,n6,m6⟩:=rts_trod t6;obtain ⟨lv,hls,b7,m7⟩:=lms_trod t7;subst hcs hmv hrs hls;refine ⟨(⟨k0,k1,ics,k3,k4,mvs,rs,lv.map (·.1)⟩,⟨A2,q2,A5,q5,A6,q6,A7,q7,lv⟩),?_,⟨b2,b5,b6,b7,rfl,w0,w3,n6⟩,m2,m5,m6,by rw [List.length_map];exact m7,wf64_lit.1 w1,wf64_lit.1 w4⟩;simp [mtC]
end
open Go.RowKit Go.Shelf
section
open Go.ChangeShapes Go.WideShapes Go.Deep
variable {H : Type} {enc : TypeId × Value → H} {w : World} {base : Nat} {spare : Nat → Bool} {held : Bool} {fuel len cap : Nat} {A : Option Addr} {x : DataW H × List MemPlace}
theorem slice_cap {t e:TypeId} (ht:Tryz.prog.underlying t=some (.slice e)) (hf:DataW.trod enc Tryz.prog w base spare held fuel t [.slice A len cap]=some x):len≤cap:=by
 rcases open_slice ht hf with ⟨h0,_⟩ | ⟨a,len',cap',m,n,D,Pl,hcs,_,hl,_⟩
 · injection h0 with h0
   injection h0 with _ h1 h2;omega
 · injection hcs with hcs _
   injection hcs with _ h1 h2;omega
def MtIn2 (w:World) (z:Mt×MtX):Prop:=MtIn w z∧z.1.rs.length≤z.2.c3
theorem matter_at2 {v:Value} {d:DataW H} {p:List MemPlace} {cs:Array Value} (hv:v = .agg cs) (hsz:cs.size=Tryz.prog.cellsOf 27)
 (h:DataW.Trod enc Tryz.prog w base spare held 27 v d p):∃ z:Mt×MtX,v = .agg (mtC z.1 z.2)∧MtIn2 w z:=by
 obtain ⟨z,hz,hin⟩:=matter_at hv hsz h;refine ⟨z,hz,hin,?_⟩;subst hz;obtain ⟨fuel,hf⟩:=h;obtain ⟨xs,n,_,hx,hl,hlen,hfl⟩:=DataW.trod_struct Tryz.underlying27 hf;have hlen2:xs.length=8:=hlen;obtain ⟨y6,e6⟩:∃ y,xs[6]? = some y:=⟨_,List.getElem?_eq_getElem (by omega)⟩;have t6:DataW.trod enc Tryz.prog w base spare held n 24 [.slice z.2.a3 z.1.rs.length z.2.c3]=some y6:=(hfl 6 _ rfl).trans e6;exact slice_cap Tryz.underlying24 t6
end
theorem add_zero_ (a:Addr):a.add 0=a:=by simp [Addr.add]
theorem slice_to {P:Program} (t e:TypeId) (s:Nat) (ht:P.underlying t=some (.slice e)) (hs:(P.info? e).map (·.size)=some s) (A:Option Addr) (m cap k:Nat) (hk:k≤cap) (W:World) :
 (Instr.slice t (.slice A m cap) none (some (.int .i64 (k:Int))) none).run P W = .ok (.slice A k cap) W:=by
 have ht':P.underlying t=some (.slice (P.elem t)):=by simp [Program.elem,ht]
 have he:P.elem t=e:=by simp [Program.elem,ht]
 rw [run_slice_h W t A m cap ht' .i64 (k:Int) (by omega) (by omega),he]
 cases hq:P.info? e with
 | none=>simp [hq] at hs
 | some i=>
  simp [sizeOf,typeInfo,hq,Result.andThen,sliced]
  cases A with
  | none=>simp
  | some a=>simp [add_zero_]
theorem upB_take:∀ (l:List Int) (a:Int) (k:Nat),upB a l=true→upB a (l.take k)=true
 | [],a,k,_=>by simp [upB]
 | x::xs,a,0,_=>rfl
 | x::xs,a,k+1,h=>by
  have h':(decide (a≤x∧x≤1000000) && upB x xs)=true:=h;rw [Bool.and_eq_true] at h';show (decide (a≤x∧x≤1000000) && upB x (xs.take k))=true;rw [h'.1,upB_take xs x k h'.2];rfl
theorem upB_at {l:List Int} {a:Int} {k:Nat} {d:Int} (hd:l[k]? = some d):upB a (l.take (k+1))=(upB a (l.take k) && decide (lastI a (l.take k)≤d∧d≤1000000)):=by rw [take_snoc' hd,upB_app]
theorem lastI_at {l:List Int} {a:Int} {k:Nat} {d:Int} (hd:l[k]? = some d):lastI a (l.take (k+1))=d:=by rw [take_snoc' hd];simp [lastI]
theorem upB_no {l:List Int} {a:Int} {k:Nat} {d:Int} (hd:l[k]? = some d) (h:¬ (lastI a (l.take k)≤d∧d≤1000000)):upB a l=false:=by
 cases hu:upB a l with
 | false=>rfl
 | true=>
  have:=upB_take l a (k+1) hu;rw [upB_at hd,decide_eq_false h,Bool.and_false] at this
  cases this
theorem fm_false {m:Mt} {R:Bool} (h:fmB m=R) (hn:¬ fmB m=true):R=false:=by
 rw [← h];simpa using hn
theorem all_is {l:List Int} {k:Nat} {n:Int} (h:l[k]? = some n):(l.take (k+1)).all isB=((l.take k).all isB && isB n):=by
 rw [take_snoc' h,List.all_append];simp
theorem rformed_any (w:World) (B:Nat) (m:Mt) (x:MtX) (h:MtAt w B m x) (hB:B≤w.heap.size) (hs:Sml m) (hcap:m.rs.length≤x.c3) :
 Calls Tryz.prog 54 #[.agg (mtC m x)] w fun e w'=>e = .returned (.bool (fmB m))∧Below w.heap.size w w':=by
 obtain ⟨R,hR⟩:∃ R,fmB m=R:=⟨_,rfl⟩;rw [hR];obtain ⟨hcs,hmv,hrs,hls,hlv,hid,hpr,hrn⟩:=h;obtain ⟨s1,s2,s3,s4⟩:=hs;obtain ⟨id,o,cs,pr,st,mv,rs,ls⟩:=m;obtain ⟨a1,c1,a2,c2,a3,c3,a4,c4,lv⟩:=x;simp only at *
 have hll:lv.length=ls.length:=by
  have:=congrArg List.length hlv;simpa using this
 show Calls Tryz.prog 54 #[.agg #[.string id,.int .i64 o,.slice a1 cs.length c1,.string pr,.int .i64 st,.slice a2 mv.length c2,.slice a3 rs.length c3,.slice a4 ls.length c4]] w _;have hb:=below_self_alloc w (.cells #[.string id,.int .i64 o,.slice a1 cs.length c1,.string pr,.int .i64 st,.slice a2 mv.length c2,.slice a3 rs.length c3,.slice a4 ls.length c4] 27);have kx:=Blk.new w 27 #[.string id,.int .i64 o,.slice a1 cs.length c1,.string pr,.int .i64 st,.slice a2 mv.length c2,.slice a3 rs.length c3,.slice a4 ls.length c4];have HR:=hd_ hR;have HCS:=hd_ (hcs.below (hb.mono hB));have HMV:=hd_ (hmv.below (hb.mono hB));have HRS:=hd_ hrs;have HLS:=hd_ hls;have HLV:=hd_ hlv;have HRN:=hd_ hrn;have HLL:=hd_ hll;have HBB:=hd_ hB;have HB:=hd_ hb;have KX:=hd_ kx;clear hR hcs hmv hrs hls hlv hrn hll hB;obtain ⟨t0,t1,t2⟩:=kx.all;go_enter Tryz.func54,Tryz.ntmps54
 go_upto_region 1 with fail
 generalize w.alloc (.cells #[.string id,.int .i64 o,.slice a1 cs.length c1,.string pr,.int .i64 st,.slice a2 mv.length c2,.slice a3 rs.length c3,.slice a4 ls.length c4] 27)=W at *;clear hb kx;have nm:=rname07_any W id hid
 cases hc0:nameB id with
 | false=>
  have hx:nmB id.data.toList=false:=hc0;rw [hx] at nm;obtain rfl:R=false:=fm_false HR.out fun e=>by have h:=(fmB_iff.1 e).1;rw [hc0] at h;cases h
  have NM:=hd_ nm;clear nm hc0 hx;go_wp2_with fail
  refine NM.out.mono ?_;rintro e w3 ⟨rfl,rfl⟩;clear NM;go_wp2
  go_ret
  exact ⟨rfl,HB.out⟩
 | true=>
  have hx:nmB id.data.toList=true:=hc0;rw [hx] at nm;have NM:=hd_ nm;have HC0:=hd_ hc0;clear nm hc0 hx;go_wp2_with fail
  refine NM.out.mono ?_;rintro e w3 ⟨rfl,rfl⟩;clear NM;have nm:=rname07_any W pr hpr
  cases hc1:nameB pr with
  | false=>
   have hx:nmB pr.data.toList=false:=hc1;rw [hx] at nm;obtain rfl:R=false:=fm_false HR.out fun e=>by have h:=(fmB_iff.1 e).2.1;rw [hc1] at h;cases h
   have NM:=hd_ nm;clear nm hc1 hx;go_wp2_with fail
   refine NM.out.mono ?_;rintro e w3 ⟨rfl,rfl⟩;clear NM;go_wp2
   go_ret
   exact ⟨rfl,HB.out⟩
  | true=>
   have hx:nmB pr.data.toList=true:=hc1;rw [hx] at nm;have NM:=hd_ nm;have HC1:=hd_ hc1;clear nm hc1 hx;go_wp2_with fail
   refine NM.out.mono ?_;rintro e w3 ⟨rfl,rfl⟩;clear NM;have nm:=rDay_any W o
   cases hc2:isB o with
   | false=>
    have hx:isB o=false:=hc2;rw [hx] at nm;obtain rfl:R=false:=fm_false HR.out fun e=>by have h:=(fmB_iff.1 e).2.2.1;rw [hc2] at h;cases h
    have NM:=hd_ nm;clear nm hc2 hx;go_wp2_with fail
    refine NM.out.mono ?_;rintro e w3 ⟨rfl,rfl⟩;clear NM;go_wp2
    go_ret
    exact ⟨rfl,HB.out⟩
   | true=>
    have hx:isB o=true:=hc2;rw [hx] at nm;have NM:=hd_ nm;have HC2:=hd_ hc2;clear nm hc2 hx;go_wp2_with fail
    refine NM.out.mono ?_;rintro e w3 ⟨rfl,rfl⟩;clear NM;by_cases hc3:0≤st
    case neg=>
     have dd:decide (st<0)=true:=decide_eq_true (by omega);obtain rfl:R=false:=fm_false HR.out fun e=>hc3 (fmB_iff.1 e).2.2.2.1.1;go_wp2
     go_ret
     exact ⟨rfl,HB.out⟩
    have dd3:decide (st<0)=false:=decide_eq_false (by omega);by_cases hc4:st<60
    case neg=>
     have dd:decide (60≤st)=true:=decide_eq_true (by omega);obtain rfl:R=false:=fm_false HR.out fun e=>hc4 (fmB_iff.1 e).2.2.2.1.2;go_wp2
     go_ret
     exact ⟨rfl,HB.out⟩
    have dd4:decide (60≤st)=false:=decide_eq_false (by omega);by_cases hc5:cs.length≤60
    case neg=>
     have dd:decide ((60:Int)<(cs.length:Int))=true:=decide_eq_true (by omega);obtain rfl:R=false:=fm_false HR.out fun e=>hc5 (fmB_iff.1 e).2.2.2.2.2.1;go_wp2
     go_ret
     exact ⟨rfl,HB.out⟩
    have dd5:decide ((60:Int)<(cs.length:Int))=false:=decide_eq_false (by omega);by_cases hc6:mv.length≤60
    case neg=>
     have dd:decide ((60:Int)<(mv.length:Int))=true:=decide_eq_true (by omega);obtain rfl:R=false:=fm_false HR.out fun e=>hc6 (fmB_iff.1 e).2.2.2.2.2.2.2.1;go_wp2
     go_ret
     exact ⟨rfl,HB.out⟩
    have dd6:decide ((60:Int)<(mv.length:Int))=false:=decide_eq_false (by omega);by_cases hc7:rs.length≤60
    case neg=>
     have dd:decide ((60:Int)<(rs.length:Int))=true:=decide_eq_true (by omega);obtain rfl:R=false:=fm_false HR.out fun e=>hc7 (difB_iff.1 (fmB_iff.1 e).2.2.2.2.2.2.2.2.1).2.2;go_wp2
     go_ret
     exact ⟨rfl,HB.out⟩
    have dd7:decide ((60:Int)<(rs.length:Int))=false:=decide_eq_false (by omega);by_cases hc8:ls.length≤60
    case neg=>
     have dd:decide ((60:Int)<(ls.length:Int))=true:=decide_eq_true (by omega);obtain rfl:R=false:=fm_false HR.out fun e=>hc8 (difB_iff.1 (fmB_iff.1 e).2.2.2.2.2.2.2.2.2).2.2;go_wp2
     go_ret
     exact ⟨rfl,HB.out⟩
    have dd8:decide ((60:Int)<(ls.length:Int))=false:=decide_eq_false (by omega);go_wp2_with fail
    clear dd3 dd4 dd5 dd6 dd7 dd8;go_loop [3] (fun i=>∃ k:Nat,k≤cs.length∧i = .int .i64 (k:Int)∧Hid ((cs.take k).all isB=true)) (fun i=>cs.length - (intOf i).toNat)
    case atStart=>exact ⟨0,Nat.zero_le _,rfl,hd_ rfl⟩
    case round=>
     obtain ⟨k,hk,rfl,HT⟩:=hrel;by_cases hlt:k<cs.length
     · obtain ⟨n,hn⟩:∃ n,cs[k]? = some n:=⟨_,List.getElem?_eq_getElem hlt⟩
       obtain ⟨g,off,hA,hg,p0⟩:=HCS.out k n hn;subst hA;have ib0:(0:Int)≤(k:Int):=by omega
       have ib1:(k:Int)<(cs.length:Int):=by omega
       have HN:=hd_ hn;clear hn
       cases hi:isB n with
       | true=>
        have HT2:Hid ((cs.take (k+1)).all isB=true):=hd_ (by rw [all_is HN.out,HT.out,hi];rfl);have hi':=(isB_iff n).1 hi;have e1:decide (n<0)=false:=decide_eq_false (by omega);have e2:decide (1000000<n)=false:=decide_eq_false (by omega);have h0n:¬ n<0:=by omega
        have h1n:¬ 1000000<n:=by omega
        clear hi hi';go_wp2_with fail
        go_round
        case rel=>exact ⟨k+1,by omega,by go_num,HT2⟩
        case measure=>simp [intOf];omega
       | false=>
        obtain rfl:R=false:=fm_false HR.out fun e=>by have h:=(fmB_iff.1 e).2.2.2.2.1 n (List.mem_of_getElem? HN.out);rw [hi] at h;cases h
        have hi':n<0∨1000000<n:=by
         rcases Int.lt_or_le n 0 with h | h
         · exact .inl h
         · rcases Int.lt_or_le 1000000 n with h2 | h2
           · exact .inr h2
           · rw [(isB_iff n).2 ⟨h,h2⟩] at hi;cases hi
        clear hi;rcases hi' with hi' | hi'
        · have e1:decide (n<0)=true:=decide_eq_true hi'
          go_wp2_with fail
          go_ret
          exact ⟨rfl,HB.out⟩
        · have e1:decide (n<0)=false:=decide_eq_false (by omega)
          have e2:decide (1000000<n)=true:=decide_eq_true hi';go_wp2_with fail
          go_ret
          exact ⟨rfl,HB.out⟩
     · obtain rfl:k=cs.length:=by omega
       have HCA:Hid (∀ x∈cs,isB x=true):=hd_ (by have:=HT.out;rw [List.take_length] at this;exact List.all_eq_true.1 this);clear HT;go_wp2_with fail
       go_loop [4,5] (fun v i=>∃ k:Nat,k≤mv.length∧i = .int .i64 (k:Int)∧v = .int .i64 (lastI o (mv.take k))∧Hid (upB o (mv.take k)=true)) (fun _ i=>mv.length - (intOf i).toNat)
       case atStart=>exact ⟨0,Nat.zero_le _,rfl,rfl,hd_ rfl⟩
       case round=>
        obtain ⟨k,hk,rfl,rfl,HT⟩:=hrel;obtain ⟨la,hla⟩:∃ la,lastI o (mv.take k)=la:=⟨_,rfl⟩;rw [hla];by_cases hlt:k<mv.length
        · obtain ⟨d,hd⟩:∃ n,mv[k]? = some n:=⟨_,List.getElem?_eq_getElem hlt⟩
          obtain ⟨g,off,hA,hg,p0⟩:=HMV.out k d hd;subst hA;have ib0:(0:Int)≤(k:Int):=by omega
          have ib1:(k:Int)<(mv.length:Int):=by omega
          have HD:=hd_ hd;have HLA:=hd_ hla;clear hd hla;by_cases h1:la≤d
          · have e1:decide (d<la)=false:=decide_eq_false (by omega)
            have h1':¬ d<la:=by omega
            by_cases h2:d≤1000000
            · have e2:decide (1000000<d)=false:=decide_eq_false (by omega)
              have h2':¬ 1000000<d:=by omega
              have HT2:Hid (upB o (mv.take (k+1))=true):=hd_ (by rw [upB_at HD.out,HT.out,HLA.out,decide_eq_true ⟨h1,h2⟩];rfl);have HL2:=hd_ (lastI_at (a:=o) HD.out);go_wp2_with fail
              go_round
              case rel=>exact ⟨k+1,by omega,by go_num,by rw [HL2.out],HT2⟩
              case measure=>simp [intOf];omega
            · have e2:decide (1000000<d)=true:=decide_eq_true (by omega)
              obtain rfl:R=false:=fm_false HR.out fun e=>by have h:=(fmB_iff.1 e).2.2.2.2.2.2.1;rw [upB_no HD.out (by rw [HLA.out];exact fun h=>h2 h.2)] at h;cases h
              go_wp2_with fail
              go_ret
              exact ⟨rfl,HB.out⟩
          · have e1:decide (d<la)=true:=decide_eq_true (by omega)
            have h1':d<la:=by omega
            obtain rfl:R=false:=fm_false HR.out fun e=>by have h:=(fmB_iff.1 e).2.2.2.2.2.2.1;rw [upB_no HD.out (by rw [HLA.out];exact fun h=>h1 h.1)] at h;cases h
            go_wp2_with fail
            go_ret
            exact ⟨rfl,HB.out⟩
        · obtain rfl:k=mv.length:=by omega
          have HMA:Hid (upB o mv=true):=hd_ (by have:=HT.out;rwa [List.take_length] at this);clear HT hla;go_wp2_with fail
          go_loopw [6] (fun i wr=>∃ k:Nat,k≤rs.length∧i = .int .i64 (k:Int)∧Hid (difTo (fun x:Rt=>x.1) (rtB o) rs k)∧Hid (Blk wr w.heap.size 27 #[.string id,.int .i64 o,.slice a1 cs.length c1,.string pr,.int .i64 st,.slice a2 mv.length c2,.slice a3 rs.length c3,.slice a4 ls.length c4])∧Hid (Below w.heap.size w wr)) (fun i _=>rs.length - (intOf i).toNat)
          case atStart=>exact ⟨0,Nat.zero_le _,rfl,hd_ difTo_zero,KX,HB⟩
          case round=>
           clear t0 t1 t2;obtain ⟨k,hk,rfl,HT,K3,HB3⟩:=hrel;obtain ⟨t0,t1,t2⟩:=K3.out.all;by_cases hlt:k<rs.length
           · obtain ⟨x,hx⟩:∃ n,rs[k]? = some n:=⟨_,List.getElem?_eq_getElem hlt⟩
             obtain ⟨g,off,hA,hg,p0,p1⟩:=(HRS.out.below (HB3.out.mono HBB.out)) k x hx
             have hrt:RtsAt wr B a3 (rs.take k):=fun i y hi=>(HRS.out.below (HB3.out.mono HBB.out)) i y (by
              have hik:i<k:=by have:=(List.getElem?_eq_some_iff.1 hi).1;rw [List.length_take] at this;omega
              rw [List.getElem?_take,if_pos hik] at hi;exact hi)
             have hlk:(rs.take k).length=k:=by rw [List.length_take];omega
             have hszn:=HRN.out x (List.mem_of_getElem? hx);obtain ⟨nm,d⟩:=x;simp only at p0 p1 hszn;subst hA;have ib0:(0:Int)≤(k:Int):=by omega
             have ib1:(k:Int)<(rs.length:Int):=by omega
             have HX:=hd_ hx;have HRT:=hd_ hrt;have HLK:=hd_ hlk;clear hx hrt hlk;have hb4:=HB3.out.alloc HB3.out.size (.cells #[.string nm,.int .i64 d] 56);have k4:=K3.out.alloc (.cells #[.string nm,.int .i64 d] 56);have kn:=Blk.new wr 56 #[.string nm,.int .i64 d];have hrt4:=HRT.out.below ((below_self_alloc wr (.cells #[.string nm,.int .i64 d] 56)).mono (Nat.le_trans HBB.out HB3.out.size));go_upto_region 19 with fail
             clear t0 t1 t2 p0 p1;generalize wr.alloc (.cells #[.string nm,.int .i64 d] 56)=W4 at *;generalize wr.heap.size=gx at *;have HB4:=hd_ hb4;have K4:=hd_ k4;have KN:=hd_ kn;have HRT4:=hd_ hrt4;clear hb4 k4 kn hrt4;obtain ⟨t0,t1,t2⟩:=K4.out.all;obtain ⟨u0,u1,u2⟩:=KN.out.all;have hnm:∀ n,Calls Tryz.prog 122 #[.string nm] (W4.drewN n) fun e w''=>e = .returned (.bool (nameB nm))∧∃ m,w''=W4.drewN m:=fun n=>(rname07_any (W4.drewN n) nm hszn).mono fun _ _ ⟨h1,h2⟩=>⟨h1,n,h2.symm⟩
             cases hn:nameB nm with
             | false=>
              rw [hn] at hnm;have HNM:=hd_ hnm;obtain rfl:R=false:=fm_false HR.out fun e=>by have h:=(fmB_iff.1 e).2.2.2.2.2.2.2.2.1;rw [difB_bad HX.out (by unfold rtB;rw [hn];rfl)] at h;cases h
              clear hnm hn;go_quiet ((go_at_call 122;exact HNM.out _))
              go_wp2
              go_ret
              exact ⟨rfl,below_dN HB4.out nq⟩
             | true=>
              rw [hn] at hnm;have HNM:=hd_ hnm;have HN1:=hd_ hn;clear hnm hn;by_cases h1:o≤d
              case neg=>
               have e1:decide (d<o)=true:=decide_eq_true (by omega);have h1':d<o:=by omega
               obtain rfl:R=false:=fm_false HR.out fun e=>by have h:=(fmB_iff.1 e).2.2.2.2.2.2.2.2.1;rw [difB_bad HX.out (by unfold rtB;rw [decide_eq_false h1,Bool.false_and,Bool.and_false])] at h;cases h
               go_quiet ((go_at_call 122;exact HNM.out _))
               go_wp2
               go_ret
               exact ⟨rfl,below_dN HB4.out nq⟩
              have e1:decide (d<o)=false:=decide_eq_false (by omega);have h1':¬ d<o:=by omega
              by_cases h2:d≤1000000
              case neg=>
               have e2:decide (1000000<d)=true:=decide_eq_true (by omega);have h2':1000000<d:=by omega
               obtain rfl:R=false:=fm_false HR.out fun e=>by have h:=(fmB_iff.1 e).2.2.2.2.2.2.2.2.1;rw [difB_bad HX.out (by unfold rtB;rw [isB_no (.inr (by omega)),Bool.and_false,Bool.and_false])] at h;cases h
               go_quiet ((go_at_call 122;exact HNM.out _))
               go_wp2
               go_ret
               exact ⟨rfl,below_dN HB4.out nq⟩
              have e2:decide (1000000<d)=false:=decide_eq_false (by omega);have h2':¬ 1000000<d:=by omega
              have hsl:=fun W=>slice_to (P:=Tryz.prog) 24 56 2 Tryz.underlying24 (by kernel_rfl) (some ⟨g,off,none⟩) rs.length c3 k (by omega) W
              obtain ⟨q,hq⟩:∃ q:Bool,q=true↔nm∈(rs.take k).map (fun x:Rt=>x.1):=by
               by_cases h:nm∈(rs.take k).map (fun x:Rt=>x.1)
               · exact ⟨true,by simp only [h]⟩
               · exact ⟨false,by simp only [h];decide⟩
              have hri:∀ n,Calls Tryz.prog 123 #[.slice (some ⟨g,off,none⟩) k c3,.string nm] (W4.drewN n) fun e w''=>e = .returned (.bool q)∧∃ m,w''=W4.drewN m:=fun n=>by
               have h:=rright_any (W4.drewN n) B (some ⟨g,off,none⟩) (rs.take k) c3 (HRT4.out.below (below_dN (Below.refl _ _) n)) (by rw [HLK.out];omega) nm q hq;rw [HLK.out] at h;exact h.mono fun _ _ ⟨h1,h2⟩=>⟨h1,n,h2.symm⟩
              have HRI:=hd_ hri;have HQ:=hd_ hq;clear hri hq;go_quiet (first | (go_at_call 122;exact HNM.out _) | (go_at_call 123;exact HRI.out _))
              cases q with
              | true=>
               obtain rfl:R=false:=fm_false HR.out fun e=>by have h:=(fmB_iff.1 e).2.2.2.2.2.2.2.2.1;rw [difB_twice HX.out (HQ.out.1 rfl)] at h;cases h
               go_wp2
               go_ret
               exact ⟨rfl,below_dN HB4.out nq⟩
              | false=>
               have HT2:Hid (difTo (fun x:Rt=>x.1) (rtB o) rs (k+1)):=hd_ (difTo_next HT.out HX.out (by
                have ho:=(isB_iff o).1 HC2.out;unfold rtB;rw [HN1.out,decide_eq_true h1,(isB_iff d).2 (by omega)];rfl) (fun h=>by have:=HQ.out.2 h;cases this))
               have HBN:=hd_ (below_dN HB4.out nq);have KXN:=hd_ (K4.out.drewN nq);clear t0 t1 t2 u0 u1 u2 HRT4 HRT;go_wp2
               go_roundw
               case rel=>exact ⟨k+1,by omega,by go_num,HT2,KXN,HBN⟩
               case measure=>simp [intOf];omega
           · obtain rfl:k=rs.length:=by omega
             have HD1:Hid (difB (fun x:Rt=>x.1) (rtB o) rs=true):=hd_ (by rw [difB_end HT.out];exact decide_eq_true (by omega));clear HT;obtain ⟨Wr,rfl⟩:∃ q,q=wr:=⟨wr,rfl⟩;go_wp2_with fail
             go_loopw [8] (fun i wr=>∃ k:Nat,k≤ls.length∧i = .int .i64 (k:Int)∧Hid (difTo (fun x:Lm=>x.id) prB ls k)∧Hid (Blk wr w.heap.size 27 #[.string id,.int .i64 o,.slice a1 cs.length c1,.string pr,.int .i64 st,.slice a2 mv.length c2,.slice a3 rs.length c3,.slice a4 ls.length c4])∧Hid (Below w.heap.size w wr)) (fun i _=>ls.length - (intOf i).toNat)
             case atStart=>exact ⟨0,Nat.zero_le _,rfl,hd_ difTo_zero,K3,HB3⟩
             case round=>
              clear t0 t1 t2 K3 HB3;obtain ⟨k,hk,rfl,HT,K5,HB5⟩:=hrel;obtain ⟨t0,t1,t2⟩:=K5.out.all;by_cases hlt:k<ls.length
              · obtain ⟨y,hy⟩:∃ n,lv[k]? = some n:=⟨_,List.getElem?_eq_getElem (by rw [HLL.out];exact hlt)⟩
                have hx:ls[k]? = some y.1:=by rw [← HLV.out,List.getElem?_map,hy];rfl
                obtain ⟨g,off,hA,hg,p0,p1,p2,p3,p4,hat⟩:=(HLS.out.below (HB5.out.mono HBB.out)) k y hy;obtain ⟨⟨lid,ln,lu,lf,S⟩,A5,c5⟩:=y;simp only at p0 p1 p2 p3 p4 hat hx;subst hA;have ib0:(0:Int)≤(k:Int):=by omega
                have ib1:(k:Int)<(ls.length:Int):=by omega
                have HX:=hd_ hx;have HY:=hd_ hy;clear hx hy;have hpr:Calls Tryz.prog 124 #[.agg #[.string lid,.int .i64 ln,.int .i64 lu,.int .i64 lf,.slice A5 S.length c5]] wr _:=rProper_any wr ⟨lid,ln,lu,lf,S⟩ B A5 c5 hat (Nat.le_trans HBB.out HB5.out.size)
                cases hp:prB ⟨lid,ln,lu,lf,S⟩ with
                | false=>
                 rw [hp] at hpr;have HPR:=hd_ hpr;obtain rfl:R=false:=fm_false HR.out fun e=>by have h:=(fmB_iff.1 e).2.2.2.2.2.2.2.2.2;rw [difB_bad HX.out hp] at h;cases h
                 clear hpr hp hat;go_wp2_with fail
                 refine HPR.out.mono ?_;rintro e w6 ⟨rfl,b6⟩;have hb6:=HB5.out.trans (b6.mono HB5.out.size);clear b6 t0 t1 t2 p0 p1 p2 p3 p4;go_wp2
                 go_ret
                 exact ⟨rfl,hb6⟩
                | true=>
                 rw [hp] at hpr;have HPR:=hd_ hpr;have HP1:=hd_ hp;clear hpr hp hat;go_wp2_with fail
                 refine HPR.out.mono ?_;rintro e w6 ⟨rfl,b6⟩;have HB6:=hd_ (HB5.out.trans (b6.mono HB5.out.size));have K6:=hd_ (K5.out.below b6 K5.out.lt);clear b6 t0 t1 t2 p0 p1 p2 p3 p4 HPR K5 HB5;go_wp2_with fail
                 go_loopw [9] (fun i wi=>∃ j:Nat,j≤k∧i = .int .i64 (j:Int)∧Hid (lid∉(ls.take j).map (fun x:Lm=>x.id))∧∃ q,wi=w6.drewN q) (fun i _=>k - (intOf i).toNat)
                 case atStart=>exact ⟨0,Nat.zero_le _,rfl,hd_ (by simp),0,rfl⟩
                 case round=>
                  obtain ⟨j,hj,rfl,HI,q,rfl⟩:=hrel;have hbq:=below_dN HB6.out q;have hkq:=K6.out.drewN q;obtain ⟨t0,t1,t2⟩:=hkq.all;by_cases hjk:j<k
                  · obtain ⟨z,hz⟩:∃ n,lv[j]? = some n:=⟨_,List.getElem?_eq_getElem (by rw [HLL.out];omega)⟩
                    have hzx:ls[j]? = some z.1:=by rw [← HLV.out,List.getElem?_map,hz];rfl
                    obtain ⟨g2,off2,hA2,hg2,q0,-⟩:=(HLS.out.below (hbq.mono HBB.out)) j z hz;obtain ⟨g3,off3,hA3,hg3,q1,-⟩:=(HLS.out.below (hbq.mono HBB.out)) k _ HY.out;injection hA2 with hA2;injection hA2 with r1 r2 r3;subst r1 r2;injection hA3 with hA3;injection hA3 with r1 r2 r3;subst r1 r2;obtain ⟨⟨zid,zn,zu,zf,Sz⟩,A6,c6⟩:=z;simp only at q0 q1 hzx;have jb0:(0:Int)≤(j:Int):=by omega
                    have jb1:(j:Int)<(ls.length:Int):=by omega
                    have HZX:=hd_ hzx;clear hz hzx hbq hkq;by_cases hid2:zid=lid
                    · subst hid2
                      obtain rfl:R=false:=fm_false HR.out fun e=>by
                       have h:=(fmB_iff.1 e).2.2.2.2.2.2.2.2.2;rw [difB_twice HX.out (List.mem_map.2 ⟨⟨zid,zn,zu,zf,Sz⟩,List.mem_of_getElem? (by rw [List.getElem?_take,if_pos hjk];exact HZX.out),rfl⟩)] at h
                       cases h
                      go_wp2_with fail
                      generalize hW:w6.drewN q=W at *;go_quiet (fail)
                      subst hW;go_wp2
                      go_ret
                      exact ⟨rfl,below_dN (below_dN HB6.out q) nq⟩
                    · have HI2:Hid (lid∉(ls.take (j+1)).map (fun x:Lm=>x.id)):=hd_ (by
                       rw [take_snoc' HZX.out,List.map_append,List.mem_append];rintro (h | h)
                       · exact HI.out h
                       · simp at h;exact hid2 h.symm)
                      have e3:=str_no hid2;clear hid2;go_wp2_with fail
                      generalize hW:w6.drewN q=W at *;go_quiet (fail)
                      subst hW;clear t0 t1 t2 q0 q1;go_wp2
                      go_roundw
                      case rel=>exact ⟨j+1,by omega,by go_num,HI2,q+nq,rfl⟩
                      case measure=>simp [intOf];omega
                  · obtain rfl:j=k:=by omega
                    have HT2:Hid (difTo (fun x:Lm=>x.id) prB ls (j+1)):=hd_ (difTo_next HT.out HX.out HP1.out HI.out);have HBQ:=hd_ hbq;have KQ:=hd_ hkq;clear hbq hkq t0 t1 t2;go_wp2
                    go_roundw
                    case rel=>exact ⟨j+1,by omega,by go_num,HT2,KQ,HBQ⟩
                    case measure=>simp [intOf];omega
              · obtain rfl:k=ls.length:=by omega
                have hfin:R=true:=by
                 rw [← HR.out];exact fmB_iff.2 ⟨HC0.out,HC1.out,HC2.out,⟨hc3,hc4⟩,HCA.out,hc5,HMA.out,hc6,HD1.out,by rw [difB_end HT.out];exact decide_eq_true (by omega)⟩
                subst hfin;go_wp2
                go_ret
                exact ⟨rfl,HB5.out⟩
end Go.Proofs.YtknchlpcpgflkaaGreatDoor
