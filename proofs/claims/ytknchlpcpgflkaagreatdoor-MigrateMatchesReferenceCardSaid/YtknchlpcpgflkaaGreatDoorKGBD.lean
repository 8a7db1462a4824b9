import Derived.Test.YtknchlpcpgflkaaGreatDoorKGBC
import Derived.Test.YtknchlpcpgflkaaGreatDoorKGAL
import Derived.BigQuiet
import Derived.Test.YtknchlpcpgflkaaGreatDoorKGBB
import Derived.Test.YtknchlpcpgflkaaGreatDoorKGAO
set_option maxRecDepth 100000
set_option maxHeartbeats 16000000
namespace Go.Proofs.YtknchlpcpgflkaaGreatDoor
open Go.RowKit Go.ChangeShapes Go.WideShapes Go.Deep
section
variable {H : Type} {enc : TypeId × Value → H} {w : World} {base : Nat} {spare : Nat → Bool} {held : Bool} {fuel len cap : Nat} {A : Option Addr} {x : DataW H × List MemPlace}
theorem moves_trod (hf:DataW.trod enc Tryz.prog w base spare held fuel 32 [.slice A len cap]=some x):∃ S:List I2,S.length=len∧StopsAt w w.heap.size A S∧len≤9223372036854775807:=by
 have hlen:=slice_len Tryz.underlying32 hf;have hs:=slice_elems Tryz.underlying32 (k:=2) (by kernel_rfl) (by decide) hf
 obtain ⟨l,hl,hp⟩:=list_of (p:=fun i (s:I2)=>∃ g off,A=some ⟨g,off,none⟩∧g<w.heap.size∧w.cell? ⟨g,off+i*2,none⟩=some (.int .i64 s.1)∧w.cell? ⟨g,off+i*2+1,none⟩=some (.int .i64 s.2)) len (fun i hi=>by
  obtain ⟨g,off,n,vs,y,hA,hg,hvl,hc,ht'⟩:=hs i hi
  match vs,hvl with
  | [v0,v1],_=>
   obtain ⟨xs,n,_,hx,hl,hlen,hfl⟩:=DataW.trod_array Tryz.underlying76 ht';have c1:Tryz.prog.cellsOf 3=1:=by kernel_rfl
   have gg:∀ i,i<xs.length→∃ y,xs[i]? = some y:=fun i hi=>⟨_,List.getElem?_eq_getElem hi⟩;obtain ⟨y0,e0⟩:=gg 0 (by omega);obtain ⟨y1,e1⟩:=gg 1 (by omega);have t0:=(hfl 0 (by decide)).trans e0;have t1:=(hfl 1 (by decide)).trans e1;rw [c1] at t0 t1;obtain ⟨s,h0,_,_⟩:=DataW.trod_int Tryz.underlying3 t0;obtain ⟨d,h1,_,_⟩:=DataW.trod_int Tryz.underlying3 t1;have q0:v0 = .int .i64 s:=by simpa using h0
   have q1:v1 = .int .i64 d:=by simpa using h1
   subst q0 q1;exact ⟨(s,d),g,off,hA,hg,hc 0 _ rfl,hc 1 _ rfl⟩)
 exact ⟨l,hl,hp,hlen⟩
def PcIn (w:World) (z:Pc×PcX):Prop:=PcAt w w.heap.size z.1 z.2∧z.1.ss.length≤9223372036854775807∧z.1.ms.length≤9223372036854775807
theorem procedure_at {v:Value} {d:DataW H} {p:List MemPlace} {cs:Array Value} (hv:v = .agg cs) (hsz:cs.size=Tryz.prog.cellsOf 34)
 (h:DataW.Trod enc Tryz.prog w base spare held 34 v d p):∃ z:Pc×PcX,v = .agg (pcC z.1 z.2)∧PcIn w z:=by
 subst hv;have h2:Tryz.prog.cellsOf 34=3:=by kernel_rfl
 rw [h2] at hsz;obtain ⟨fuel,hf⟩:=h;have hc:(Value.agg cs).cells.toList=cs.toList:=rfl;rw [hc] at hf
 obtain ⟨c0,c1,c2,hcs⟩:∃ c0 c1 c2,cs=#[c0,c1,c2]:=by
  obtain ⟨l⟩:=cs
  match l,hsz with
  | [c0,c1,c2],_=>exact ⟨c0,c1,c2,rfl⟩
 subst hcs;obtain ⟨xs,n,_,hx,hl,hlen,hfl⟩:=DataW.trod_struct Tryz.underlying34 hf;have g:∀ i,i<xs.length→∃ y,xs[i]? = some y:=fun i hi=>⟨_,List.getElem?_eq_getElem hi⟩;have hlen2:xs.length=3:=hlen;obtain ⟨y0,e0⟩:=g 0 (by omega);obtain ⟨y1,e1⟩:=g 1 (by omega);obtain ⟨y2,e2⟩:=g 2 (by omega);obtain ⟨k0,h0,_,w0⟩:=DataW.trod_string Tryz.underlying9 ((hfl 0 _ rfl).trans e0);have t1:DataW.trod enc Tryz.prog w base spare held n 31 [c1]=some y1:=(hfl 1 _ rfl).trans e1;have t2:DataW.trod enc Tryz.prog w base spare held n 32 [c2]=some y2:=(hfl 2 _ rfl).trans e2;obtain ⟨A1,l1,q1,rfl⟩:=slice_form Tryz.underlying31 t1;obtain ⟨A2,l2,q2,rfl⟩:=slice_form Tryz.underlying32 t2;have r0:c0 = .string k0:=by injection h0
 subst r0;obtain ⟨ss,hss,b1,n1,m1⟩:=strs_trod Tryz.underlying31 t1;obtain ⟨ms,hms,b2,m2⟩:=moves_trod t2;subst hss hms;exact ⟨(⟨k0,ss,ms⟩,⟨A1,q1,A2,q2⟩),rfl,⟨b1,b2,w0,n1⟩,m1,m2⟩
end
open Go.RowKit Go.Shelf
section
open Go.ChangeShapes Go.WideShapes Go.Deep
variable {H : Type} {enc : TypeId × Value → H} {w : World} {base : Nat} {spare : Nat → Bool} {held : Bool} {fuel len cap : Nat} {A : Option Addr} {x : DataW H × List MemPlace}
def PcIn2 (w:World) (z:Pc×PcX):Prop:=PcIn w z∧z.1.ss.length≤z.2.c1
theorem procedure_at2 {v:Value} {d:DataW H} {p:List MemPlace} {cs:Array Value} (hv:v = .agg cs) (hsz:cs.size=Tryz.prog.cellsOf 34)
 (h:DataW.Trod enc Tryz.prog w base spare held 34 v d p):∃ z:Pc×PcX,v = .agg (pcC z.1 z.2)∧PcIn2 w z:=by
 obtain ⟨z,hz,hin⟩:=procedure_at hv hsz h;refine ⟨z,hz,hin,?_⟩;subst hz;obtain ⟨fuel,hf⟩:=h;obtain ⟨xs,n,_,hx,hl,hlen,hfl⟩:=DataW.trod_struct Tryz.underlying34 hf;have hlen2:xs.length=3:=hlen;obtain ⟨y1,e1⟩:∃ y,xs[1]? = some y:=⟨_,List.getElem?_eq_getElem (by omega)⟩;have t1:DataW.trod enc Tryz.prog w base spare held n 31 [.slice z.2.a1 z.1.ss.length z.2.c1]=some y1:=(hfl 1 _ rfl).trans e1;exact slice_cap Tryz.underlying31 t1
end
theorem pc_false {p:Pc} {R:Bool} (h:pcB p=R) (hn:¬ pcB p=true):R=false:=by
 rw [← h];simpa using hn
theorem pcB_iff {p:Pc} : pcB p=true↔nameB p.name=true∧0<p.ss.length∧difB id nameB p.ss=true∧difB id (mvB p.ss.length) p.ms=true:=by
 unfold pcB;simp only [Bool.and_eq_true,decide_eq_true_eq]
theorem mvB_iff {n:Nat} {m:I2} : mvB n m=true↔0≤m.1∧m.1<(n:Int)∧0≤m.2∧m.2<(n:Int)∧m.1≠m.2:=by
 unfold mvB;rw [decide_eq_true_eq];constructor
 · rintro ⟨h1,h2,h3⟩
   exact ⟨by omega,by omega,by omega,by omega,h1⟩
 · rintro ⟨h1,h2,h3,h4,h5⟩
   exact ⟨h5,by omega,by omega⟩
theorem map_id_ {α:Type} (l:List α):l.map id=l:=by simp
theorem rproper_any (w:World) (B:Nat) (p:Pc) (x:PcX) (h:PcAt w B p x) (hB:B≤w.heap.size) (hs:SmlP p) (hcap:p.ss.length≤x.c1) :
 Calls Tryz.prog 64 #[.agg (pcC p x)] w fun e w'=>e = .returned (.bool (pcB p))∧Below w.heap.size w w':=by
 obtain ⟨R,hR⟩:∃ R,pcB p=R:=⟨_,rfl⟩;rw [hR];obtain ⟨hss,hms,hnm,hsn⟩:=h;obtain ⟨s1,s2⟩:=hs;obtain ⟨name,ss,ms⟩:=p;obtain ⟨a1,c1,a2,c2⟩:=x;simp only at *;show Calls Tryz.prog 64 #[.agg #[.string name,.slice a1 ss.length c1,.slice a2 ms.length c2]] w _;have hb:=below_self_alloc w (.cells #[.string name,.slice a1 ss.length c1,.slice a2 ms.length c2] 34);have kx:=Blk.new w 34 #[.string name,.slice a1 ss.length c1,.slice a2 ms.length c2];have HR:=hd_ hR;have HSS:=hd_ hss;have HMS:=hd_ hms;have HSN:=hd_ hsn;have HBB:=hd_ hB;have HB:=hd_ hb;have KX:=hd_ kx;clear hR hss hms hsn hB;obtain ⟨t0,t1,t2⟩:=kx.all;go_enter Tryz.func64,Tryz.ntmps64
 go_upto_region 1 with fail
 generalize w.alloc (.cells #[.string name,.slice a1 ss.length c1,.slice a2 ms.length c2] 34)=W at *;clear hb kx;have nm:=rname07_any W name hnm
 cases hc0:nameB name with
 | false=>
  have hx:nmB name.data.toList=false:=hc0;rw [hx] at nm;obtain rfl:R=false:=pc_false HR.out fun e=>by have h:=(pcB_iff.1 e).1;rw [hc0] at h;cases h
  have NM:=hd_ nm;clear nm hc0 hx;go_wp2_with fail
  refine NM.out.mono ?_;rintro e w3 ⟨rfl,rfl⟩;clear NM;go_wp2
  go_ret
  exact ⟨rfl,HB.out⟩
 | true=>
  have hx:nmB name.data.toList=true:=hc0;rw [hx] at nm;have NM:=hd_ nm;have HC0:=hd_ hc0;clear nm hc0 hx;go_wp2_with fail
  refine NM.out.mono ?_;rintro e w3 ⟨rfl,rfl⟩;clear NM;by_cases hc1:1≤ss.length
  case neg=>
   have dd:decide ((ss.length:Int)<1)=true:=decide_eq_true (by omega);obtain rfl:R=false:=pc_false HR.out fun e=>by have:=(pcB_iff.1 e).2.1;simp only at this;omega
   go_wp2
   go_ret
   exact ⟨rfl,HB.out⟩
  have dd1:decide ((ss.length:Int)<1)=false:=decide_eq_false (by omega);by_cases hc2:ss.length≤60
  case neg=>
   have dd:decide ((60:Int)<(ss.length:Int))=true:=decide_eq_true (by omega);obtain rfl:R=false:=pc_false HR.out fun e=>by exact hc2 (difB_iff.1 (pcB_iff.1 e).2.2.1).2.2
   go_wp2
   go_ret
   exact ⟨rfl,HB.out⟩
  have dd2:decide ((60:Int)<(ss.length:Int))=false:=decide_eq_false (by omega);by_cases hc3:ms.length≤60
  case neg=>
   have dd:decide ((60:Int)<(ms.length:Int))=true:=decide_eq_true (by omega);obtain rfl:R=false:=pc_false HR.out fun e=>by exact hc3 (difB_iff.1 (pcB_iff.1 e).2.2.2).2.2
   go_wp2
   go_ret
   exact ⟨rfl,HB.out⟩
  have dd3:decide ((60:Int)<(ms.length:Int))=false:=decide_eq_false (by omega);go_wp2_with fail
  clear dd1 dd2 dd3;go_loopw [3] (fun i wr=>∃ k:Nat,k≤ss.length∧i = .int .i64 (k:Int)∧Hid (difTo id nameB ss k)∧∃ q,wr=W.drewN q) (fun i _=>ss.length - (intOf i).toNat)
  case atStart=>exact ⟨0,Nat.zero_le _,rfl,hd_ difTo_zero,0,rfl⟩
  case round=>
   obtain ⟨k,hk,rfl,HT,q,rfl⟩:=hrel;have hkq:=KX.out.drewN q;have hbq:=below_dN HB.out q;clear t0 t1 t2;obtain ⟨t0,t1,t2⟩:=hkq.all;by_cases hlt:k<ss.length
   · obtain ⟨s,hx⟩:∃ n,ss[k]? = some n:=⟨_,List.getElem?_eq_getElem hlt⟩
     obtain ⟨g,off,hA,hg,p0⟩:=(HSS.out.below (hbq.mono HBB.out)) k s hx
     have hrt:BtsAt (W.drewN q) B a1 (ss.take k):=fun i y hi=>(HSS.out.below (hbq.mono HBB.out)) i y (by
      have hik:i<k:=by have:=(List.getElem?_eq_some_iff.1 hi).1;rw [List.length_take] at this;omega
      rw [List.getElem?_take,if_pos hik] at hi;exact hi)
     have hlk:(ss.take k).length=k:=by rw [List.length_take];omega
     have hszn:=HSN.out s (List.mem_of_getElem? hx);subst hA;have ib0:(0:Int)≤(k:Int):=by omega
     have ib1:(k:Int)<(ss.length:Int):=by omega
     have HX:=hd_ hx;have HRT:=hd_ hrt;have HLK:=hd_ hlk;have HBQ:=hd_ hbq;have KQ:=hd_ hkq;clear hx hrt hlk hbq hkq;go_upto_region 6 with fail
     generalize hWq:W.drewN q=W4 at *;have hnm2:∀ n,Calls Tryz.prog 122 #[.string s] (W4.drewN n) fun e w''=>e = .returned (.bool (nameB s))∧∃ m,w''=W4.drewN m:=fun n=>(rname07_any (W4.drewN n) s hszn).mono fun _ _ ⟨h1,h2⟩=>⟨h1,n,h2.symm⟩
     cases hn:nameB s with
     | false=>
      rw [hn] at hnm2;have HNM:=hd_ hnm2;obtain rfl:R=false:=pc_false HR.out fun e=>by have h:=(pcB_iff.1 e).2.2.1;rw [difB_bad HX.out hn] at h;cases h
      clear hnm2 hn;go_quiet ((go_at_call 122;exact HNM.out _))
      go_wp2
      go_ret
      exact ⟨rfl,below_dN HBQ.out nq⟩
     | true=>
      rw [hn] at hnm2;have HNM:=hd_ hnm2;have HN1:=hd_ hn;clear hnm2 hn;have hsl:=fun W=>slice_to (P:=Tryz.prog) 31 9 1 Tryz.underlying31 (by kernel_rfl) (some ⟨g,off,none⟩) ss.length c1 k (by omega) W
      obtain ⟨b,hq⟩:∃ b:Bool,b=true↔s∈ss.take k:=by
       by_cases h:s∈ss.take k
       · exact ⟨true,by simp only [h]⟩
       · exact ⟨false,by simp only [h];decide⟩
      have hri:∀ n,Calls Tryz.prog 130 #[.slice (some ⟨g,off,none⟩) k c1,.string s] (W4.drewN n) fun e w''=>e = .returned (.bool b)∧∃ m,w''=W4.drewN m:=fun n=>by
       have h:=rin_any (W4.drewN n) B (some ⟨g,off,none⟩) (ss.take k) c1 (HRT.out.below (below_dN (Below.refl _ _) n)) (by rw [HLK.out];omega) s b hq;rw [HLK.out] at h;exact h.mono fun _ _ ⟨h1,h2⟩=>⟨h1,n,h2.symm⟩
      have HRI:=hd_ hri;have HQ:=hd_ hq;clear hri hq;go_quiet (first | (go_at_call 122;exact HNM.out _) | (go_at_call 130;exact HRI.out _))
      cases b with
      | true=>
       obtain rfl:R=false:=pc_false HR.out fun e=>by have h:=(pcB_iff.1 e).2.2.1;rw [difB_twice (key:=id) HX.out (by rw [map_id_];exact HQ.out.1 rfl)] at h;cases h
       go_wp2
       go_ret
       exact ⟨rfl,below_dN HBQ.out nq⟩
      | false=>
       have HT2:Hid (difTo id nameB ss (k+1)):=hd_ (difTo_next HT.out HX.out HN1.out (by rw [map_id_];exact fun h=>by have:=HQ.out.2 h;cases this));subst hWq;clear t0 t1 t2 HRT;go_wp2
       go_roundw
       case rel=>exact ⟨k+1,by omega,by go_num,HT2,q+nq,rfl⟩
       case measure=>simp [intOf];omega
   · obtain rfl:k=ss.length:=by omega
     have HD1:Hid (difB id nameB ss=true):=hd_ (by rw [difB_end HT.out];exact decide_eq_true (by omega));have HBQ:=hd_ hbq;have KQ:=hd_ hkq;clear HT hbq hkq;generalize W.drewN q=W5 at *;go_wp2_with fail
     go_loopw [4] (fun i wr=>∃ k:Nat,k≤ms.length∧i = .int .i64 (k:Int)∧Hid (difTo id (mvB ss.length) ms k)∧Hid (Blk wr w.heap.size 34 #[.string name,.slice a1 ss.length c1,.slice a2 ms.length c2])∧Hid (Below w.heap.size w wr)) (fun i _=>ms.length - (intOf i).toNat)
     case atStart=>exact ⟨0,Nat.zero_le _,rfl,hd_ difTo_zero,KQ,HBQ⟩
     case round=>
      clear t0 t1 t2 KQ HBQ;obtain ⟨k,hk,rfl,HT,K5,HB5⟩:=hrel;obtain ⟨t0,t1,t2⟩:=K5.out.all;by_cases hlt:k<ms.length
      · obtain ⟨x,hx⟩:∃ n,ms[k]? = some n:=⟨_,List.getElem?_eq_getElem hlt⟩
        obtain ⟨g,off,hA,hg,p0,p1⟩:=(HMS.out.below (HB5.out.mono HBB.out)) k x hx;subst hA;obtain ⟨z1,z2⟩:=x;simp only at p0 p1;have ib0:(0:Int)≤(k:Int):=by omega
        have ib1:(k:Int)<(ms.length:Int):=by omega
        have HX:=hd_ hx;clear hx;have hb6:=HB5.out.alloc HB5.out.size (.cells #[.int .i64 z1,.int .i64 z2] 76);have k6:=K5.out.alloc (.cells #[.int .i64 z1,.int .i64 z2] 76);have kn:=Blk.new wr 76 #[.int .i64 z1,.int .i64 z2];go_upto_region 12 with fail
        clear t0 t1 t2 p0 p1;generalize wr.alloc (.cells #[.int .i64 z1,.int .i64 z2] 76)=W6 at *;generalize wr.heap.size=gx at *;have HB6:=hd_ hb6;have K6:=hd_ k6;have KN:=hd_ kn;clear hb6 k6 kn K5 HB5;obtain ⟨t0,t1,t2⟩:=K6.out.all;obtain ⟨u0,u1,u2⟩:=KN.out.all;by_cases hm0:0≤z1
        case neg=>
         have de:decide (z1<0)=true:=decide_eq_true (by omega);have dn:z1<0:=by omega
         obtain rfl:R=false:=pc_false HR.out fun e=>by have h:=(pcB_iff.1 e).2.2.2;rw [difB_bad HX.out (by rw [Bool.eq_false_iff];intro h2;have h3:=mvB_iff.1 h2;simp only at h3;omega)] at h;cases h
         go_wp2
         go_ret
         exact ⟨rfl,HB6.out⟩
        have de0:decide (z1<0)=false:=decide_eq_false (by omega);have dn0:¬ (z1<0):=by omega
        by_cases hm1:z1<(ss.length:Int)
        case neg=>
         have de:decide ((ss.length:Int)≤z1)=true:=decide_eq_true (by omega);have dn:(ss.length:Int)≤z1:=by omega
         obtain rfl:R=false:=pc_false HR.out fun e=>by have h:=(pcB_iff.1 e).2.2.2;rw [difB_bad HX.out (by rw [Bool.eq_false_iff];intro h2;have h3:=mvB_iff.1 h2;simp only at h3;omega)] at h;cases h
         go_wp2
         go_ret
         exact ⟨rfl,HB6.out⟩
        have de1:decide ((ss.length:Int)≤z1)=false:=decide_eq_false (by omega);have dn1:¬ ((ss.length:Int)≤z1):=by omega
        by_cases hm2:0≤z2
        case neg=>
         have de:decide (z2<0)=true:=decide_eq_true (by omega);have dn:z2<0:=by omega
         obtain rfl:R=false:=pc_false HR.out fun e=>by have h:=(pcB_iff.1 e).2.2.2;rw [difB_bad HX.out (by rw [Bool.eq_false_iff];intro h2;have h3:=mvB_iff.1 h2;simp only at h3;omega)] at h;cases h
         go_wp2
         go_ret
         exact ⟨rfl,HB6.out⟩
        have de2:decide (z2<0)=false:=decide_eq_false (by omega);have dn2:¬ (z2<0):=by omega
        by_cases hm3:z2<(ss.length:Int)
        case neg=>
         have de:decide ((ss.length:Int)≤z2)=true:=decide_eq_true (by omega);have dn:(ss.length:Int)≤z2:=by omega
         obtain rfl:R=false:=pc_false HR.out fun e=>by have h:=(pcB_iff.1 e).2.2.2;rw [difB_bad HX.out (by rw [Bool.eq_false_iff];intro h2;have h3:=mvB_iff.1 h2;simp only at h3;omega)] at h;cases h
         go_wp2
         go_ret
         exact ⟨rfl,HB6.out⟩
        have de3:decide ((ss.length:Int)≤z2)=false:=decide_eq_false (by omega);have dn3:¬ ((ss.length:Int)≤z2):=by omega
        by_cases hm4:z1≠z2
        case neg=>
         have de:(z1 == z2)=true:=beq_iff_eq.2 (by omega);have dn:z1=z2:=by omega
         obtain rfl:R=false:=pc_false HR.out fun e=>by have h:=(pcB_iff.1 e).2.2.2;rw [difB_bad HX.out (by rw [Bool.eq_false_iff];intro h2;have h3:=mvB_iff.1 h2;simp only at h3;omega)] at h;cases h
         go_wp2
         go_ret
         exact ⟨rfl,HB6.out⟩
        have de4:(z1 == z2)=false:=beq_eq_false_iff_ne.2 hm4;have dn4:¬ (z1=z2):=by omega
        go_wp2_with fail
        clear de0 de1 de2 de3 de4 dn0 dn1 dn2 dn3 dn4 t0 t1 t2 u0 u1 u2;go_loopw [6] (fun i wi=>∃ j:Nat,j≤k∧i = .int .i64 (j:Int)∧Hid ((z1,z2)∉ms.take j)∧∃ q,wi=W6.drewN q) (fun i _=>k - (intOf i).toNat)
        case atStart=>exact ⟨0,Nat.zero_le _,rfl,hd_ (by simp),0,rfl⟩
        case round=>
         obtain ⟨j,hj,rfl,HI,q,rfl⟩:=hrel;have hbq:=below_dN HB6.out q;have hkq:=K6.out.drewN q;have hnq:=KN.out.drewN q;obtain ⟨t0,t1,t2⟩:=hkq.all;obtain ⟨u0,u1,u2⟩:=hnq.all;by_cases hjk:j<k
         · obtain ⟨z,hz⟩:∃ n,ms[j]? = some n:=⟨_,List.getElem?_eq_getElem (by omega)⟩
           obtain ⟨g2,off2,hA2,hg2,q0,q1⟩:=(HMS.out.below (hbq.mono HBB.out)) j z hz;injection hA2 with hA2;injection hA2 with r1 r2 r3;subst r1 r2;obtain ⟨y1,y2⟩:=z;simp only at q0 q1;have jb0:(0:Int)≤(j:Int):=by omega
           have jb1:(j:Int)<(ms.length:Int):=by omega
           have HZ:=hd_ hz;clear hz hbq hkq hnq;by_cases hzz:y1=z1∧y2=z2
           · have heq:∀ W,(Op.equalIn 10000 76 (.agg #[.int .i64 y1,.int .i64 y2]) (.agg #[.int .i64 z1,.int .i64 z2])).run Tryz.prog W = .ok true W:=fun W=>by rw [eq_ky,decide_eq_true hzz]
             obtain rfl:R=false:=pc_false HR.out fun e=>by
              have h:=(pcB_iff.1 e).2.2.2;rw [difB_twice (key:=id) HX.out (by rw [map_id_];exact List.mem_of_getElem? (i:=j) (by rw [List.getElem?_take,if_pos hjk,HZ.out,hzz.1,hzz.2];rfl))] at h
              cases h
             clear hzz;go_wp2_with fail
             generalize hW:W6.drewN q=W7 at *;go_quiet (fail)
             subst hW;go_wp2
             go_ret
             exact ⟨rfl,below_dN (below_dN HB6.out q) nq⟩
           · have heq:∀ W,(Op.equalIn 10000 76 (.agg #[.int .i64 y1,.int .i64 y2]) (.agg #[.int .i64 z1,.int .i64 z2])).run Tryz.prog W = .ok false W:=fun W=>by rw [eq_ky,decide_eq_false hzz]
             have HI2:Hid ((z1,z2)∉ms.take (j+1)):=hd_ (by
              rw [take_snoc' HZ.out];simp only [List.mem_append,List.mem_singleton,Prod.mk.injEq,not_or];exact ⟨HI.out,fun h=>hzz ⟨h.1.symm,h.2.symm⟩⟩)
             clear hzz;go_wp2_with fail
             generalize hW:W6.drewN q=W7 at *;go_quiet (fail)
             subst hW;clear t0 t1 t2 u0 u1 u2 q0 q1;go_wp2
             go_roundw
             case rel=>exact ⟨j+1,by omega,by go_num,HI2,q+nq,rfl⟩
             case measure=>simp [intOf];omega
         · obtain rfl:j=k:=by omega
           have HT2:Hid (difTo id (mvB ss.length) ms (j+1)):=hd_ (difTo_next HT.out HX.out (mvB_iff.2 ⟨hm0,hm1,hm2,hm3,hm4⟩) (by rw [map_id_];exact HI.out));have HBQ:=hd_ hbq;have KQ:=hd_ hkq;clear hbq hkq hnq t0 t1 t2 u0 u1 u2;go_wp2
           go_roundw
           case rel=>exact ⟨j+1,by omega,by go_num,HT2,KQ,HBQ⟩
           case measure=>simp [intOf];omega
      · obtain rfl:k=ms.length:=by omega
        have hfin:R=true:=by
         rw [← HR.out];exact pcB_iff.2 ⟨HC0.out,hc1,HD1.out,by rw [difB_end HT.out];exact decide_eq_true (by omega)⟩
        subst hfin;go_wp2
        go_ret
        exact ⟨rfl,HB5.out⟩
theorem pc_in {r:Pc} (h:pcB r=true):MvIn r.ss.length r.ms:=fun m hm=>by
 obtain ⟨h1,h2,h3,h4,-⟩:=mvB_iff.1 ((difB_iff.1 (pcB_iff.1 h).2.2.2).1 m hm);exact ⟨⟨h1,h2⟩,h3,h4⟩
def mapEV (base:Nat) (p:Pc):Phi:=⟨none,fun _ v w=>∃ b V,v = .map (some b)∧base≤b∧MapV w b (kInts V)∧∀ x,x∈V↔endB p x=true⟩
theorem mapEV_mono (base:Nat) (p:Pc):∀ x v w w',RB w w'→(mapEV base p).p x v w→(mapEV base p).p x v w':=fun _ _ _ _ hr ⟨b,V,h1,h2,h3,h4⟩=>⟨b,V,h1,h2,h3.below hr h3.lt,h4⟩
def psS (w:World) (p q:Pc) (pn:ByteArray) (b1:Option Addr) (n1 e1:Nat) (b2:Option Addr) (n2 e2:Nat) (qn:ByteArray) (d1:Option Addr) (m1 f1:Nat) (d2:Option Addr) (m2 f2:Nat):List Phi:=[
 isV (.agg #[.string pn,.slice b1 n1 e1,.slice b2 n2 e2]),
 mapEV (w.heap.size) p,
 isV (.agg #[.string qn,.slice d1 m1 f1,.slice d2 m2 f2]),
 mapEV (w.heap.size) q,
 mapEV (w.heap.size) p,
 mapEV (w.heap.size) q]
theorem gstuck_any (w:World) (ht:Tbs w) (B:Nat) (g:Mg) (x:MgX) (h:MgAt w B g x) (hB:B≤w.heap.size) (hs:SmlG g) (p:Pc) (y:PcX) (hp:PcAt w B p y) (hsp:SmlP p) (q:Pc) (z:PcX) (hq:PcAt w B q z) (hsq:SmlP q) :
 Calls Tryz.prog 17 #[.agg (mgC g x),.agg (pcC p y),.agg (pcC q z)] w fun e w'=>∃ A c,e = .returned (.slice A (stuckL g p q).length c)∧IntsAt w' w'.heap.size A (stuckL g p q)∧Below w.heap.size w w':=by
 have hva:=fun W (hW:Below w.heap.size w W)=>gvalid_any W (ht.below hW) B g x (h.below (hW.mono hB)) (Nat.le_trans hB hW.size) hs p y (hp.below (hW.mono hB)) hsp q z (hq.below (hW.mono hB)) hsq
 have hin:vdB g p q=true→MvIn p.ss.length p.ms∧MvIn q.ss.length q.ms:=fun hv=>by
  obtain ⟨-,h1,h2,-⟩:=vdB_iff.1 hv;exact ⟨pc_in h1,pc_in h2⟩
 have he1:=fun (hv:vdB g p q=true) W (hW:Below w.heap.size w W)=>gends_any W B p y (hp.below (hW.mono hB)) (Nat.le_trans hB hW.size) (hin hv).1 hsp.2 hsp.1;have he2:=fun (hv:vdB g p q=true) W (hW:Below w.heap.size w W)=>gends_any W B q z (hq.below (hW.mono hB)) (Nat.le_trans hB hW.size) (hin hv).2 hsq.2 hsq.1;obtain ⟨v,hv⟩:∃ v,vdB g p q=v:=⟨_,rfl⟩;have hst:=h.st;obtain ⟨L0,hL0⟩:∃ L0,stuckL g p q=L0:=⟨_,rfl⟩;rw [hL0];unfold stuckL at hL0;rw [hv] at hva he1 he2 hL0;have HL0:=hd_ hL0;have HVA:=hd_ hva;have HE10:=hd_ he1;have HE20:=hd_ he2;have HST:=hd_ hst;have HH:=hd_ h;clear hva hin he1 he2 hst h hp hq ht hv hL0;show Calls Tryz.prog 17 #[.agg #[.string g.fr,.string g.tn,.slice x.a1 g.st.length x.c1,.slice x.a2 g.rs.length x.c2,.slice x.a3 g.ts.length x.c3],.agg #[.string p.name,.slice y.a1 p.ss.length y.c1,.slice y.a2 p.ms.length y.c2],.agg #[.string q.name,.slice z.a1 q.ss.length z.c1,.slice z.a2 q.ms.length z.c2]] w _;have hb:=((below_self_alloc w (.cells #[.string g.fr,.string g.tn,.slice x.a1 g.st.length x.c1,.slice x.a2 g.rs.length x.c2,.slice x.a3 g.ts.length x.c3] 30)).alloc (by simp) (.cells #[.string p.name,.slice y.a1 p.ss.length y.c1,.slice y.a2 p.ms.length y.c2] 34)).alloc (by simp;omega) (.cells #[.string q.name,.slice z.a1 q.ss.length z.c1,.slice z.a2 q.ms.length z.c2] 34);have k0:=((Blk.new w 30 #[.string g.fr,.string g.tn,.slice x.a1 g.st.length x.c1,.slice x.a2 g.rs.length x.c2,.slice x.a3 g.ts.length x.c3]).alloc (.cells #[.string p.name,.slice y.a1 p.ss.length y.c1,.slice y.a2 p.ms.length y.c2] 34)).alloc (.cells #[.string q.name,.slice z.a1 q.ss.length z.c1,.slice z.a2 q.ms.length z.c2] 34);have k1:=(Blk.new1 w (.cells #[.string g.fr,.string g.tn,.slice x.a1 g.st.length x.c1,.slice x.a2 g.rs.length x.c2,.slice x.a3 g.ts.length x.c3] 30) 34 #[.string p.name,.slice y.a1 p.ss.length y.c1,.slice y.a2 p.ms.length y.c2]).alloc (.cells #[.string q.name,.slice z.a1 q.ss.length z.c1,.slice z.a2 q.ms.length z.c2] 34);have k2:=Blk.new2 w (.cells #[.string g.fr,.string g.tn,.slice x.a1 g.st.length x.c1,.slice x.a2 g.rs.length x.c2,.slice x.a3 g.ts.length x.c3] 30) (.cells #[.string p.name,.slice y.a1 p.ss.length y.c1,.slice y.a2 p.ms.length y.c2] 34) 34 #[.string q.name,.slice z.a1 q.ss.length z.c1,.slice z.a2 q.ms.length z.c2];have HB:=hd_ hb;have K0:=hd_ k0;have K1:=hd_ k1;have K2:=hd_ k2;clear hb k0 k1 k2;obtain ⟨t0,t1,t2⟩:=K0.out.all;obtain ⟨u0,u1,u2⟩:=K1.out.all;obtain ⟨v0,v1,v2⟩:=K2.out.all;go_enter Tryz.func17,Tryz.ntmps17
 go_wp2_with fail
 generalize ((w.alloc (.cells #[.string g.fr,.string g.tn,.slice x.a1 g.st.length x.c1,.slice x.a2 g.rs.length x.c2,.slice x.a3 g.ts.length x.c3] 30)).alloc (.cells #[.string p.name,.slice y.a1 p.ss.length y.c1,.slice y.a2 p.ms.length y.c2] 34)).alloc (.cells #[.string q.name,.slice z.a1 q.ss.length z.c1,.slice z.a2 q.ms.length z.c2] 34)=W0 at *;have HC:Hid (Calls Tryz.prog 18 #[.agg #[.string g.fr,.string g.tn,.slice x.a1 g.st.length x.c1,.slice x.a2 g.rs.length x.c2,.slice x.a3 g.ts.length x.c3],.agg #[.string p.name,.slice y.a1 p.ss.length y.c1,.slice y.a2 p.ms.length y.c2],.agg #[.string q.name,.slice z.a1 q.ss.length z.c1,.slice z.a2 q.ms.length z.c2]] W0 _):=hd_ (HVA.out W0 HB.out);refine HC.out.mono ?_;rintro e W1 ⟨rfl,bz⟩;have HB2:=hd_ (HB.out.trans (bz.mono HB.out.size));have KX0:=hd_ (K0.out.below bz K0.out.lt);have KX1:=hd_ (K1.out.below bz K1.out.lt);have KX2:=hd_ (K2.out.below bz K2.out.lt);clear bz t0 t1 t2 u0 u1 u2 v0 v1 v2 HB K0 K1 K2 HC HVA
 cases v with
 | false=>
  go_wp2
  go_ret
  have hl:L0=[]:=HL0.out.symm;subst hl;exact ⟨none,0,rfl,fun i x hi=>by simp at hi,HB2.out⟩
 | true=>
  have hbv:∀ V,PSv W1 V→Below w.heap.size w V:=fun V hV=>HB2.out.trans (Below.mono hV HB2.out.size);have hrd:∀ V,PSv W1 V→(∀ i,V.cell? ⟨w.heap.size+1,i,none⟩=(#[.string p.name,.slice y.a1 p.ss.length y.c1,.slice y.a2 p.ms.length y.c2]:Array Value)[i]?)∧(∀ i,V.cell? ⟨w.heap.size+1+1,i,none⟩=(#[.string q.name,.slice z.a1 q.ss.length z.c1,.slice z.a2 q.ms.length z.c2]:Array Value)[i]?):=fun V hV=>⟨(KX1.out.below hV KX1.out.lt).cell,(KX2.out.below hV KX2.out.lt).cell⟩;have he1:∀ V,PSv W1 V→Calls Tryz.prog 46 #[.agg #[.string p.name,.slice y.a1 p.ss.length y.c1,.slice y.a2 p.ms.length y.c2]] V _:=fun V hV=>HE10.out (by trivial) V (hbv V hV);have he2:∀ V,PSv W1 V→Calls Tryz.prog 46 #[.agg #[.string q.name,.slice z.a1 q.ss.length z.c1,.slice z.a2 q.ms.length z.c2]] V _:=fun V hV=>HE20.out (by trivial) V (hbv V hV);have HBV:=hd_ hbv;have HRD:=hd_ hrd;have HE1:=hd_ he1;have HE2:=hd_ he2;clear hbv hrd he1 he2 HE10 HE20;go_wp2_with fail
  refine wp_region_rg2 (PSv W1) RB (psS w p q p.name y.a1 p.ss.length y.c1 y.a2 p.ms.length y.c2 q.name z.a1 q.ss.length z.c1 z.a2 q.ms.length z.c2) [0,1,2,3,4,5] (by kernel_rfl) (by kernel_rfl) (by kernel_rfl) (below_drewM W1) ⟨isV_mono _,mapEV_mono _ _,isV_mono _,mapEV_mono _ _,mapEV_mono _ _,mapEV_mono _ _,trivial⟩ ?_;intro F hF;simp only [putAll,List.map_cons,List.map_nil,Act.put,List.setIfInBounds_toArray,List.set_cons_succ,List.set_cons_zero] at hF;have HFX:=hd_ hF;clear hF;refine ⟨fun Q'=>⟨?_,?_,?_,?_,?_,?_,trivial⟩,?_⟩
  · intro u W hS hd hp
    have HS:=hd_ hS;clear hS;rw [HFX.out];clear hd hp;obtain ⟨r1,r2⟩:=HRD.out W HS.out;go_wp2_with fail
    exact ⟨_,by rw [HFX.out];simp [upd],rfl,HS.out,Below.refl _ _⟩
  · intro u W hS hd hp
    have HS:=hd_ hS;clear hS;obtain ⟨d0,-⟩:=hd;have e0:u 0 = .agg #[.string p.name,.slice y.a1 p.ss.length y.c1,.slice y.a2 p.ms.length y.c2]:=d0 rfl;rw [HFX.out];simp only [e0];clear hp d0;go_wp2_with fail
    refine (HE1.out W HS.out).mono ?_;rintro e W2 ⟨b,V,rfl,hb,hm,hx,b2⟩;go_wp2_with fail
    exact ⟨_,by rw [HFX.out];simp [upd,e0],⟨b,V,rfl,by have:=(HBV.out W HS.out).size;omega,hm,hx⟩,PSv.go HS.out b2,b2⟩
  · intro u W hS hd hp
    have HS:=hd_ hS;clear hS;rw [HFX.out];clear hd hp;obtain ⟨r1,r2⟩:=HRD.out W HS.out;go_wp2_with fail
    exact ⟨_,by rw [HFX.out];simp [upd],rfl,HS.out,Below.refl _ _⟩
  · intro u W hS hd hp
    have HS:=hd_ hS;clear hS;obtain ⟨d2,-⟩:=hd;have e2:u 2 = .agg #[.string q.name,.slice z.a1 q.ss.length z.c1,.slice z.a2 q.ms.length z.c2]:=d2 rfl;rw [HFX.out];simp only [e2];clear hp d2;go_wp2_with fail
    refine (HE2.out W HS.out).mono ?_;rintro e W2 ⟨b,V,rfl,hb,hm,hx,b2⟩;go_wp2_with fail
    exact ⟨_,by rw [HFX.out];simp [upd,e2],⟨b,V,rfl,by have:=(HBV.out W HS.out).size;omega,hm,hx⟩,PSv.go HS.out b2,b2⟩
  · intro u W hS hd hp
    have HS:=hd_ hS;clear hS;obtain ⟨d1,-⟩:=hd;obtain ⟨z1,V1,e1,gb1,gm1,gx1⟩:(mapEV w.heap.size p).p (u 1) (u 1) W:=d1 rfl;rw [HFX.out];simp only [e1];clear hp d1;go_wp2_with fail
    exact ⟨_,by rw [HFX.out];simp [upd,e1],⟨z1,V1,rfl,gb1,gm1,gx1⟩,HS.out,Below.refl _ _⟩
  · intro u W hS hd hp
    have HS:=hd_ hS;clear hS;obtain ⟨d3,-⟩:=hd;obtain ⟨z3,V3,e3,gb3,gm3,gx3⟩:(mapEV w.heap.size q).p (u 3) (u 3) W:=d3 rfl;rw [HFX.out];simp only [e3];clear hp d3;go_wp2_with fail
    exact ⟨_,by rw [HFX.out];simp [upd,e3],⟨z3,V3,rfl,gb3,gm3,gx3⟩,HS.out,Below.refl _ _⟩
  intro u W hS hf;obtain ⟨z4,V4,e4,gb4,gm4,gx4⟩:(mapEV w.heap.size p).p (u 4) (u 4) W:=hf 4 (by decide);obtain ⟨z5,V5,e5,gb5,gm5,gx5⟩:(mapEV w.heap.size q).p (u 5) (u 5) W:=hf 5 (by decide);rw [HFX.out];simp only [e4,e5];obtain ⟨i0,hi0,hz0,hz1,hz2⟩:=info_parts Tryz.infoInt;have hbw:=HBV.out W hS;have kx:=KX0.out.below hS KX0.out.lt;have hstw:=HST.out.below (hbw.mono hB);have hl0:L0=stuckTo g p q g.st.length:=HL0.out.symm;subst hl0;have hx4:∀ x,decide (x∈V4)=endB p x:=fun x=>by rw [Bool.eq_iff_iff,decide_eq_true_eq];exact gx4 x
  have hx5:∀ x,decide (x∈V5)=endB q x:=fun x=>by rw [Bool.eq_iff_iff,decide_eq_true_eq];exact gx5 x
  have m4:=fun V (hV:Below W.heap.size W V) (x:Int)=>(hx4 x)▸kInts_look (gm4.below hV gm4.lt) x;have m5:=fun V (hV:Below W.heap.size W V) (x:Int)=>(hx5 x)▸kInts_look (gm5.below hV gm5.lt) x;have hlen:=hs.1;have hbz:=Nat.le_trans hB hbw.size;obtain ⟨X1,hX1⟩:∃ X,x.a1=X:=⟨_,rfl⟩;rw [hX1] at kx hstw ⊢;obtain ⟨N,hN⟩:∃ N,g.st.length=N:=⟨_,rfl⟩;rw [hN] at kx hlen ⊢;have HBW:=hd_ hbw;have HBZ:=hd_ hbz;have HSTW:=hd_ hstw;have M4:=hd_ m4;have M5:=hd_ m5;have HN:=hd_ hN;obtain ⟨t0,t1,t2⟩:=kx.all;clear hf HFX F hS e4 e5 HRD HBV HE1 HE2 hbw hbz hstw hx4 hx5 gx4 gx5 gm4 gm5 gb4 gb5 m4 m5 kx hX1 hN HST HL0 HH HB2 KX0 KX1 KX2 hs hsp hsq hB;go_wp2_with fail
  go_loopg [9,24] N (fun n v i wr=>∃ (k:Nat) (A:Option Addr) (c:Nat),k+n=N∧v = .slice A (stuckTo g p q k).length c∧i = .int .i64 (k:Int)∧Hid (wr.ownsRow W.heap.size 3 1 (.slice A (stuckTo g p q k).length c) (stuckTo g p q k).length (intCells (stuckTo g p q k)))∧Hid (Below W.heap.size W wr))
  case atStart=>exact ⟨0,none,0,Nat.zero_add _,rfl,rfl,hd_ (World.ownsRow_nil _ _ _ _),hd_ (Below.refl _ _)⟩
  case round=>
   obtain ⟨k,A,c,hk,rfl,rfl,OW,HB⟩:=hrel;have hLk:=stuckTo_len g p q k;by_cases hlt:k<N
   · obtain ⟨m,rfl⟩:∃ m,gk=m+1:=⟨gk - 1,by omega⟩
     obtain ⟨s,hx⟩:∃ s,g.st[k]? = some s:=⟨_,List.getElem?_eq_getElem (by rw [HN.out];exact hlt)⟩;have hst:=HSTW.out.below (HB.out.mono HBZ.out);obtain ⟨ga,oa,hA,hga,p0⟩:=hst k s hx;subst hA;have hnw:newSt g (k:Int)=s:=by unfold newSt;rw [Int.toNat_natCast,hx];rfl
     obtain ⟨r4,hr4⟩:∃ r,endB p (k:Int)=r:=⟨_,rfl⟩;obtain ⟨r5,hr5⟩:∃ r,endB q s=r:=⟨_,rfl⟩;have q4:=hr4▸M4.out wr HB.out (k:Int);have q5:=hr5▸M5.out wr HB.out s;have hstk:stkB g p q k=(decide (0≤s) && (r4 && !r5)):=by unfold stkB;rw [hnw,hr4,hr5]
     have hnx:stuckTo g p q (k+1)=stuckTo g p q k++if (decide (0≤s) && (r4 && !r5))=true then [(k:Int)] else []:=by rw [← hstk];rfl
     have ib0:(0:Int)≤(k:Int):=by omega
     have ib1:(k:Int)<(N:Int):=by omega
     obtain ⟨L,hL⟩:∃ L,stuckTo g p q k=L:=⟨_,rfl⟩;rw [hL] at hnx OW hLk ⊢;have HNX:=hd_ hnx;clear hx hst hnw hr4 hr5 hstk hnx hL;by_cases hs0:0≤s
     · have d0:decide (0≤s)=true:=decide_eq_true hs0
       cases r4 with
       | true=>
        cases r5 with
        | false=>
         have hnx:stuckTo g p q (k+1)=L++[(k:Int)]:=by rw [HNX.out,d0];rfl
         have HNX:=hd_ hnx;have kn:=Blk.new wr 3 #[.int .i64 (k:Int)];have own3:=OW.out.alloc (.cells #[.int .i64 (k:Int)] 3);have o3:=HB.out.alloc HB.out.size (.cells #[.int .i64 (k:Int)] 3);have hsz:=o3.size;have O3:=hd_ o3;clear o3 hnx;go_wp2_with (at_builtin;refine wpList_append_lies _ rfl _ _ 22 rfl W.heap.size 3 i0 _ 1 8 Tryz.underlying22 hi0 hz0 hz1 hz2 rfl (by omega) (.slice A L.length c) L.length _ rfl own3 ⟨wr.heap.size,0,none⟩ 1 1 [.int .i64 (k:Int)] rfl rfl (World.news_of_block kn) (intCells_one [(k:Int)]) (by omega) (by unfold maxLen;omega) (by omega) (by omega) _ rfl ?_;intro gz cz Y own4 gr4 l4 z4)
         have o4:=O3.out.grown gr4 O3.out.size (fun i hi=>(World.ownsRow.lt own3 i hi).1);have OW4:=hd_ own4;have O4:=hd_ o4;clear o4 own4 own3 gr4 l4 kn;go_wp2
         go_roundg m
         case rel=>exact ⟨k+1,_,_,by omega,by rw [HNX.out,List.length_append];rfl,by go_num,hd_ (by rw [HNX.out,List.length_append,intCells_app];exact OW4.out),O4⟩
         case measure=>omega
        | true=>
         have hnx:stuckTo g p q (k+1)=L:=by rw [HNX.out];simp
         have HNX:=hd_ hnx;clear hnx;go_wp2
         go_roundg m
         case rel=>exact ⟨k+1,A,c,by omega,by rw [HNX.out],by go_num,hd_ (by rw [HNX.out];exact OW.out),HB⟩
         case measure=>omega
       | false=>
        have hnx:stuckTo g p q (k+1)=L:=by rw [HNX.out];simp
        have HNX:=hd_ hnx;clear hnx;go_wp2
        go_roundg m
        case rel=>exact ⟨k+1,A,c,by omega,by rw [HNX.out],by go_num,hd_ (by rw [HNX.out];exact OW.out),HB⟩
        case measure=>omega
     · have d0:decide (0≤s)=false:=decide_eq_false hs0
       have hnx:stuckTo g p q (k+1)=L:=by rw [HNX.out];rw [d0];simp
       have HNX:=hd_ hnx;clear hnx;go_wp2
       go_roundg m
       case rel=>exact ⟨k+1,A,c,by omega,by rw [HNX.out],by go_num,hd_ (by rw [HNX.out];exact OW.out),HB⟩
       case measure=>omega
   · obtain rfl:gk=0:=by omega
     obtain rfl:k=N:=by omega
     have nb:¬ (k:Int)<(k:Int):=by omega
     clear M4 M5 HSTW;go_wp2
     go_ret
     have hown:=OW.out;exact ⟨A,⟨c,by rw [HN.out];rfl⟩,by rw [HN.out];exact IntsAt.of_row rfl hown,HBW.out.trans (HB.out.mono HBW.out.size)⟩
end Go.Proofs.YtknchlpcpgflkaaGreatDoor
