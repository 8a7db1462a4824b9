import Derived.Test.YtknchlpcpgflkaaGreatDoorKGAG
import Derived.Test.YtknchlpcpgflkaaGreatDoorKGAE
import Derived.Laws.EntriesVeiled
set_option maxRecDepth 100000
set_option maxHeartbeats 16000000
namespace Go.Proofs.YtknchlpcpgflkaaGreatDoor
open Go.RowKit
def KyV (v:Value):Prop:=∃ a b:Int,v = .agg #[.int .i64 a,.int .i64 b]
theorem eq_ky (a b c d:Int) (W:World):(Op.equalIn 10000 76 (.agg #[.int .i64 a,.int .i64 b]) (.agg #[.int .i64 c,.int .i64 d])).run Tryz.prog W = .ok (decide (a=c∧b=d)) W:=by
 have hi:∀ (W:World) (x z:Int),(Op.equalIn 9999 3 (.int .i64 x) (.int .i64 z)).run Tryz.prog W = .ok (decide (x=z)) W:=fun W x z=>by
  rw [show (9999:Nat)=9998+1 from rfl];unfold Op.equalIn;simp [run_underlying Tryz.underlying3]
  try rfl
 rw [show (10000:Nat)=9999+1 from rfl];unfold Op.equalIn;simp [run_underlying Tryz.underlying76,go_sem,List.range',hi,run_underlying Tryz.underlying3,isAgg];by_cases h1:a=c <;> by_cases h2:b=d <;> simp [h1,h2]
theorem check2 (w:World) (em:Bool) (a b:Int):(Instr.checkKey em 10000 76 (.agg #[.int .i64 a,.int .i64 b])).run Tryz.prog w = .ok () w:=by
 have hi:∀ (W:World) (x:Int),(Instr.checkKey em 9999 3 (.int .i64 x)).run Tryz.prog W = .ok () W:=fun W x=>by
  rw [show (9999:Nat)=9998+1 from rfl];unfold Instr.checkKey;simp [run_underlying Tryz.underlying3]
 rw [show (10000:Nat)=9999+1 from rfl];unfold Instr.checkKey;simp [run_underlying Tryz.underlying76,go_sem,List.range',hi,run_underlying Tryz.underlying3,isAgg]
theorem ask2 (w:World) (a b:Int):∀ (es:List MapEntry) (i:Nat),(∀ e∈es,KyV e.key) →
 ((Instr.findAsking 76 (.agg #[.int .i64 a,.int .i64 b]) es i).run Tryz.prog w = .ok none w∧∀ e∈es,e.key≠.agg #[.int .i64 a,.int .i64 b])∨∃ (j:Nat) (e:MapEntry),(Instr.findAsking 76 (.agg #[.int .i64 a,.int .i64 b]) es i).run Tryz.prog w = .ok (some (i+j,e.val)) w∧es[j]? = some e∧e.key = .agg #[.int .i64 a,.int .i64 b]
 | [],i,_=>.inl ⟨rfl,by simp⟩
 | x::es,i,h=>by
  obtain ⟨c,d,ht⟩:=h x List.mem_cons_self;have heq:=eq_ky a b c d w;unfold Instr.findAsking;rw [Sem.run_bind];have h1:(Op.equal 76 (.agg #[.int .i64 a,.int .i64 b]) x.key).run Tryz.prog w = .ok (decide (a=c∧b=d)) w:=by rw [ht];exact heq
  rw [h1];by_cases hst:a=c∧b=d
  · right
    refine ⟨0,x,?_,rfl,by rw [ht,hst.1,hst.2]⟩;simp [hst]
  · have hne:x.key≠.agg #[.int .i64 a,.int .i64 b]:=fun e=>hst (by
     rw [ht] at e;simp at e;exact ⟨e.1.symm,e.2.symm⟩)
    simp only [hst,decide_false,Result.andThen_ok,Bool.false_eq_true,if_false];rcases ask2 w a b es (i+1) (fun e he=>h e (List.mem_cons_of_mem _ he)) with ⟨h2,h3⟩ | ⟨j,e,h2,h3,h4⟩
    · refine .inl ⟨h2,fun e he=>?_⟩
      rcases List.mem_cons.1 he with rfl | he
      · exact hne
      · exact h3 e he
    · exact .inr ⟨j+1,e,by rw [h2,show i+1+j=i+(j+1) by omega],by simpa using h3,h4⟩
theorem kys2:Kys Tryz.prog 76 KyV where
 check w em v hv:=by obtain ⟨a,b,rfl⟩:=hv;exact check2 w em a b
 find w x hx es hes:=by
  obtain ⟨a,b,rfl⟩:=hx;have hu:=run_underlying Tryz.underlying76 w
  cases es with
  | nil=>
   refine .inl ⟨?_,by simp⟩;simp [Instr.findKey,hu,Instr.findNow]
  | cons e es=>
   have h1:(Instr.findKey 76 (.agg #[.int .i64 a,.int .i64 b]) (e::es)).run Tryz.prog w=(Instr.findAsking 76 (.agg #[.int .i64 a,.int .i64 b]) (e::es) 0).run Tryz.prog w:=by
    simp [Instr.findKey,hu,Instr.findNow,Instr.sameNow]
   rcases ask2 w a b (e::es) 0 hes with ⟨h2,h3⟩ | ⟨j,e',h2,h3,h4⟩
   · exact .inl ⟨h1.trans h2,h3⟩
   · exact .inr ⟨j,e',by rw [h1,h2,Nat.zero_add],h3,h4⟩
 stays w v hv:=by
  obtain ⟨a,b,rfl⟩:=hv
  have:Instr.sameBits 10000 (.agg #[.int .i64 a,.int .i64 b]) (.agg #[.int .i64 a,.int .i64 b])=true:=by
   rw [show (10000:Nat)=9999+1 from rfl];simp [Instr.sameBits]
  simp [Instr.keyThatStays,this]
def StrV (v:Value):Prop:=∃ s:ByteArray,v = .string s
theorem str_beq (a b:ByteArray):(a.toList == b.toList)=decide (a=b):=by
 rw [Lib.toList_data,Lib.toList_data,Bool.eq_iff_iff];simp only [beq_iff_eq,decide_eq_true_eq];constructor
 · intro h
   obtain ⟨⟨a⟩⟩:=a;obtain ⟨⟨b⟩⟩:=b;simp only at h;rw [h]
 · rintro rfl
   rfl
theorem checkStr (w:World) (em:Bool) (s:ByteArray):(Instr.checkKey em 10000 9 (.string s)).run Tryz.prog w = .ok () w:=by
 rw [show (10000:Nat)=9999+1 from rfl];unfold Instr.checkKey;simp [run_underlying Tryz.underlying9]
theorem bytes_eq (a b:ByteArray):(a == b)=decide (a=b):=by
 rw [Bool.eq_iff_iff,decide_eq_true_eq];exact Go.MapKept.bytes_beq a b
theorem nowStr (s:ByteArray):∀ (es:List MapEntry) (i:Nat),(∀ e∈es,StrV e.key) →
 (Instr.findNow .string (.string s) es i=some none∧∀ e∈es,e.key≠.string s)∨∃ (j:Nat) (e:MapEntry),Instr.findNow .string (.string s) es i=some (some (i+j,e.val))∧es[j]? = some e∧e.key = .string s
 | [],i,_=>.inl ⟨rfl,by simp⟩
 | x::es,i,h=>by
  obtain ⟨t,ht⟩:=h x List.mem_cons_self;by_cases hst:s=t
  · refine .inr ⟨0,x,?_,rfl,by rw [ht,hst]⟩
    unfold Instr.findNow;rw [ht];simp [Instr.sameNow,bytes_eq,hst]
  · have hne:x.key≠.string s:=fun e=>hst (by rw [ht] at e;injection e with e;exact e.symm)
    have hstep:Instr.findNow .string (.string s) (x::es) i=Instr.findNow .string (.string s) es (i+1):=by
     rw [Instr.findNow,ht];simp [Instr.sameNow,bytes_eq,hst]
    rw [hstep];rcases nowStr s es (i+1) (fun e he=>h e (List.mem_cons_of_mem _ he)) with ⟨h2,h3⟩ | ⟨j,e,h2,h3,h4⟩
    · refine .inl ⟨h2,fun e he=>?_⟩
      rcases List.mem_cons.1 he with rfl | he
      · exact hne
      · exact h3 e he
    · exact .inr ⟨j+1,e,by rw [h2,show i+1+j=i+(j+1) by omega],by simpa using h3,h4⟩
theorem askStr (w:World) (s:ByteArray) (es:List MapEntry) (h:∀ e∈es,StrV e.key) :
 ((Instr.findKey 9 (.string s) es).run Tryz.prog w = .ok none w∧∀ e∈es,e.key≠.string s)∨∃ (j:Nat) (e:MapEntry),(Instr.findKey 9 (.string s) es).run Tryz.prog w = .ok (some (j,e.val)) w∧es[j]? = some e∧e.key = .string s:=by
 have hu:=run_underlying Tryz.underlying9 w;rcases nowStr s es 0 h with ⟨h2,h3⟩ | ⟨j,e,h2,h3,h4⟩
 · exact .inl ⟨by simp [Instr.findKey,hu,h2],h3⟩
 · exact .inr ⟨j,e,by simp [Instr.findKey,hu,h2],h3,h4⟩
theorem kysStr:Kys Tryz.prog 9 StrV where
 check w em v hv:=by obtain ⟨s,rfl⟩:=hv;exact checkStr w em s
 find w x hx es hes:=by
  obtain ⟨s,rfl⟩:=hx;exact askStr w s es hes
 stays w v hv:=by
  obtain ⟨s,rfl⟩:=hv
  have:Instr.sameBits 10000 (.string s) (.string s)=true:=by
   rw [show (10000:Nat)=9999+1 from rfl];simp [Instr.sameBits,bytes_eq]
  simp [Instr.keyThatStays,this]
def BtsAt (w:World) (B:Nat) (A:Option Addr) (l:List ByteArray):Prop:=
 ∀ (i:Nat) (s:ByteArray),l[i]? = some s→∃ g off,A=some ⟨g,off,none⟩∧g<B∧w.cell? ⟨g,off+i,none⟩=some (.string s)
def RtsAt (w:World) (B:Nat) (A:Option Addr) (l:List Rt):Prop:=
 ∀ (i:Nat) (x:Rt),l[i]? = some x→∃ g off,A=some ⟨g,off,none⟩∧g<B∧w.cell? ⟨g,off+i*2,none⟩=some (.string x.1)∧w.cell? ⟨g,off+i*2+1,none⟩=some (.int .i64 x.2)
abbrev LmV:=Lm×Option Addr×Nat
def LmsAt (w:World) (B:Nat) (A:Option Addr) (l:List LmV):Prop:=
 ∀ (i:Nat) (x:LmV),l[i]? = some x→∃ g off,A=some ⟨g,off,none⟩∧g<B∧w.cell? ⟨g,off+i*5,none⟩=some (.string x.1.id)∧w.cell? ⟨g,off+i*5+1,none⟩=some (.int .i64 x.1.n)∧w.cell? ⟨g,off+i*5+2,none⟩=some (.int .i64 x.1.u)∧w.cell? ⟨g,off+i*5+3,none⟩=some (.int .i64 x.1.f)∧w.cell? ⟨g,off+i*5+4,none⟩=some (.slice x.2.1 x.1.S.length x.2.2)∧LmAt w B x.2.1 x.1
section
variable {w w' : World} {B B' : Nat} {A : Option Addr}
theorem BtsAt.below {l:List ByteArray} (h:BtsAt w B A l) (hb:Below B w w'):BtsAt w' B A l:=fun i s hi=>by
 obtain ⟨g,off,hA,hg,c0⟩:=h i s hi;exact ⟨g,off,hA,hg,(hb.cell (p:=⟨g,off+i,none⟩) hg).trans c0⟩
theorem BtsAt.wide {l:List ByteArray} (h:BtsAt w B A l) (hB:B≤B'):BtsAt w B' A l:=fun i s hi=>by
 obtain ⟨g,off,hA,hg,c0⟩:=h i s hi;exact ⟨g,off,hA,by omega,c0⟩
theorem BtsAt.nil (w:World) (B:Nat) (A:Option Addr):BtsAt w B A []:=fun i s hi=>by simp at hi
theorem RtsAt.below {l:List Rt} (h:RtsAt w B A l) (hb:Below B w w'):RtsAt w' B A l:=fun i s hi=>by
 obtain ⟨g,off,hA,hg,c0,c1⟩:=h i s hi;exact ⟨g,off,hA,hg,(hb.cell (p:=⟨g,off+i*2,none⟩) hg).trans c0,(hb.cell (p:=⟨g,off+i*2+1,none⟩) hg).trans c1⟩
theorem RtsAt.wide {l:List Rt} (h:RtsAt w B A l) (hB:B≤B'):RtsAt w B' A l:=fun i s hi=>by
 obtain ⟨g,off,hA,hg,c0⟩:=h i s hi;exact ⟨g,off,hA,by omega,c0⟩
theorem RtsAt.nil (w:World) (B:Nat) (A:Option Addr):RtsAt w B A []:=fun i s hi=>by simp at hi
theorem LmAt.wide {L:Lm} (h:LmAt w B A L) (hB:B≤B'):LmAt w B' A L:=⟨h.1.wide hB,h.2⟩
theorem LmsAt.below {l:List LmV} (h:LmsAt w B A l) (hb:Below B w w'):LmsAt w' B A l:=fun i s hi=>by
 obtain ⟨g,off,hA,hg,c0,c1,c2,c3,c4,hL⟩:=h i s hi;exact ⟨g,off,hA,hg,(hb.cell (p:=⟨g,off+i*5,none⟩) hg).trans c0,(hb.cell (p:=⟨g,off+i*5+1,none⟩) hg).trans c1,(hb.cell (p:=⟨g,off+i*5+2,none⟩) hg).trans c2,(hb.cell (p:=⟨g,off+i*5+3,none⟩) hg).trans c3,(hb.cell (p:=⟨g,off+i*5+4,none⟩) hg).trans c4,hL.below hb⟩
theorem LmsAt.wide {l:List LmV} (h:LmsAt w B A l) (hB:B≤B'):LmsAt w B' A l:=fun i s hi=>by
 obtain ⟨g,off,hA,hg,c0,c1,c2,c3,c4,hL⟩:=h i s hi;exact ⟨g,off,hA,by omega,c0,c1,c2,c3,c4,hL.wide hB⟩
theorem LmsAt.nil (w:World) (B:Nat) (A:Option Addr):LmsAt w B A []:=fun i s hi=>by simp at hi
end
open Go.RowKit Go.Shelf
def seenL {α:Type} (kv:α→Value) (l:List α) (k:Nat):List (Value×Value):=(l.take k).map fun x=>(kv x,.bool true)
theorem seenL_next {α:Type} {kv:α→Value} {l:List α} {k:Nat} {x:α} (h:l[k]? = some x):seenL kv l (k+1)=seenL kv l k++[(kv x,.bool true)]:=by
 unfold seenL;rw [take_snoc' h,List.map_append];rfl
theorem seenL_mem {α κ:Type} {kv:α→Value} {key:α→κ} {f:κ→Value} (hkv:∀ x,kv x=f (key x)) {l:List α} {k:Nat} {x:α} (h:key x∈(l.take k).map key):(kv x,Value.bool true)∈seenL kv l k:=by
 obtain ⟨y,hy,he⟩:=List.mem_map.1 h;exact List.mem_map.2 ⟨y,hy,by rw [hkv x,hkv y,he]⟩
theorem seenL_ne {α κ:Type} {kv:α→Value} {key:α→κ} {f:κ→Value} (hkv:∀ x,kv x=f (key x)) (hf:∀ a b,f a=f b→a=b) {l:List α} {k:Nat} {x:α} (h:key x∉(l.take k).map key):∀ p∈seenL kv l k,p.1≠kv x:=by
 intro p hp he;obtain ⟨y,hy,rfl⟩:=List.mem_map.1 hp;simp only [hkv] at he;exact h (List.mem_map.2 ⟨y,hy,hf _ _ he⟩)
theorem seenL_G {α:Type} {kv:α→Value} {G:Value→Prop} (h:∀ x,G (kv x)) (l:List α) (k:Nat):∀ p∈seenL kv l k,G p.1:=by
 intro p hp;obtain ⟨y,hy,rfl⟩:=List.mem_map.1 hp;exact h y
theorem keyS_any (w:World) (x:ByteArray):Calls Tryz.prog 68 #[.string x] w fun e w'=>e = .returned (.string x)∧Below w.heap.size w w':=by
 go_enter Tryz.func68,Tryz.ntmps68
 go_wp2
 go_ret
 exact ⟨rfl,Below.refl _ _⟩
theorem difS_any (w:World) (B:Nat) (A:Option Addr) (l:List ByteArray) (c:Nat) (h:BtsAt w B A l) (hB:B≤w.heap.size) (hl:l.length≤4611686018427387904) (good:ByteArray→Bool) (gf:Nat) (lb:Array Value)
 (eg:∀ args w,(callFunc gf args).run Tryz.prog w = .ok (.enter gf args) w)
 (hp:∀ W x,x∈l→Below w.heap.size w W→Calls Tryz.prog gf (#[.string x]++lb) W fun e w'=>e = .returned (.bool (good x))∧Below W.heap.size W w') :
 Calls Tryz.prog 67 #[.slice A l.length c,.func (.func 68) #[] #[],.func (.func gf) #[] lb] w fun e w'=>e = .returned (.bool (difB id good l))∧Below w.heap.size w w':=by
 have ek:=enters_of Tryz.func68 (by kernel_rfl) rfl;have hz:=fun W=>Tryz.zeroValue4 W;obtain ⟨r,hr⟩:∃ r,difB id good l=r:=⟨_,rfl⟩;rw [hr];have HR:=hd_ hr;have HP:=hd_ hp;have HH:=hd_ h;have hb0:=(Below.refl w.heap.size w).alloc (Nat.le_refl _) (.map #[] 0);have hm0:=MapV.made w;have hmm := @run_makeMap Tryz.prog;clear hr hp h;go_enter Tryz.func67,Tryz.ntmps67
 go_wp2_with fail
 go_loopw [13] (fun i wr=>∃ k:Nat,k≤l.length∧i = .int .i64 (k:Int)∧Hid (difTo id good l k)∧Hid (MapV wr w.heap.size (seenL (fun x:ByteArray=>(.string x:Value)) l k))∧Below w.heap.size w wr) (fun i _=>l.length - (intOf i).toNat)
 case atStart=>exact ⟨0,Nat.zero_le _,rfl,hd_ difTo_zero,hd_ hm0,hb0⟩
 case round=>
  clear hb0 hm0 hmm;obtain ⟨k,hk,rfl,HD,HM,hb⟩:=hrel;by_cases hlt:k<l.length
  · obtain ⟨x,hx⟩:∃ x,l[k]? = some x:=⟨_,List.getElem?_eq_getElem hlt⟩
    obtain ⟨g,off,hA,hg,c0⟩:=(HH.out.below (hb.mono hB)) k x hx;subst hA;have hmem:=List.mem_of_getElem? hx;have HX:=hd_ hx;clear hx;have b0:Below w.heap.size w wr:=hb;have m0:MapV wr w.heap.size (seenL (fun x:ByteArray=>(.string x:Value)) l k):=HM.out;have HG:=hd_ (HP.out wr x hmem b0);have M0:=hd_ m0;have B0:=hd_ b0;clear m0 b0 hb HM hmem;go_wp2_with fail
    cases hg:good x with
    | false=>
     have hrr:r=false:=by rw [← HR.out];exact difB_bad HX.out hg
     subst hrr;have hG:=HG.out;rw [hg] at hG;have HG':=hd_ hG;clear hG HG hg;refine HG'.out.mono ?_;rintro e w2 ⟨rfl,b2⟩;have hb2:=B0.out.trans (b2.mono B0.out.size);clear b2;go_wp2
     go_ret
     exact ⟨rfl,hb2⟩
    | true=>
     have hG:=HG.out;rw [hg] at hG;have HG':=hd_ hG;have HGD:=hd_ hg;clear hG HG hg;refine HG'.out.mono ?_;rintro e w2 ⟨rfl,b2⟩;have B2:=hd_ (B0.out.trans (b2.mono B0.out.size));have M2:=hd_ (M0.out.below b2 M0.out.lt);clear b2;go_wp2_with fail
     refine (keyS_any _ x).mono ?_;rintro e w3 ⟨rfl,b3⟩;have B3:=hd_ (B2.out.trans (b3.mono B2.out.size));have M3:=hd_ (M2.out.below b3 M2.out.lt);clear b3;by_cases hdup:x∈(l.take k).map id
     · have hrr:r=false:=by rw [← HR.out];exact difB_twice HX.out hdup
       subst hrr;have lk:(Instr.lookup 158 (.map (some w.heap.size)) (.string x) false).run Tryz.prog w3 = .ok (.bool true) w3:=M3.out.look_some kysStr Tryz.underlying158 (seenL_G (fun x=>⟨x,rfl⟩) l k) (seenL_mem (f:=fun s=>Value.string s) (fun _=>rfl) hdup) false;clear hdup;go_wp2
       go_ret
       exact ⟨rfl,B3.out⟩
     · have lk:(Instr.lookup 158 (.map (some w.heap.size)) (.string x) false).run Tryz.prog w3 = .ok (.bool false) w3:=M3.out.look_none kysStr Tryz.underlying158 (seenL_G (fun x=>⟨x,rfl⟩) l k) ⟨x,rfl⟩ (seenL_ne (f:=fun s=>Value.string s) (fun _=>rfl) (fun a b h=>Value.string.inj h) hdup) (hz w3) false
       have hdx:=hd_ (difTo_next HD.out HX.out HGD.out hdup);have hne:=hd_ (seenL_ne (kv:=fun x:ByteArray=>(.string x:Value)) (f:=fun s=>Value.string s) (fun _=>rfl) (fun a b h=>Value.string.inj h) hdup);clear hdup;go_wp2_with fail
       refine (keyS_any _ x).mono ?_;rintro e w4 ⟨rfl,b4⟩;have B4:=hd_ (B3.out.trans (b4.mono B3.out.size));have M4:=hd_ (M3.out.below b4 M3.out.lt);clear b4 lk;obtain ⟨w5,hu,hm5,hg5⟩:=M4.out.upd_none kysStr Tryz.underlying158 (seenL_G (fun x=>⟨x,rfl⟩) l k) (x:=.string x) ⟨x,rfl⟩ hne.out (.bool true);have hb5:=B4.out.grown hg5 B4.out.size (fun j e=>by injection e with e;omega);have HM5:=hd_ hm5;clear hm5 hg5;go_wp2
       go_roundw
       case rel=>exact ⟨k+1,by omega,by go_num,hdx,hd_ (by rw [seenL_next HX.out];exact HM5.out),hb5⟩
       case measure=>simp [intOf];omega
  · obtain rfl:k=l.length:=by omega
    have hend:=HR.out;rw [difB_end HD.out] at hend;have HE:=hd_ hend;clear hend;by_cases h60:l.length≤60
    · have d60:decide ((l.length:Int)≤60)=true:=decide_eq_true (by omega)
      have hrr:r=true:=by rw [← HE.out];exact decide_eq_true h60
      subst hrr;clear h60;go_wp2
      go_ret
      exact ⟨rfl,hb⟩
    · have d60:decide ((l.length:Int)≤60)=false:=decide_eq_false (by omega)
      have hrr:r=false:=by rw [← HE.out];exact decide_eq_false h60
      subst hrr;clear h60;go_wp2
      go_ret
      exact ⟨rfl,hb⟩
theorem keyM_any (w:World) (x:I2):Calls Tryz.prog 70 #[.agg #[.int .i64 x.1,.int .i64 x.2]] w fun e w'=>e = .returned (.agg #[.int .i64 x.1,.int .i64 x.2])∧Below w.heap.size w w':=by
 have hb:=(Below.refl w.heap.size w).alloc (Nat.le_refl _) (.cells #[.int .i64 x.1,.int .i64 x.2] 76);go_enter Tryz.func70,Tryz.ntmps70
 go_wp2
 exact bodyPost_ret (v:=.agg #[.int .i64 x.1,.int .i64 x.2]) (by simp [results,Tryz.results70,go_sem]) rfl ⟨rfl,hb.alloc hb.size _⟩
theorem difM_any (w:World) (B:Nat) (A:Option Addr) (l:List I2) (c:Nat) (h:StopsAt w B A l) (hB:B≤w.heap.size) (hl:l.length≤4611686018427387904) (good:I2→Bool) (gf:Nat) (lb:Array Value)
 (eg:∀ args w,(callFunc gf args).run Tryz.prog w = .ok (.enter gf args) w)
 (hp:∀ W x,x∈l→Below w.heap.size w W→Calls Tryz.prog gf (#[.agg #[.int .i64 x.1,.int .i64 x.2]]++lb) W fun e w'=>e = .returned (.bool (good x))∧Below W.heap.size W w') :
 Calls Tryz.prog 69 #[.slice A l.length c,.func (.func 70) #[] #[],.func (.func gf) #[] lb] w fun e w'=>e = .returned (.bool (difB id good l))∧Below w.heap.size w w':=by
 have ek:=enters_of Tryz.func70 (by kernel_rfl) rfl;have hz:=fun W=>Tryz.zeroValue4 W;obtain ⟨r,hr⟩:∃ r,difB id good l=r:=⟨_,rfl⟩;rw [hr];have HR:=hd_ hr;have HP:=hd_ hp;have HH:=hd_ h;have hb0:=(Below.refl w.heap.size w).alloc (Nat.le_refl _) (.map #[] 0);have hm0:=MapV.made w;have hmm := @run_makeMap Tryz.prog;clear hr hp h;go_enter Tryz.func69,Tryz.ntmps69
 go_wp2_with fail
 go_loopw [13] (fun i wr=>∃ k:Nat,k≤l.length∧i = .int .i64 (k:Int)∧Hid (difTo id good l k)∧Hid (MapV wr w.heap.size (seenL (fun x:I2=>(.agg #[.int .i64 x.1,.int .i64 x.2]:Value)) l k))∧Below w.heap.size w wr) (fun i _=>l.length - (intOf i).toNat)
 case atStart=>exact ⟨0,Nat.zero_le _,rfl,hd_ difTo_zero,hd_ hm0,hb0⟩
 case round=>
  clear hb0 hm0 hmm;obtain ⟨k,hk,rfl,HD,HM,hb⟩:=hrel;by_cases hlt:k<l.length
  · obtain ⟨x,hx⟩:∃ x,l[k]? = some x:=⟨_,List.getElem?_eq_getElem hlt⟩
    obtain ⟨g,off,hA,hg,c0,c1⟩:=(HH.out.below (hb.mono hB)) k x hx;subst hA;have hmem:=List.mem_of_getElem? hx;have HX:=hd_ hx;clear hx;have b0:Below w.heap.size w (wr.alloc (.cells #[.int .i64 x.1,.int .i64 x.2] 76)):=hb.alloc hb.size _;have kx:=Blk.new wr 76 #[.int .i64 x.1,.int .i64 x.2];obtain ⟨t0,t1,t2⟩:=kx.all;have KX:=hd_ kx;clear kx;have m0:MapV (wr.alloc (.cells #[.int .i64 x.1,.int .i64 x.2] 76)) w.heap.size (seenL (fun x:I2=>(.agg #[.int .i64 x.1,.int .i64 x.2]:Value)) l k):=HM.out.alloc _;have HG:=hd_ (HP.out (wr.alloc (.cells #[.int .i64 x.1,.int .i64 x.2] 76)) x hmem b0);have M0:=hd_ m0;have B0:=hd_ b0;clear m0 b0 hb HM hmem;go_wp2_with fail
    cases hg:good x with
    | false=>
     have hrr:r=false:=by rw [← HR.out];exact difB_bad HX.out hg
     subst hrr;have hG:=HG.out;rw [hg] at hG;have HG':=hd_ hG;clear hG HG hg;refine HG'.out.mono ?_;rintro e w2 ⟨rfl,b2⟩;have hb2:=B0.out.trans (b2.mono B0.out.size);clear t0 t1 t2 b2;go_wp2
     go_ret
     exact ⟨rfl,hb2⟩
    | true=>
     have hG:=HG.out;rw [hg] at hG;have HG':=hd_ hG;have HGD:=hd_ hg;clear hG HG hg;refine HG'.out.mono ?_;rintro e w2 ⟨rfl,b2⟩;have B2:=hd_ (B0.out.trans (b2.mono B0.out.size));have M2:=hd_ (M0.out.below b2 M0.out.lt);have K2:=hd_ (KX.out.below b2 KX.out.lt);clear t0 t1 t2;obtain ⟨t0,t1,t2⟩:=K2.out.all;clear b2;go_wp2_with fail
     refine (keyM_any _ x).mono ?_;rintro e w3 ⟨rfl,b3⟩;have B3:=hd_ (B2.out.trans (b3.mono B2.out.size));have M3:=hd_ (M2.out.below b3 M2.out.lt);have K3:=hd_ (K2.out.below b3 K2.out.lt);clear t0 t1 t2;obtain ⟨t0,t1,t2⟩:=K3.out.all;clear b3;by_cases hdup:x∈(l.take k).map id
     · have hrr:r=false:=by rw [← HR.out];exact difB_twice HX.out hdup
       subst hrr;have lk:(Instr.lookup 170 (.map (some w.heap.size)) (.agg #[.int .i64 x.1,.int .i64 x.2]) false).run Tryz.prog w3 = .ok (.bool true) w3:=M3.out.look_some kys2 Tryz.underlying170 (seenL_G (fun x=>⟨x.1,x.2,rfl⟩) l k) (seenL_mem (f:=fun m:I2=>Value.agg #[.int .i64 m.1,.int .i64 m.2]) (fun _=>rfl) hdup) false;clear hdup;go_wp2
       go_ret
       exact ⟨rfl,B3.out⟩
     · have lk:(Instr.lookup 170 (.map (some w.heap.size)) (.agg #[.int .i64 x.1,.int .i64 x.2]) false).run Tryz.prog w3 = .ok (.bool false) w3:=M3.out.look_none kys2 Tryz.underlying170 (seenL_G (fun x=>⟨x.1,x.2,rfl⟩) l k) ⟨x.1,x.2,rfl⟩ (seenL_ne (f:=fun m:I2=>Value.agg #[.int .i64 m.1,.int .i64 m.2]) (fun _=>rfl) (fun a b h=>by obtain ⟨a1,a2⟩:=a;obtain ⟨b1,b2⟩:=b;simp at h;rw [h.1,h.2]) hdup) (hz w3) false
       have hdx:=hd_ (difTo_next HD.out HX.out HGD.out hdup);have hne:=hd_ (seenL_ne (kv:=fun x:I2=>(.agg #[.int .i64 x.1,.int .i64 x.2]:Value)) (f:=fun m:I2=>Value.agg #[.int .i64 m.1,.int .i64 m.2]) (fun _=>rfl) (fun a b h=>by obtain ⟨a1,a2⟩:=a;obtain ⟨b1,b2⟩:=b;simp at h;rw [h.1,h.2]) hdup);clear hdup;go_wp2_with fail
       refine (keyM_any _ x).mono ?_;rintro e w4 ⟨rfl,b4⟩;have B4:=hd_ (B3.out.trans (b4.mono B3.out.size));have M4:=hd_ (M3.out.below b4 M3.out.lt);clear b4 lk;obtain ⟨w5,hu,hm5,hg5⟩:=M4.out.upd_none kys2 Tryz.underlying170 (seenL_G (fun x=>⟨x.1,x.2,rfl⟩) l k) (x:=.agg #[.int .i64 x.1,.int .i64 x.2]) ⟨x.1,x.2,rfl⟩ hne.out (.bool true);have hb5:=B4.out.grown hg5 B4.out.size (fun j e=>by injection e with e;omega);have HM5:=hd_ hm5;clear hm5 hg5;go_wp2
       go_roundw
       case rel=>exact ⟨k+1,by omega,by go_num,hdx,hd_ (by rw [seenL_next HX.out];exact HM5.out),hb5⟩
       case measure=>simp [intOf];omega
  · obtain rfl:k=l.length:=by omega
    have hend:=HR.out;rw [difB_end HD.out] at hend;have HE:=hd_ hend;clear hend;by_cases h60:l.length≤60
    · have d60:decide ((l.length:Int)≤60)=true:=decide_eq_true (by omega)
      have hrr:r=true:=by rw [← HE.out];exact decide_eq_true h60
      subst hrr;clear h60;go_wp2
      go_ret
      exact ⟨rfl,hb⟩
    · have d60:decide ((l.length:Int)≤60)=false:=decide_eq_false (by omega)
      have hrr:r=false:=by rw [← HE.out];exact decide_eq_false h60
      subst hrr;clear h60;go_wp2
      go_ret
      exact ⟨rfl,hb⟩
theorem keyR_any (w:World) (x:Rt):Calls Tryz.prog 116 #[.agg #[.string x.1,.int .i64 x.2]] w fun e w'=>e = .returned (.string x.1)∧Below w.heap.size w w':=by
 have hb:=(Below.refl w.heap.size w).alloc (Nat.le_refl _) (.cells #[.string x.1,.int .i64 x.2] 56);go_enter Tryz.func116,Tryz.ntmps116
 go_wp2
 go_ret
 exact ⟨rfl,hb⟩
theorem difR_any (w:World) (B:Nat) (A:Option Addr) (l:List Rt) (c:Nat) (h:RtsAt w B A l) (hB:B≤w.heap.size) (hl:l.length≤4611686018427387904) (good:Rt→Bool) (gf:Nat) (lb:Array Value)
 (eg:∀ args w,(callFunc gf args).run Tryz.prog w = .ok (.enter gf args) w)
 (hp:∀ W x,x∈l→Below w.heap.size w W→Calls Tryz.prog gf (#[.agg #[.string x.1,.int .i64 x.2]]++lb) W fun e w'=>e = .returned (.bool (good x))∧Below W.heap.size W w') :
 Calls Tryz.prog 115 #[.slice A l.length c,.func (.func 116) #[] #[],.func (.func gf) #[] lb] w fun e w'=>e = .returned (.bool (difB (·.1) good l))∧Below w.heap.size w w':=by
 have ek:=enters_of Tryz.func116 (by kernel_rfl) rfl;have hz:=fun W=>Tryz.zeroValue4 W;obtain ⟨r,hr⟩:∃ r,difB (·.1) good l=r:=⟨_,rfl⟩;rw [hr];have HR:=hd_ hr;have HP:=hd_ hp;have HH:=hd_ h;have hb0:=(Below.refl w.heap.size w).alloc (Nat.le_refl _) (.map #[] 0);have hm0:=MapV.made w;have hmm := @run_makeMap Tryz.prog;clear hr hp h;go_enter Tryz.func115,Tryz.ntmps115
 go_wp2_with fail
 go_loopw [13] (fun i wr=>∃ k:Nat,k≤l.length∧i = .int .i64 (k:Int)∧Hid (difTo (·.1) good l k)∧Hid (MapV wr w.heap.size (seenL (fun x:Rt=>(.string x.1:Value)) l k))∧Below w.heap.size w wr) (fun i _=>l.length - (intOf i).toNat)
 case atStart=>exact ⟨0,Nat.zero_le _,rfl,hd_ difTo_zero,hd_ hm0,hb0⟩
 case round=>
  clear hb0 hm0 hmm;obtain ⟨k,hk,rfl,HD,HM,hb⟩:=hrel;by_cases hlt:k<l.length
  · obtain ⟨x,hx⟩:∃ x,l[k]? = some x:=⟨_,List.getElem?_eq_getElem hlt⟩
    obtain ⟨g,off,hA,hg,c0,c1⟩:=(HH.out.below (hb.mono hB)) k x hx;subst hA;have hmem:=List.mem_of_getElem? hx;have HX:=hd_ hx;clear hx;have b0:Below w.heap.size w (wr.alloc (.cells #[.string x.1,.int .i64 x.2] 56)):=hb.alloc hb.size _;have kx:=Blk.new wr 56 #[.string x.1,.int .i64 x.2];obtain ⟨t0,t1,t2⟩:=kx.all;have KX:=hd_ kx;clear kx;have m0:MapV (wr.alloc (.cells #[.string x.1,.int .i64 x.2] 56)) w.heap.size (seenL (fun x:Rt=>(.string x.1:Value)) l k):=HM.out.alloc _;have HG:=hd_ (HP.out (wr.alloc (.cells #[.string x.1,.int .i64 x.2] 56)) x hmem b0);have M0:=hd_ m0;have B0:=hd_ b0;clear m0 b0 hb HM hmem;go_wp2_with fail
    cases hg:good x with
    | false=>
     have hrr:r=false:=by rw [← HR.out];exact difB_bad HX.out hg
     subst hrr;have hG:=HG.out;rw [hg] at hG;have HG':=hd_ hG;clear hG HG hg;refine HG'.out.mono ?_;rintro e w2 ⟨rfl,b2⟩;have hb2:=B0.out.trans (b2.mono B0.out.size);clear t0 t1 t2 b2;go_wp2
     go_ret
     exact ⟨rfl,hb2⟩
    | true=>
     have hG:=HG.out;rw [hg] at hG;have HG':=hd_ hG;have HGD:=hd_ hg;clear hG HG hg;refine HG'.out.mono ?_;rintro e w2 ⟨rfl,b2⟩;have B2:=hd_ (B0.out.trans (b2.mono B0.out.size));have M2:=hd_ (M0.out.below b2 M0.out.lt);have K2:=hd_ (KX.out.below b2 KX.out.lt);clear t0 t1 t2;obtain ⟨t0,t1,t2⟩:=K2.out.all;clear b2;go_wp2_with fail
     refine (keyR_any _ x).mono ?_;rintro e w3 ⟨rfl,b3⟩;have B3:=hd_ (B2.out.trans (b3.mono B2.out.size));have M3:=hd_ (M2.out.below b3 M2.out.lt);have K3:=hd_ (K2.out.below b3 K2.out.lt);clear t0 t1 t2;obtain ⟨t0,t1,t2⟩:=K3.out.all;clear b3;by_cases hdup:x.1∈(l.take k).map (·.1)
     · have hrr:r=false:=by rw [← HR.out];exact difB_twice HX.out hdup
       subst hrr;have lk:(Instr.lookup 158 (.map (some w.heap.size)) (.string x.1) false).run Tryz.prog w3 = .ok (.bool true) w3:=M3.out.look_some kysStr Tryz.underlying158 (seenL_G (fun x=>⟨x.1,rfl⟩) l k) (seenL_mem (f:=fun s=>Value.string s) (fun _=>rfl) hdup) false;clear hdup;go_wp2
       go_ret
       exact ⟨rfl,B3.out⟩
     · have lk:(Instr.lookup 158 (.map (some w.heap.size)) (.string x.1) false).run Tryz.prog w3 = .ok (.bool false) w3:=M3.out.look_none kysStr Tryz.underlying158 (seenL_G (fun x=>⟨x.1,rfl⟩) l k) ⟨x.1,rfl⟩ (seenL_ne (f:=fun s=>Value.string s) (fun _=>rfl) (fun a b h=>Value.string.inj h) hdup) (hz w3) false
       have hdx:=hd_ (difTo_next HD.out HX.out HGD.out hdup);have hne:=hd_ (seenL_ne (kv:=fun x:Rt=>(.string x.1:Value)) (f:=fun s=>Value.string s) (fun _=>rfl) (fun a b h=>Value.string.inj h) hdup);clear hdup;go_wp2_with fail
       refine (keyR_any _ x).mono ?_;rintro e w4 ⟨rfl,b4⟩;have B4:=hd_ (B3.out.trans (b4.mono B3.out.size));have M4:=hd_ (M3.out.below b4 M3.out.lt);clear b4 lk;obtain ⟨w5,hu,hm5,hg5⟩:=M4.out.upd_none kysStr Tryz.underlying158 (seenL_G (fun x=>⟨x.1,rfl⟩) l k) (x:=.string x.1) ⟨x.1,rfl⟩ hne.out (.bool true);have hb5:=B4.out.grown hg5 B4.out.size (fun j e=>by injection e with e;omega);have HM5:=hd_ hm5;clear hm5 hg5;go_wp2
       go_roundw
       case rel=>exact ⟨k+1,by omega,by go_num,hdx,hd_ (by rw [seenL_next HX.out];exact HM5.out),hb5⟩
       case measure=>simp [intOf];omega
  · obtain rfl:k=l.length:=by omega
    have hend:=HR.out;rw [difB_end HD.out] at hend;have HE:=hd_ hend;clear hend;by_cases h60:l.length≤60
    · have d60:decide ((l.length:Int)≤60)=true:=decide_eq_true (by omega)
      have hrr:r=true:=by rw [← HE.out];exact decide_eq_true h60
      subst hrr;clear h60;go_wp2
      go_ret
      exact ⟨rfl,hb⟩
    · have d60:decide ((l.length:Int)≤60)=false:=decide_eq_false (by omega)
      have hrr:r=false:=by rw [← HE.out];exact decide_eq_false h60
      subst hrr;clear h60;go_wp2
      go_ret
      exact ⟨rfl,hb⟩
theorem keyL_any (w:World) (x:LmV):Calls Tryz.prog 119 #[.agg #[.string x.1.id,.int .i64 x.1.n,.int .i64 x.1.u,.int .i64 x.1.f,.slice x.2.1 x.1.S.length x.2.2]] w fun e w'=>e = .returned (.string x.1.id)∧Below w.heap.size w w':=by
 have hb:=(Below.refl w.heap.size w).alloc (Nat.le_refl _) (.cells #[.string x.1.id,.int .i64 x.1.n,.int .i64 x.1.u,.int .i64 x.1.f,.slice x.2.1 x.1.S.length x.2.2] 44);go_enter Tryz.func119,Tryz.ntmps119
 go_wp2
 go_ret
 exact ⟨rfl,hb⟩
theorem difL_any (w:World) (B:Nat) (A:Option Addr) (l:List LmV) (c:Nat) (h:LmsAt w B A l) (hB:B≤w.heap.size) (hl:l.length≤4611686018427387904) (good:LmV→Bool) (gf:Nat) (lb:Array Value)
 (eg:∀ args w,(callFunc gf args).run Tryz.prog w = .ok (.enter gf args) w)
 (hp:∀ W x,x∈l→Below w.heap.size w W→Calls Tryz.prog gf (#[.agg #[.string x.1.id,.int .i64 x.1.n,.int .i64 x.1.u,.int .i64 x.1.f,.slice x.2.1 x.1.S.length x.2.2]]++lb) W fun e w'=>e = .returned (.bool (good x))∧Below W.heap.size W w') :
 Calls Tryz.prog 118 #[.slice A l.length c,.func (.func 119) #[] #[],.func (.func gf) #[] lb] w fun e w'=>e = .returned (.bool (difB (·.1.id) good l))∧Below w.heap.size w w':=by
 have ek:=enters_of Tryz.func119 (by kernel_rfl) rfl;have hz:=fun W=>Tryz.zeroValue4 W;obtain ⟨r,hr⟩:∃ r,difB (·.1.id) good l=r:=⟨_,rfl⟩;rw [hr];have HR:=hd_ hr;have HP:=hd_ hp;have HH:=hd_ h;have hb0:=(Below.refl w.heap.size w).alloc (Nat.le_refl _) (.map #[] 0);have hm0:=MapV.made w;have hmm := @run_makeMap Tryz.prog;clear hr hp h;go_enter Tryz.func118,Tryz.ntmps118
 go_wp2_with fail
 go_loopw [13] (fun i wr=>∃ k:Nat,k≤l.length∧i = .int .i64 (k:Int)∧Hid (difTo (·.1.id) good l k)∧Hid (MapV wr w.heap.size (seenL (fun x:LmV=>(.string x.1.id:Value)) l k))∧Below w.heap.size w wr) (fun i _=>l.length - (intOf i).toNat)
 case atStart=>exact ⟨0,Nat.zero_le _,rfl,hd_ difTo_zero,hd_ hm0,hb0⟩
 case round=>
  clear hb0 hm0 hmm;obtain ⟨k,hk,rfl,HD,HM,hb⟩:=hrel;by_cases hlt:k<l.length
  · obtain ⟨x,hx⟩:∃ x,l[k]? = some x:=⟨_,List.getElem?_eq_getElem hlt⟩
    obtain ⟨g,off,hA,hg,c0,c1,c2,c3,c4,hL⟩:=(HH.out.below (hb.mono hB)) k x hx;subst hA;have hmem:=List.mem_of_getElem? hx;have HX:=hd_ hx;clear hx;have b0:Below w.heap.size w (wr.alloc (.cells #[.string x.1.id,.int .i64 x.1.n,.int .i64 x.1.u,.int .i64 x.1.f,.slice x.2.1 x.1.S.length x.2.2] 44)):=hb.alloc hb.size _;have kx:=Blk.new wr 44 #[.string x.1.id,.int .i64 x.1.n,.int .i64 x.1.u,.int .i64 x.1.f,.slice x.2.1 x.1.S.length x.2.2];obtain ⟨t0,t1,t2⟩:=kx.all;have KX:=hd_ kx;clear kx;have m0:MapV (wr.alloc (.cells #[.string x.1.id,.int .i64 x.1.n,.int .i64 x.1.u,.int .i64 x.1.f,.slice x.2.1 x.1.S.length x.2.2] 44)) w.heap.size (seenL (fun x:LmV=>(.string x.1.id:Value)) l k):=HM.out.alloc _;have HG:=hd_ (HP.out (wr.alloc (.cells #[.string x.1.id,.int .i64 x.1.n,.int .i64 x.1.u,.int .i64 x.1.f,.slice x.2.1 x.1.S.length x.2.2] 44)) x hmem b0);have M0:=hd_ m0;have B0:=hd_ b0;clear m0 b0 hb HM hmem;go_wp2_with fail
    cases hg:good x with
    | false=>
     have hrr:r=false:=by rw [← HR.out];exact difB_bad HX.out hg
     subst hrr;have hG:=HG.out;rw [hg] at hG;have HG':=hd_ hG;clear hG HG hg;refine HG'.out.mono ?_;rintro e w2 ⟨rfl,b2⟩;have hb2:=B0.out.trans (b2.mono B0.out.size);clear t0 t1 t2 b2;go_wp2
     go_ret
     exact ⟨rfl,hb2⟩
    | true=>
     have hG:=HG.out;rw [hg] at hG;have HG':=hd_ hG;have HGD:=hd_ hg;clear hG HG hg;refine HG'.out.mono ?_;rintro e w2 ⟨rfl,b2⟩;have B2:=hd_ (B0.out.trans (b2.mono B0.out.size));have M2:=hd_ (M0.out.below b2 M0.out.lt);have K2:=hd_ (KX.out.below b2 KX.out.lt);clear t0 t1 t2;obtain ⟨t0,t1,t2⟩:=K2.out.all;clear b2;go_wp2_with fail
     refine (keyL_any _ x).mono ?_;rintro e w3 ⟨rfl,b3⟩;have B3:=hd_ (B2.out.trans (b3.mono B2.out.size));have M3:=hd_ (M2.out.below b3 M2.out.lt);have K3:=hd_ (K2.out.below b3 K2.out.lt);clear t0 t1 t2;obtain ⟨t0,t1,t2⟩:=K3.out.all;clear b3;by_cases hdup:x.1.id∈(l.take k).map (·.1.id)
     · have hrr:r=false:=by rw [← HR.out];exact difB_twice HX.out hdup
       subst hrr;have lk:(Instr.lookup 158 (.map (some w.heap.size)) (.string x.1.id) false).run Tryz.prog w3 = .ok (.bool true) w3:=M3.out.look_some kysStr Tryz.underlying158 (seenL_G (fun x=>⟨x.1.id,rfl⟩) l k) (seenL_mem (f:=fun s=>Value.string s) (fun _=>rfl) hdup) false;clear hdup;go_wp2
       go_ret
       exact ⟨rfl,B3.out⟩
     · have lk:(Instr.lookup 158 (.map (some w.heap.size)) (.string x.1.id) false).run Tryz.prog w3 = .ok (.bool false) w3:=M3.out.look_none kysStr Tryz.underlying158 (seenL_G (fun x=>⟨x.1.id,rfl⟩) l k) ⟨x.1.id,rfl⟩ (seenL_ne (f:=fun s=>Value.string s) (fun _=>rfl) (fun a b h=>Value.string.inj h) hdup) (hz w3) false
       have hdx:=hd_ (difTo_next HD.out HX.out HGD.out hdup);have hne:=hd_ (seenL_ne (kv:=fun x:LmV=>(.string x.1.id:Value)) (f:=fun s=>Value.string s) (fun _=>rfl) (fun a b h=>Value.string.inj h) hdup);clear hdup;go_wp2_with fail
       refine (keyL_any _ x).mono ?_;rintro e w4 ⟨rfl,b4⟩;have B4:=hd_ (B3.out.trans (b4.mono B3.out.size));have M4:=hd_ (M3.out.below b4 M3.out.lt);clear b4 lk;obtain ⟨w5,hu,hm5,hg5⟩:=M4.out.upd_none kysStr Tryz.underlying158 (seenL_G (fun x=>⟨x.1.id,rfl⟩) l k) (x:=.string x.1.id) ⟨x.1.id,rfl⟩ hne.out (.bool true);have hb5:=B4.out.grown hg5 B4.out.size (fun j e=>by injection e with e;omega);have HM5:=hd_ hm5;clear hm5 hg5;go_wp2
       go_roundw
       case rel=>exact ⟨k+1,by omega,by go_num,hdx,hd_ (by rw [seenL_next HX.out];exact HM5.out),hb5⟩
       case measure=>simp [intOf];omega
  · obtain rfl:k=l.length:=by omega
    have hend:=HR.out;rw [difB_end HD.out] at hend;have HE:=hd_ hend;clear hend;by_cases h60:l.length≤60
    · have d60:decide ((l.length:Int)≤60)=true:=decide_eq_true (by omega)
      have hrr:r=true:=by rw [← HE.out];exact decide_eq_true h60
      subst hrr;clear h60;go_wp2
      go_ret
      exact ⟨rfl,hb⟩
    · have d60:decide ((l.length:Int)≤60)=false:=decide_eq_false (by omega)
      have hrr:r=false:=by rw [← HE.out];exact decide_eq_false h60
      subst hrr;clear h60;go_wp2
      go_ret
      exact ⟨rfl,hb⟩
end Go.Proofs.YtknchlpcpgflkaaGreatDoor
