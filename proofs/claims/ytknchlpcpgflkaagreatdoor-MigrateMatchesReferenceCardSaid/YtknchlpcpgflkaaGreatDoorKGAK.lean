import Derived.Test.YtknchlpcpgflkaaGreatDoorKGAJ
import Derived.Maps.AppendAt
import Derived.RangeFuncBox
import Derived.Test.YtknchlpcpgflkaaGreatDoorKGAE
import Derived.Test.YtknchlpcpgflkaaGreatDoorKGAH
import Derived.Test.YtknchlpcpgflkaaGreatDoorKGAB
import Derived.Deep.QuietTactic
import Derived.BigQuiet
set_option maxRecDepth 100000
set_option maxHeartbeats 16000000
namespace Go.Proofs.YtknchlpcpgflkaaGreatDoor
open Go.RowKit Go.Shelf
attribute [local go_sem] Oper.semAt_some
theorem Tryz.infoTok:(Tryz.prog.info? 169).map (fun i=>(i.zero,i.size,i.bytes))=some (some (.agg #[.int .i64 0,.string ⟨#[]⟩,.int .i64 0,.int .i64 0]),4,40):=by kernel_rfl
def tokC (x:FdT):List Value:=[.int .i64 x.1.1,.string x.1.2.1,.int .i64 x.1.2.2.1,.int .i64 x.1.2.2.2.1]
def fndC (x:FdT):Array Value:=#[.int .i64 x.1.1,.string x.1.2.1,.int .i64 x.1.2.2.1,.int .i64 x.1.2.2.2.1,.int .i64 x.1.2.2.2.2]
def tokCs (pre:List FdT):List Value:=pre.flatMap tokC
theorem tokCs_len (pre:List FdT):(tokCs pre).length=pre.length*4:=by
 induction pre with
 | nil=>rfl
 | cons x pre ih=>
  show (tokC x++tokCs pre).length=_;rw [List.length_append,ih];simp [tokC];omega
theorem tokCs_snoc (pre:List FdT) (x:FdT):tokCs (pre++[x])=tokCs pre++tokC x:=by simp [tokCs]
theorem blk_kept {A B:World} {row:Option Nat} {g:Nat} {t:TypeId} {cs:Array Value} (k:Blk A g t cs) (hg:A.grownBy B row) (hr:∀ r,row=some r→∃ o:Obj,A.heap[r]? = some o∧o.isCells=false):Blk B g t cs:=
 (Only.of_grown hg).blk k fun e=>by
  obtain ⟨o,h1,h2⟩:=hr g e;unfold Blk at k;rw [k] at h1;injection h1 with h1;subst h1
  cases h2
theorem owns_kept {A B:World} {row:Option Nat} {base size n:Nat} {e:TypeId} {v:Value} {xs:List Value} (k:A.ownsRow base e size v n xs) (hg:A.grownBy B row) (hr:∀ r,row=some r→∃ o:Obj,A.heap[r]? = some o∧o.isCells=false):B.ownsRow base e size v n xs:=
 (Only.of_grown hg).owns k fun g hv e=>by
  obtain ⟨o,h1,h2⟩:=hr g e;rcases k.2 with ⟨h0,_⟩ | ⟨g',cap,cur,h0,_,h3,_⟩
  · rw [h0] at hv;cases hv
  · rw [h0] at hv
    have:g'=g:=by simpa [Value.ownBlock] using hv
    subst this;rw [h1] at h3;injection h3 with h3;subst h3
    cases h2
theorem own_form {w:World} {base size n:Nat} {e:TypeId} {v:Value} {xs:List Value} (h:w.ownsRow base e size v n xs):∃ A c,v = .slice A n c:=by
 rcases h.2 with ⟨hv,h0⟩ | ⟨g,cap,cur,hv,_⟩
 · exact ⟨none,0,by rw [hv,h0]⟩
 · exact ⟨_,_,hv⟩
theorem tok_row {w:World} {base c:Nat} {A:Option Addr} {x:FdT} (h:w.ownsRow base 169 4 (.slice A 1 c) 1 (tokCs [x])) :
 ∃ g,A=some ⟨g,0,none⟩∧w.cell? ⟨g,0,none⟩=some (.int .i64 x.1.1)∧w.cell? ⟨g,1,none⟩=some (.string x.1.2.1):=by
 rcases h.2 with ⟨hv,h0⟩ | ⟨g,cap,cur,hv,_,hh,h1,h2,h3,h4⟩
 · omega
 · injection hv with hv _ _
   have at_:∀ j (v:Value),(tokCs [x])[j]? = some v→w.cell? ⟨g,j,none⟩=some v:=fun j v hj=>by
    rw [cell_of_row w g j cur _ _ hh]
    have hj4:j<1*4:=by
     have:=(List.getElem?_eq_some_iff.1 hj).1;rw [tokCs_len] at this;simpa using this
    have h5:=congrArg (fun l:List Value=>l[j]?) h4;simp only [List.getElem?_take,if_pos hj4] at h5;rw [hj] at h5;simpa using h5
   exact ⟨g,hv,at_ 0 _ rfl,at_ 1 _ rfl⟩
def LexI (w:World) (pre:List FdT) (W:World):Prop:=(∃ v,Blk W (w.heap.size+3) 165 #[v]∧W.ownsRow w.heap.size 169 4 v pre.length (tokCs pre)) ∧
 Blk W w.heap.size 165 #[.slice none 0 0]∧Blk W (w.heap.size+1) 37 #[.int .i64 0]∧Blk W (w.heap.size+2) 3 #[.int .i64 0]∧(∀ x∈pre,x.1.2.2.2.2=0)∧Below w.heap.size w W
def LexX (w:World) (c:Code) (pre:List FdT) (W:World):Prop:=c = .ret∧(∃ er p:Int,er≠0∧Blk W w.heap.size 165 #[.slice none 0 0]∧Blk W (w.heap.size+1) 37 #[.int .i64 er]∧Blk W (w.heap.size+2) 3 #[.int .i64 p]) ∧
 ((∃ x∈pre,x.1.2.2.2.2≠0)∨1<pre.length)∧Below w.heap.size w W
theorem lexI_own (w:World) (B:Nat) (hB:w.heap.size≤B):OwnFrom B (LexI w):=by
 rintro pre A B' row ⟨⟨v,h1,h2⟩,h3,h4,h5,h6,h7⟩ hg hr;have hr':=fun r e=>(hr r e).2;exact ⟨⟨v,blk_kept h1 hg hr',owns_kept h2 hg hr'⟩,blk_kept h3 hg hr',blk_kept h4 hg hr',blk_kept h5 hg hr',h6,h7.grown hg h7.size (fun r e=>Nat.le_trans hB (hr r e).1)⟩
theorem lexX_own (w:World) (B:Nat) (hB:w.heap.size≤B) (c:Code):OwnFrom B (LexX w c):=by
 rintro pre A B' row ⟨hc,⟨er,p,h0,h3,h4,h5⟩,h6,h7⟩ hg hr;have hr':=fun r e=>(hr r e).2;exact ⟨hc,⟨er,p,h0,blk_kept h3 hg hr',blk_kept h4 hg hr',blk_kept h5 hg hr'⟩,h6,h7.grown hg h7.size (fun r e=>Nat.le_trans hB (hr r e).1)⟩
theorem keeps_lex {F:Foot} {A B:World} {D:Nat} (h:Only F A B) (hF:∀ g,F g→∃ t cs,A.heap[g]? = some (.cells cs t (0,0))∧t≠9∧t≠213∧t≠215∧t≠195):KeepsFrom D A B∧KpT A B:=by
 refine ⟨⟨h.size,fun k o _ hk ho=>?_⟩,h.size,fun g t cs ht hb=>?_⟩
 · rw [h.block k (Array.getElem?_eq_some_iff.1 hk).1 ?_]
   · exact hk
   · intro hf
     obtain ⟨t,cs,h1,_⟩:=hF k hf;rw [hk] at h1;injection h1 with h1;subst h1
     cases ho
 · refine h.blk hb fun hf=>?_
   obtain ⟨t',cs',h1,h2,h3,h4,h5⟩:=hF g hf;unfold Blk at hb;rw [hb] at h1;injection h1 with h1;injection h1 with _ h1;subst h1;rcases ht with rfl | rfl | rfl | rfl
   · exact h2 rfl
   · exact h3 rfl
   · exact h4 rfl
   · exact h5 rfl
def lexW (w W:World) (er p:Int):World:=(((W.setCell ⟨w.heap.size,0,none⟩ (.slice none 0 0)).setCell ⟨w.heap.size+1,0,none⟩ (.int .i64 er)).setCell ⟨w.heap.size+1+1,0,none⟩ (.int .i64 p)).drew
theorem lex_ret {w W:World} {D:Nat} {v0 v1 v2:Value} {er p:Int} {pre:List FdT} (k0:Blk W w.heap.size 165 #[v0]) (k1:Blk W (w.heap.size+1) 37 #[v1]) (k2:Blk W (w.heap.size+2) 3 #[v2])
 (hb:Below w.heap.size w W) (h0:er≠0) (hp:(∃ x∈pre,x.1.2.2.2.2≠0)∨1<pre.length):KeepsFrom D W (lexW w W er p)∧LexX w .ret pre (lexW w W er p):=by
 have ho:Only (fun g=>g=w.heap.size∨g=w.heap.size+1∨g=w.heap.size+1+1) W (lexW w W er p):=
  ((((Only.refl _ W).setCell (p:=⟨w.heap.size,0,none⟩) (.inl (.inl rfl)) (.slice none 0 0)).setCell (p:=⟨w.heap.size+1,0,none⟩) (.inl (.inr (.inl rfl))) (.int .i64 er)).setCell (p:=⟨w.heap.size+1+1,0,none⟩) (.inl (.inr (.inr rfl))) (.int .i64 p)).drew
 refine ⟨(keeps_lex (D:=D) ho ?_).1,rfl,⟨er,p,h0,?_,?_,?_⟩,hp,?_⟩
 · rintro g (rfl | rfl | rfl)
   · exact ⟨_,_,k0,by decide,by decide,by decide,by decide⟩
   · exact ⟨_,_,k1,by decide,by decide,by decide,by decide⟩
   · exact ⟨_,_,k2,by decide,by decide,by decide,by decide⟩
 · exact ((k0.set_ 0 (.slice none 0 0)).far (show w.heap.size≠w.heap.size+1 by omega) (p:=⟨w.heap.size+1,0,none⟩) (.int .i64 er)).far (show w.heap.size≠w.heap.size+1+1 by omega) (p:=⟨w.heap.size+1+1,0,none⟩) (.int .i64 p)
 · exact ((k1.far (show w.heap.size+1≠w.heap.size by omega) (p:=⟨w.heap.size,0,none⟩) (.slice none 0 0)).set_ 0 (.int .i64 er)).far (show w.heap.size+1≠w.heap.size+1+1 by omega) (p:=⟨w.heap.size+1+1,0,none⟩) (.int .i64 p)
 · exact ((k2.far (show w.heap.size+2≠w.heap.size by omega) (p:=⟨w.heap.size,0,none⟩) (.slice none 0 0)).far (show w.heap.size+2≠w.heap.size+1 by omega) (p:=⟨w.heap.size+1,0,none⟩) (.int .i64 er)).set_ 0 (.int .i64 p)
 · exact hb.trans (ho.below hb.size (fun i hi=>by omega))
theorem toks_stops (m:Nat) (hm:1≤m) (w:World) (L:List UInt8) (hlen:L.length≤20000) (bt bc ba:Nat) (hT:TokAt w bt bc ba (bs L)) :
 SeqStopsK Fence.wide m Tryz.prog 177 #[.pointer (some ⟨bt,0,none⟩),.pointer (some ⟨ba,0,none⟩)] encF KpT (Nms L) (Nms L) 20001 w:=
 fun l J Jx W hW hJ _ hY h0=>toks_in m hm L hlen bt bc ba l J Jx W hJ hY ((KpT.of_below hW).tok hT) h0
def LexPost (w:World) (L:List UInt8) (e:Ending) (w':World):Prop:=Below w.heap.size w w' ∧
 ((nmB L=true∧∃ g c,e = .returned (.tuple #[.slice (some ⟨g,0,none⟩) 1 c,.int .i64 0,.int .i64 0])∧w'.cell? ⟨g,0,none⟩=some (.int .i64 1)∧w'.cell? ⟨g,1,none⟩=some (.string (bs L))) ∨
  (nmB L=false∧∃ (A:Option Addr) (n c:Nat) (er p:Int),e = .returned (.tuple #[.slice A n c,.int .i64 er,.int .i64 p])∧(er=0→n=1→∃ (g:Nat) (kd:Int) (tx:ByteArray),A=some ⟨g,0,none⟩∧w'.cell? ⟨g,0,none⟩=some (.int .i64 kd)∧w'.cell? ⟨g,1,none⟩=some (.string tx)∧(kd=1→tx≠bs L))))
theorem lex_long (w:World) (L:List UInt8) (hL:L.length≤9223372036854775807) (hl:20000<L.length):Calls Tryz.prog 131 #[.string (bs L)] w (LexPost w L):=by
 have hsz:=bs_size L;have d0:decide ((20000:Int)<((bs L).size:Int))=true:=decide_eq_true (by omega)
 have hno:nmB L=false:=by
  cases h:nmB L with
  | false=>rfl
  | true=>have:=(nmB_cls.1 h).2.2;omega
 have HNO:=hd_ hno;have HSZ:=hd_ hsz;clear hsz hno;have k0:=((Blk.new w 165 #[.slice none 0 0]).alloc (.cells #[.int .i64 0] 37)).alloc (.cells #[.int .i64 0] 3);have k1:=(Blk.new1 w (.cells #[.slice none 0 0] 165) 37 #[.int .i64 0]).alloc (.cells #[.int .i64 0] 3);have k2:=Blk.new2 w (.cells #[.slice none 0 0] 165) (.cells #[.int .i64 0] 37) 3 #[.int .i64 0];have hb:=(((Below.refl w.heap.size w).alloc (Nat.le_refl _) (.cells #[.slice none 0 0] 165)).alloc (by simp) (.cells #[.int .i64 0] 37)).alloc (by simp;omega) (.cells #[.int .i64 0] 3);go_enter Tryz.func131,Tryz.ntmps131
 go_upto_region 2 with fail
 generalize ((w.alloc (.cells #[.slice none 0 0] 165)).alloc (.cells #[.int .i64 0] 37)).alloc (.cells #[.int .i64 0] 3)=W1 at *;obtain ⟨x0,x1,x2⟩:=k0.all;obtain ⟨y0,y1,y2⟩:=k1.all;obtain ⟨z0,z1,z2⟩:=k2.all;go_wp2
 have m0:=((k0.set_ 0 (.slice none 0 0)).far (show w.heap.size≠w.heap.size+1 by omega) (p:=⟨w.heap.size+1,0,none⟩) (.int .i64 2)).far (show w.heap.size≠w.heap.size+1+1 by omega) (p:=⟨w.heap.size+1+1,0,none⟩) (.int .i64 (-1));have m1:=((k1.far (show w.heap.size+1≠w.heap.size by omega) (p:=⟨w.heap.size,0,none⟩) (.slice none 0 0)).set_ 0 (.int .i64 2)).far (show w.heap.size+1≠w.heap.size+1+1 by omega) (p:=⟨w.heap.size+1+1,0,none⟩) (.int .i64 (-1));have m2:=((k2.far (show w.heap.size+1+1≠w.heap.size by omega) (p:=⟨w.heap.size,0,none⟩) (.slice none 0 0)).far (show w.heap.size+1+1≠w.heap.size+1 by omega) (p:=⟨w.heap.size+1,0,none⟩) (.int .i64 2)).set_ 0 (.int .i64 (-1));have hb3:=((hb.setCell (p:=⟨w.heap.size,0,none⟩) (Nat.le_refl _) (.slice none 0 0)).setCell (p:=⟨w.heap.size+1,0,none⟩) (show w.heap.size≤w.heap.size+1 by omega) (.int .i64 2)).setCell (p:=⟨w.heap.size+1+1,0,none⟩) (show w.heap.size≤w.heap.size+1+1 by omega) (.int .i64 (-1));generalize ((W1.setCell ⟨w.heap.size,0,none⟩ (.slice none 0 0)).setCell ⟨w.heap.size+1,0,none⟩ (.int .i64 2)).setCell ⟨w.heap.size+1+1,0,none⟩ (.int .i64 (-1))=W3 at *;have c0:=m0.cell 0;have c1:=m1.cell 0;have c2:=m2.cell 0;exact bodyPost_ret (v:=.tuple #[.slice none 0 0,.int .i64 2,.int .i64 (-1)]) (by simp [results,Tryz.results131,go_sem,c0,c1,c2]) rfl ⟨hb3,.inr ⟨HNO.out,none,0,0,2,-1,rfl,fun h=>by cases h⟩⟩
theorem lex_short (w:World) (L:List UInt8) (hl:L.length≤20000):Calls Tryz.prog 131 #[.string (bs L)] w (LexPost w L):=by
 obtain ⟨i0,hi0,hz0,hz1,hz2⟩:=info_parts Tryz.infoTok;refine (callsIn_wide (n:=5)).1 ?_;have hsz:=bs_size L;have d0:decide ((20000:Int)<((bs L).size:Int))=false:=decide_eq_false (by omega);have HSZ:=hd_ hsz;clear hsz;refine callsIn_of_wp_marks Tryz.func131 rfl trivial ?_ rfl;simp only [Tryz.ntmps131,List.size_toArray,List.length_cons,List.length_nil,Nat.reduceAdd,Nat.reduceSub,Array.replicate_succ,Array.replicate_zero,List.push_toArray,List.append_toArray,List.nil_append,List.cons_append];have k0:=(((Blk.new w 165 #[.slice none 0 0]).alloc (.cells #[.int .i64 0] 37)).alloc (.cells #[.int .i64 0] 3)).alloc (.cells #[.slice none 0 0] 165);have k1:=((Blk.new1 w (.cells #[.slice none 0 0] 165) 37 #[.int .i64 0]).alloc (.cells #[.int .i64 0] 3)).alloc (.cells #[.slice none 0 0] 165);have k2:=(Blk.new2 w (.cells #[.slice none 0 0] 165) (.cells #[.int .i64 0] 37) 3 #[.int .i64 0]).alloc (.cells #[.slice none 0 0] 165);have k3:=Blk.new (((w.alloc (.cells #[.slice none 0 0] 165)).alloc (.cells #[.int .i64 0] 37)).alloc (.cells #[.int .i64 0] 3)) 165 #[.slice none 0 0];have hsz3:(((w.alloc (.cells #[.slice none 0 0] 165)).alloc (.cells #[.int .i64 0] 37)).alloc (.cells #[.int .i64 0] 3)).heap.size=w.heap.size+3:=by simp
 rw [hsz3] at k3;have hb:=((((Below.refl w.heap.size w).alloc (Nat.le_refl _) (.cells #[.slice none 0 0] 165)).alloc (by simp) (.cells #[.int .i64 0] 37)).alloc (by simp;omega) (.cells #[.int .i64 0] 3)).alloc (by rw [hsz3];omega) (.cells #[.slice none 0 0] 165);clear hsz3
 gi_wp2_with (refine ⟨trivial,?_⟩;gi_at_call 153;refine (callsIn_wide.2 (tokens_any _ _)).mono ?_;rintro e w1 ⟨bt,bc,ba,hbt,hbc,hba,rfl,hT,b1⟩)
 have hb1:=hb.trans (b1.mono hb.size);replace k0:=k0.below b1 k0.lt;replace k1:=k1.below b1 k1.lt;replace k2:=k2.below b1 k2.lt;replace k3:=k3.below b1 k3.lt;clear hbt hbc hba hb b1;have hI0:LexI w [] w1:=⟨⟨_,k3,World.ownsRow_nil _ _ _ _⟩,k0,k1,k2,by simp,hb1⟩;have hle:=hb1.size;have HT:=hd_ hT;have HI0:=hd_ hI0;clear hT hI0 k0 k1 k2 k3
 refine wpIn_rangeFunc_ownH rfl (by decide) (gf:=177) (lb:=#[.pointer (some ⟨bt,0,none⟩),.pointer (some ⟨ba,0,none⟩)]) rfl trivial (enters_of Tryz.func177 (by kernel_rfl) rfl)
  (toks_stops 4 (by decide) w1 L hl bt bc ba HT.out) (fun h k=>KpT.trans h k) (fun W l o o' _ h ho _=>KpT.put W l o o' h ho) (Below.refl _ _) (fun _=>rfl)
  (LexI w) (LexX w) (lexI_own w _ hle) (lexX_own w _ hle) HI0.out
  (fun x a' W=>∃ Bx,Blk W Bx 195 (fndC x)∧a' = { tmps:=#[.string (bs L),undef,.pointer (some ⟨w.heap.size,0,none⟩),.pointer (some ⟨w.heap.size+1,0,none⟩),.pointer (some ⟨w.heap.size+1+1,0,none⟩),.pointer (some ⟨w.heap.size+1+1+1,0,none⟩),.pointer (some ⟨Bx,0,none⟩),.string (bs L),.int .i64 ((bs L).size:Int),.bool false,.string (bs L),.func (.func 177) #[] #[.pointer (some ⟨bt,0,none⟩),.pointer (some ⟨ba,0,none⟩)],.agg (fndC x),undef,undef,undef,undef,undef,undef,undef,undef,undef,undef,undef,undef,undef,undef,undef,undef,undef,undef,undef,undef,undef,undef],defers:=[] }) ?hAx ?assign ?body ?done ?stop
 case hAx=>
  rintro x a' s A B row ⟨Bx,h1,h2⟩ hg hr;exact ⟨Bx,blk_kept h1 hg (fun r e=>(hr r e).2),h2⟩
 case assign=>
  rintro l pre ⟨⟨kd,tx,n,p,er⟩,hx⟩ W K hI hK
  dsimp only [encF]
  gi_wp2
  exact hK _ _ ((KeepsOthers.alloc _ _).from _) (KpT.of_below (below_self_alloc _ _)) ((lexI_own w _ hle).alloc _ hI) ⟨W.heap.size,Blk.new W _ _,rfl⟩
 case body=>
  rintro l pre ⟨⟨kd,tx,n,p,er⟩,hx⟩ a' W hl hr ⟨⟨v,k3,own⟩,k0,k1,k2,herr,hB⟩ ⟨Bx,kx,rfl⟩ hlt;simp only [fndC] at kx ⊢
  have hform:∃ A c,v = .slice A pre.length c:=by
   rcases own.2 with ⟨hv,h0⟩ | ⟨g,cap,cur,hv,_⟩
   · exact ⟨none,0,by rw [hv,h0]⟩
   · exact ⟨_,_,hv⟩
  obtain ⟨A,c,rfl⟩:=hform;have OW:=hd_ own;have HB:=hd_ hB;have HERR:=hd_ herr;have HHX:=hd_ hx;have K0:=hd_ k0;have K1:=hd_ k1;have K2:=hd_ k2;have K3:=hd_ k3;have KX:=hd_ kx;clear own hB herr k0 k1 k2 k3 kx hr;by_cases her:er=0
  · have e0:(er != 0)=false:=by simpa using her
    have HER:=hd_ her;obtain ⟨x0,x1,x2⟩:=KX.out.all;obtain ⟨o0,o1,o2⟩:=K3.out.all;clear her;by_cases h5:pre.length=5000
    · have e5:((pre.length:Int) == 5000)=true:=by simp;omega
      have H5:=hd_ h5;obtain ⟨y0,y0f,y0l⟩:=K0.out.all;obtain ⟨y1,y1f,y1l⟩:=K1.out.all;obtain ⟨y2,y2f,y2l⟩:=K2.out.all;have n0:Bx≠w.heap.size:=KX.out.ne_ K0.out (by decide);have n1:Bx≠w.heap.size+1:=KX.out.ne_ K1.out (by decide);have n2:Bx≠w.heap.size+2:=KX.out.ne_ K2.out (by decide);clear h5
      gi_upto_region 9 with fail
      gi_region
      all_goals
       gi_wp2
       exact lex_ret K0.out K1.out K2.out HB.out (by decide) (.inr (by have:=H5.out;simp;omega))
    · have e5:((pre.length:Int) == 5000)=false:=by simp;omega
      have kn:=Blk.new W 169 #[.int .i64 kd,.string tx,.int .i64 n,.int .i64 p]
      have hone:∀ u∈[Value.int .i64 kd,.string tx,.int .i64 n,.int .i64 p],u.oneCell'=true:=by
       intro u hu;simp only [List.mem_cons,List.not_mem_nil,or_false] at hu;rcases hu with rfl | rfl | rfl | rfl <;> rfl
      have hws:w.heap.size≤W.heap.size:=HB.out.size;have KN:=hd_ kn;have HONE:=hd_ hone;clear kn hone h5 x2
      gi_upto_region 10 with fail
      gi_wp2_with (gi_at_builtin;refine wpListIn_append_own _ rfl _ _ 165 rfl w.heap.size 169 i0 _ 4 40 Tryz.underlying165 hi0 hz0 hz1 hz2 rfl (by omega) (.slice A pre.length c) pre.length _ rfl (World.ownsRow.alloc OW.out _) ⟨W.heap.size,0,none⟩ 1 1 [.int .i64 kd,.string tx,.int .i64 n,.int .i64 p] rfl rfl (World.news_of_block KN.out) HONE.out (by unfold maxLen;omega) (by omega) (by simp;omega) ?_;intro v5 w5 own5 gr5 nil5;have k35:=(K3.out.alloc (.cells #[.int .i64 kd,.string tx,.int .i64 n,.int .i64 p] 169)).grown gr5 (fun e=>own_blk_ne OW.out K3.out (by decide) e.symm);clear o0 o1 o2;obtain ⟨o0,o1,o2⟩:=k35.all;obtain ⟨A5,c5,rfl⟩:=own_form own5)
      have ne0:some w.heap.size≠(Value.slice A pre.length c).ownBlock:=fun e=>own_blk_ne OW.out K0.out (by decide) e.symm;have ne1:some (w.heap.size+1)≠(Value.slice A pre.length c).ownBlock:=fun e=>own_blk_ne OW.out K1.out (by decide) e.symm;have ne2:some (w.heap.size+2)≠(Value.slice A pre.length c).ownBlock:=fun e=>own_blk_ne OW.out K2.out (by decide) e.symm;have f0:=((K0.out.alloc (.cells #[.int .i64 kd,.string tx,.int .i64 n,.int .i64 p] 169)).grown gr5 ne0).far (show w.heap.size≠w.heap.size+1+1+1 by omega) (p:=⟨w.heap.size+1+1+1,0,none⟩) (.slice A5 (pre.length+1) c5);have f1:=((K1.out.alloc (.cells #[.int .i64 kd,.string tx,.int .i64 n,.int .i64 p] 169)).grown gr5 ne1).far (show w.heap.size+1≠w.heap.size+1+1+1 by omega) (p:=⟨w.heap.size+1+1+1,0,none⟩) (.slice A5 (pre.length+1) c5);have f2:=((K2.out.alloc (.cells #[.int .i64 kd,.string tx,.int .i64 n,.int .i64 p] 169)).grown gr5 ne2).far (show w.heap.size+2≠w.heap.size+1+1+1 by omega) (p:=⟨w.heap.size+1+1+1,0,none⟩) (.slice A5 (pre.length+1) c5);have f3:=k35.set_ 0 (.slice A5 (pre.length+1) c5)
      have ho:Only (fun g=>g=w.heap.size+1+1+1∨(Value.slice A pre.length c).ownBlock=some g) W (w5.setCell ⟨w.heap.size+1+1+1,0,none⟩ (.slice A5 (pre.length+1) c5)):=
       (((Only.refl _ W).alloc _).trans (Only.of_grown gr5) (fun i e=>.inl (.inr e))).setCell (p:=⟨w.heap.size+1+1+1,0,none⟩) (.inl (.inl rfl)) _
      have hown6:(w5.setCell ⟨w.heap.size+1+1+1,0,none⟩ (.slice A5 (pre.length+1) c5)).ownsRow w.heap.size 169 4 (.slice A5 (pre.length+1) c5) (pre.length+1) (tokCs pre++[.int .i64 kd,.string tx,.int .i64 n,.int .i64 p]):=
       ((Only.refl (fun g=>g=w.heap.size+1+1+1) w5).setCell (p:=⟨w.heap.size+1+1+1,0,none⟩) (.inl rfl) _).owns own5 (fun g hv hg=>own_blk_ne own5 k35 (by decide) (by rw [hv,hg]))
      have hk:=keeps_lex (D:=w1.heap.size) ho (by
       rintro g (rfl | hg)
       · exact ⟨_,_,K3.out,by decide,by decide,by decide,by decide⟩
       · rcases OW.out.2 with ⟨hv,_⟩ | ⟨g',cap,cur,hv,_,hh,_⟩
         · rw [hv] at hg;cases hg
         · rw [hv] at hg
           have:g'=g:=by simpa [Value.ownBlock] using hg
           subst this;exact ⟨_,_,hh,by decide,by decide,by decide,by decide⟩)
      have hle6:Below w.heap.size w (w5.setCell ⟨w.heap.size+1+1+1,0,none⟩ (.slice A5 (pre.length+1) c5)):=HB.out.trans (ho.below hws (by
       rintro i (h | h)
       · omega
       · exact (World.ownsRow.lt OW.out i h).1))
      refine ⟨hk.1,hk.2,⟨_,f3,?_⟩,f0,f1,f2,?_,hle6⟩
      · rw [tokCs_snoc,List.length_append]
        exact hown6
      · intro x hx
        rcases List.mem_append.1 hx with hx | hx
        · exact HERR.out x hx
        · rw [List.mem_singleton.1 hx]
          exact HER.out
  · have e0:(er != 0)=true:=by simpa using her
    have HER:=hd_ her;obtain ⟨x0,x1,x2⟩:=KX.out.all;clear her
    gi_upto_region 7 with fail
    obtain ⟨y0,y0f,y0l⟩:=K0.out.all;obtain ⟨y1,y1f,y1l⟩:=K1.out.all;obtain ⟨y2,y2f,y2l⟩:=K2.out.all;have n0:Bx≠w.heap.size:=KX.out.ne_ K0.out (by decide);have n1:Bx≠w.heap.size+1:=KX.out.ne_ K1.out (by decide);have n2:Bx≠w.heap.size+2:=KX.out.ne_ K2.out (by decide)
    gi_region
    all_goals
     gi_wp2
     exact lex_ret K0.out K1.out K2.out HB.out HER.out (.inl ⟨_,List.mem_append.2 (.inr (List.mem_singleton.2 rfl)),HER.out⟩)
 case done=>
  rintro D xs W hD hS ⟨⟨v,k3,own⟩,k0,k1,k2,herr,hB⟩ hK;obtain ⟨A,c,rfl⟩:=own_form own;have f0:=((k0.set_ 0 (.slice A xs.length c)).far (show w.heap.size≠w.heap.size+1 by omega) (p:=⟨w.heap.size+1,0,none⟩) (.int .i64 0)).far (show w.heap.size≠w.heap.size+1+1 by omega) (p:=⟨w.heap.size+1+1,0,none⟩) (.int .i64 0);have f1:=((k1.far (show w.heap.size+1≠w.heap.size by omega) (p:=⟨w.heap.size,0,none⟩) (.slice A xs.length c)).set_ 0 (.int .i64 0)).far (show w.heap.size+1≠w.heap.size+1+1 by omega) (p:=⟨w.heap.size+1+1,0,none⟩) (.int .i64 0);have f2:=((k2.far (show w.heap.size+2≠w.heap.size by omega) (p:=⟨w.heap.size,0,none⟩) (.slice A xs.length c)).far (show w.heap.size+2≠w.heap.size+1 by omega) (p:=⟨w.heap.size+1,0,none⟩) (.int .i64 0)).set_ 0 (.int .i64 0)
  have ho:Only (fun g=>g=w.heap.size∨g=w.heap.size+1∨g=w.heap.size+1+1) W (((W.setCell ⟨w.heap.size,0,none⟩ (.slice A xs.length c)).setCell ⟨w.heap.size+1,0,none⟩ (.int .i64 0)).setCell ⟨w.heap.size+1+1,0,none⟩ (.int .i64 0)):=
   (((Only.refl _ W).setCell (p:=⟨w.heap.size,0,none⟩) (.inl (.inl rfl)) (.slice A xs.length c)).setCell (p:=⟨w.heap.size+1,0,none⟩) (.inl (.inr (.inl rfl))) (.int .i64 0)).setCell (p:=⟨w.heap.size+1+1,0,none⟩) (.inl (.inr (.inr rfl))) (.int .i64 0)
  have own2:=ho.owns own (by
   rintro g hv (rfl | rfl | rfl)
   · exact own_blk_ne own k0 (by decide) hv
   · exact own_blk_ne own k1 (by decide) hv
   · exact own_blk_ne own k2 (by decide) hv)
  have hK2:=(keeps_lex (D:=w1.heap.size) ho (by
   rintro g (rfl | rfl | rfl)
   · exact ⟨_,_,k0,by decide,by decide,by decide,by decide⟩
   · exact ⟨_,_,k1,by decide,by decide,by decide,by decide⟩
   · exact ⟨_,_,k2,by decide,by decide,by decide,by decide⟩)).1.same D _ hD hK rfl
  have hb2:=hB.trans (ho.below hB.size (fun i hi=>by omega));obtain ⟨x0,x1,x2⟩:=k0.all;obtain ⟨y0,y1,y2⟩:=k1.all;obtain ⟨z0,z1,z2⟩:=k2.all;obtain ⟨o0,o1,o2⟩:=k3.all;have HS:=hd_ hS;have HERR:=hd_ herr;clear hK hS herr hB k0 k1 k2 k3 own ho
  gi_wp2
  generalize ((W.setCell ⟨w.heap.size,0,none⟩ (.slice A xs.length c)).setCell ⟨w.heap.size+1,0,none⟩ (.int .i64 0)).setCell ⟨w.heap.size+1+1,0,none⟩ (.int .i64 0)=W3 at *;have hg:=grownBy_putObj' W3 D (.deferred none)
  have hr:∀ r,some D=some r→∃ o:Obj,W3.heap[r]? = some o∧o.isCells=false:=fun r e=>by
   injection e with e;subst e;exact ⟨_,hK2,rfl⟩
  have c0:=(blk_kept f0 hg hr).cell 0;have c1:=(blk_kept f1 hg hr).cell 0;have c2:=(blk_kept f2 hg hr).cell 0;have own3:=owns_kept own2 hg hr;have hb3:=hb2.trans (belowK_b (w:=w) (Nat.le_refl _) W3 D _ (.deferred none) (by omega) hK2 rfl rfl);refine ⟨by simp,.inl ⟨_,_,rfl,run_takeDeferred hK2,?_⟩⟩;refine ⟨.tuple #[.slice A xs.length c,.int .i64 0,.int .i64 0],by simp [results,Tryz.results131,go_sem,c0,c1,c2],hb3,?_⟩
  cases hnm:nmB L with
  | true=>
   have h1:=HS.out hnm;obtain ⟨x,rfl⟩:∃ x,xs=[x]:=List.length_eq_one_iff.1 (by have:=congrArg List.length h1;simpa using this);have hx:x.1=nmTok L:=by simpa using h1
   obtain ⟨g,hA,g0,g1⟩:=tok_row own3;rw [hx] at g0 g1;subst hA;exact .inl ⟨rfl,g,c,rfl,g0,g1⟩
  | false=>
   refine .inr ⟨rfl,A,xs.length,c,0,0,rfl,fun _ hn=>?_⟩;obtain ⟨x,rfl⟩:∃ x,xs=[x]:=List.length_eq_one_iff.1 hn;obtain ⟨g,hA,g0,g1⟩:=tok_row own3;refine ⟨g,x.1.1,x.1.2.1,hA,g0,g1,fun hk ht=>?_⟩;have:=x.2 (HERR.out x (by simp)) hk;rw [ht,bs_list,hnm] at this
   cases this
 case stop=>
  rintro D c pre W hD hS ⟨rfl,⟨er,p,h0,k0,k1,k2⟩,hp,hB⟩ hK;have HS:=hd_ hS;have HP:=hd_ hp;clear hS hp
  gi_wp2
  have hg:=grownBy_putObj' W D (.deferred none)
  have hr:∀ r,some D=some r→∃ o:Obj,W.heap[r]? = some o∧o.isCells=false:=fun r e=>by
   injection e with e;subst e;exact ⟨_,hK,rfl⟩
  have c0:=(blk_kept k0 hg hr).cell 0;have c1:=(blk_kept k1 hg hr).cell 0;have c2:=(blk_kept k2 hg hr).cell 0;have hb3:=hB.trans (belowK_b (w:=w) (Nat.le_refl _) W D _ (.deferred none) (by omega) hK rfl rfl);refine ⟨by simp,.inl ⟨_,_,rfl,run_takeDeferred hK,?_⟩⟩;refine ⟨.tuple #[.slice none 0 0,.int .i64 er,.int .i64 p],by simp [results,Tryz.results131,go_sem,c0,c1,c2],hb3,.inr ⟨?_,none,0,0,er,p,rfl,fun h=>absurd h h0⟩⟩
  cases hnm:nmB L with
  | false=>rfl
  | true=>
   exfalso;have h1:=HS.out hnm;obtain ⟨x,rfl⟩:∃ x,pre=[x]:=List.length_eq_one_iff.1 (by have:=congrArg List.length h1;simpa using this);have hx:x.1=nmTok L:=by simpa using h1
   rcases HP.out with ⟨y,hy,he⟩ | h2
   · rw [List.mem_singleton.1 hy,hx] at he
     exact he rfl
   · simp at h2
theorem lex_any (w:World) (L:List UInt8) (hL:L.length≤9223372036854775807):Calls Tryz.prog 131 #[.string (bs L)] w (LexPost w L):=by
 by_cases h:20000<L.length
 · exact lex_long w L hL h
 · exact lex_short w L (by omega)
theorem mname_any (w:World) (s:ByteArray) (hs:s.size≤9223372036854775807):Calls Tryz.prog 66 #[.string s] w fun e w'=>e = .returned (.bool (nameB s))∧Below w.heap.size w w':=by
 obtain ⟨L,rfl⟩:∃ L,s=bs L:=⟨s.data.toList,(of_bs s).symm⟩;have hl:L.length≤9223372036854775807:=by rw [bs_size] at hs;exact hs
 have hlex:=fun W=>lex_any W L hl;have hnm:nameB (bs L)=nmB L:=rfl;rw [hnm];obtain ⟨r,hr⟩:∃ r,nmB L=r:=⟨_,rfl⟩;rw [hr];have HR:=hd_ hr;have HLEX:=hd_ hlex;clear hlex hs hl hnm hr;go_enter Tryz.func66,Tryz.ntmps66
 go_wp2_with fail
 refine (HLEX.out _).mono ?_;rintro e w1 ⟨b1,(⟨hn,g,c,rfl,c0,c1⟩ | ⟨hn,A,n,c,er,p,rfl,hq⟩)⟩
 · obtain rfl:true=r:=hn.symm.trans HR.out
   clear HLEX HR hn;go_wp2
   go_ret
   exact ⟨rfl,b1⟩
 · obtain rfl:false=r:=hn.symm.trans HR.out
   have HQ:=hd_ hq;clear HLEX HR hn hq;by_cases h0:er=0
   · have e0:(er == 0)=true:=by simpa using h0
     by_cases h1:n=1
     · obtain ⟨g,kd,tx,rfl,c0,c1,hk⟩:=HQ.out h0 h1
       have HK:=hd_ hk;subst h1;clear h0 HQ hk;by_cases hk1:kd=1
       · have e1:(kd == 1)=true:=by simpa using hk1
         have ht:=HK.out hk1;obtain ⟨T,rfl⟩:∃ T,tx=bs T:=⟨tx.data.toList,(of_bs tx).symm⟩;have e2:=beq_bs (fun h=>ht (by rw [h]):T≠L);clear hk1 ht HK;go_wp2
         go_ret
         exact ⟨rfl,b1⟩
       · have e1:(kd == 1)=false:=by simpa using hk1
         clear hk1 HK;go_wp2
         go_ret
         exact ⟨rfl,b1⟩
     · have e1:((n:Int) == 1)=false:=by simp;omega
       clear h0 h1 HQ;go_wp2
       go_ret
       exact ⟨rfl,b1⟩
   · have e0:(er == 0)=false:=by simpa using h0
     clear h0 HQ;go_wp2
     go_ret
     exact ⟨rfl,b1⟩
theorem idxI_take {p:Int→Bool} {S:List Int} {k:Nat} {s:Int} (h:S[k]? = some s) (hp:p s=true):S.any p=true:=List.any_eq_true.2 ⟨s,List.mem_of_getElem? h,hp⟩
theorem indexI_any (w:World) (B:Nat) (A:Option Addr) (S:List Int) (c:Nat) (h:IntsAt w B A S) (hB:B≤w.heap.size) (hl:S.length≤4611686018427387904) (p:Int→Bool) (g:Nat) (lb:Array Value)
 (eg:∀ args w,(callFunc g args).run Tryz.prog w = .ok (.enter g args) w)
 (hp:∀ W s,Below w.heap.size w W→Calls Tryz.prog g (#[.int .i64 s]++lb) W fun e w'=>e = .returned (.bool (p s))∧Below W.heap.size W w') :
 Calls Tryz.prog 146 #[.slice A S.length c,.func (.func g) #[] lb] w fun e w'=>∃ n:Int,e = .returned (.int .i64 n)∧(S.any p=true→0≤n)∧(S.any p=false→n<0)∧Below w.heap.size w w':=by
 have HP:=hd_ hp;clear hp;go_enter Tryz.func146,Tryz.ntmps146
 go_wp2_with fail
 go_loopw [8] (fun i wr=>∃ k:Nat,k≤S.length∧i = .int .i64 (k:Int)∧Hid ((S.take k).any p=false)∧Below w.heap.size w wr) (fun i _=>S.length - (intOf i).toNat)
 case atStart=>exact ⟨0,Nat.zero_le _,rfl,hd_ rfl,Below.refl _ _⟩
 case round=>
  obtain ⟨k,hk,rfl,hn,hb⟩:=hrel;by_cases hlt:k<S.length
  · obtain ⟨s,hs⟩:∃ s,S[k]? = some s:=⟨_,List.getElem?_eq_getElem hlt⟩
    obtain ⟨gb,off,hA,hg,c0⟩:=h.below (hb.mono hB) k s hs;subst hA;have HC:=HP.out wr s hb;have HS:=hd_ hs;have HCC:=hd_ HC;clear hs HC;go_wp2_with fail
    cases hps:p s with
    | true=>
     have hcl:=HCC.out;rw [hps] at hcl;have hany:=hd_ (idxI_take HS.out hps);clear hps HCC;refine hcl.mono ?_;rintro e w1 ⟨rfl,b1⟩;replace hb:=hb.trans (b1.mono hb.size);clear b1 hcl;go_wp2
     go_ret
     exact ⟨_,rfl,fun _=>by omega,fun h0=>by rw [hany.out] at h0;(cases h0),hb⟩
    | false=>
     have hcl:=HCC.out;rw [hps] at hcl
     have hnx:(S.take (k+1)).any p=false:=by
      obtain ⟨h1,h2⟩:=List.getElem?_eq_some_iff.1 HS.out;rw [List.take_succ_eq_append_getElem h1,h2,List.any_append,hn.out];simp [hps]
     have HN:=hd_ hnx;clear hps HCC hnx;refine hcl.mono ?_;rintro e w1 ⟨rfl,b1⟩;replace hb:=hb.trans (b1.mono hb.size);clear b1 hcl;go_wp2
     go_roundw
     case rel=>exact ⟨k+1,by omega,by go_num,HN,hb⟩
     case measure=>simp [intOf];omega
  · obtain rfl:k=S.length:=by omega
    have hno:=hn.out;rw [List.take_length] at hno;have HN:=hd_ hno;clear hno hn;go_wp2
    go_ret
    exact ⟨_,rfl,fun h0=>by rw [HN.out] at h0;(cases h0),fun _=>by omega,hb⟩
theorem containsI_any (w:World) (B:Nat) (A:Option Addr) (S:List Int) (c:Nat) (h:IntsAt w B A S) (hB:B≤w.heap.size) (hl:S.length≤4611686018427387904) (p:Int→Bool) (g:Nat) (lb:Array Value)
 (eg:∀ args w,(callFunc g args).run Tryz.prog w = .ok (.enter g args) w)
 (hp:∀ W s,Below w.heap.size w W→Calls Tryz.prog g (#[.int .i64 s]++lb) W fun e w'=>e = .returned (.bool (p s))∧Below W.heap.size W w') :
 Calls Tryz.prog 111 #[.slice A S.length c,.func (.func g) #[] lb] w fun e w'=>e = .returned (.bool (S.any p))∧Below w.heap.size w w':=by
 have hi:=indexI_any w B A S c h hB hl p g lb eg hp;clear h hp eg;generalize S.any p=r at *;have HI:=hd_ hi;clear hi
 cases r with
 | true=>
  go_enter Tryz.func111,Tryz.ntmps111
  go_wp2_with fail
  refine HI.out.mono ?_;rintro e w1 ⟨n,rfl,h1,-,hb⟩;have hn:=h1 trivial;clear h1 HI;go_wp2
  go_ret
  exact ⟨rfl,hb⟩
 | false=>
  go_enter Tryz.func111,Tryz.ntmps111
  go_wp2_with fail
  refine HI.out.mono ?_;rintro e w1 ⟨n,rfl,-,h2,hb⟩;have hn:=h2 trivial;have d0:decide (0≤n)=false:=by simp;omega
  clear h2 HI;go_wp2
  go_ret
  exact ⟨rfl,hb⟩
theorem drew2 (w:World) (a b:Nat):(w.drewN a).drewN b=w.drewN (a+b):=by
 unfold World.drewN;simp [Nat.add_assoc]
theorem mis_any (w:World) (n:Int):Calls Tryz.prog 114 #[.int .i64 n] w fun e w'=>e = .returned (.bool (isB n))∧w=w':=by
 by_cases h0:0≤n
 · by_cases h1:n≤1000000
   · rw [(isB_iff n).2 ⟨h0,h1⟩]
     go_enter Tryz.func114,Tryz.ntmps114
     go_wp2
     go_ret
     exact ⟨rfl,rfl⟩
   · rw [isB_no (.inr (by omega))]
     go_enter Tryz.func114,Tryz.ntmps114
     go_wp2
     go_ret
     exact ⟨rfl,rfl⟩
 · rw [isB_no (.inl (by omega))]
   go_enter Tryz.func114,Tryz.ntmps114
   go_wp2
   go_ret
   exact ⟨rfl,rfl⟩
theorem bad_any (w:World) (n:Int):Calls Tryz.prog 112 #[.int .i64 n] w fun e w'=>e = .returned (.bool !isB n)∧Below w.heap.size w w':=by
 by_cases h0:n<0
 · rw [isB_no (.inl h0)]
   go_enter Tryz.func112,Tryz.ntmps112
   go_wp2
   go_ret
   exact ⟨rfl,Below.refl _ _⟩
 · have d0:decide (n<0)=false:=decide_eq_false h0
   by_cases h1:1000000<n
   · rw [isB_no (.inr h1)]
     go_enter Tryz.func112,Tryz.ntmps112
     go_wp2
     go_ret
     exact ⟨rfl,Below.refl _ _⟩
   · have d1:decide (1000000<n)=false:=decide_eq_false h1
     rw [(isB_iff n).2 ⟨by omega,by omega⟩];go_enter Tryz.func112,Tryz.ntmps112
     go_wp2
     go_ret
     exact ⟨rfl,Below.refl _ _⟩
theorem nan_any (w:World) (n:Int):Calls Tryz.prog 170 #[.int .i64 n] w fun e w'=>e = .returned (.bool false)∧w=w':=by
 go_enter Tryz.func170,Tryz.ntmps170
 go_wp2
 go_ret
 exact ⟨by simp,rfl⟩
theorem less_any (w:World) (a b:Int):Calls Tryz.prog 147 #[.int .i64 a,.int .i64 b] w fun e w'=>e = .returned (.bool (decide (a<b)))∧w=w':=by
 by_cases h:a<b
 · have d:decide (a<b)=true:=decide_eq_true h
   rw [d];go_enter Tryz.func147,Tryz.ntmps147
   go_wp2_with fail
   refine (nan_any _ a).mono ?_;rintro e w1 ⟨rfl,rfl⟩;go_wp2
   go_ret
   exact ⟨rfl,rfl⟩
 · have d:decide (a<b)=false:=decide_eq_false h
   rw [d];go_enter Tryz.func147,Tryz.ntmps147
   go_wp2_with fail
   refine (nan_any _ a).mono ?_;rintro e w1 ⟨rfl,rfl⟩;go_wp2
   go_ret
   exact ⟨rfl,rfl⟩
theorem less_same (w:World) (a b:Int):Calls Tryz.prog 147 #[.int .i64 a,.int .i64 b] w fun e w'=>e = .returned (.bool (decide (a<b)))∧w'=w:=(less_any w a b).mono fun _ _ ⟨h1,h2⟩=>⟨h1,h2.symm⟩
theorem srt_iff:∀ (l:List Int),srtB l=true↔∀ (i:Nat) (a b:Int),l[i]? = some a→l[i+1]? = some b→a≤b
 | []=>by simp [srtB]
 | [x]=>by simp [srtB]
 | x::y::xs=>by
  have ih:=srt_iff (y::xs);show (decide (x≤y) && srtB (y::xs))=true↔_;rw [Bool.and_eq_true,decide_eq_true_eq,ih];constructor
  · rintro ⟨h1,h2⟩ i a b ha hb
    cases i with
    | zero=>simp at ha hb;subst ha hb;exact h1
    | succ i=>exact h2 i a b (by simpa using ha) (by simpa using hb)
  · intro h
    exact ⟨h 0 x y rfl rfl,fun i a b ha hb=>h (i+1) a b (by simpa using ha) (by simpa using hb)⟩
theorem sorted_any (w:World) (B:Nat) (A:Option Addr) (l:List Int) (c:Nat) (h:IntsAt w B A l) (hl:l.length≤9223372036854775807) :
 Calls Tryz.prog 113 #[.slice A l.length c] w fun e w'=>e = .returned (.bool (srtB l))∧∃ q,w'=w.drewN q:=by
 obtain ⟨r,hr⟩:∃ r,srtB l=r:=⟨_,rfl⟩;rw [hr];have HR:=hd_ hr;have HH:=hd_ h;clear hr h;go_enter Tryz.func113,Tryz.ntmps113
 go_wp2_with fail
 go_loopw [3] (fun i wr=>∃ (k:Nat) (x:Int),k≤l.length∧x+1=((l.length - k:Nat):Int)∧i = .int .i64 x∧Hid (∀ (i:Nat) (a b:Int),l.length - k≤i+1→l[i]? = some a→l[i+1]? = some b→a≤b)∧∃ q,wr=w.drewN q) (fun i _=>(intOf i).toNat)
 case atStart=>exact ⟨0,(l.length:Int) - 1,Nat.zero_le _,by omega,rfl,hd_ (fun i a b h1 _ h3=>by have:=(List.getElem?_eq_some_iff.1 h3).1;omega),0,rfl⟩
 case round=>
  obtain ⟨k,x,hk,hx,rfl,HS,q,rfl⟩:=hrel;by_cases h0:0<x
  · obtain ⟨j,rfl⟩:∃ j:Nat,x=(j:Int)+1:=⟨(x - 1).toNat,by omega⟩
    have hjk:j+1+1=l.length - k:=by omega
    obtain ⟨a,ha⟩:∃ a,l[j+1]? = some a:=⟨_,List.getElem?_eq_getElem (by omega)⟩;obtain ⟨b,hb⟩:∃ b,l[j]? = some b:=⟨_,List.getElem?_eq_getElem (by omega)⟩;obtain ⟨g,off,hA,hg,c1⟩:=HH.out (j+1) a ha;obtain ⟨g',off',hA',hg',c0⟩:=HH.out j b hb;rw [hA] at hA';injection hA' with hA';injection hA' with e1 e2;subst e1 e2 hA;have c0':(w.drewN q).cell? ⟨g,off+j,none⟩=some (.int .i64 b):=c0;have c1':(w.drewN q).cell? ⟨g,off+(j+1),none⟩=some (.int .i64 a):=c1;have HA:=hd_ ha;have HB:=hd_ hb;clear c0 c1 ha hb;have s1:((j:Int)+1 - 1)=(j:Int):=by omega
    have s2:((j:Int)+1).toNat=j+1:=by omega
    have s3:(0:Int)≤(j:Int)+1:=by omega
    have s4:(j:Int)+1<(l.length:Int):=by omega
    have s6:(0:Int)≤(j:Int):=by omega
    have s7:(j:Int)<(l.length:Int):=by omega
    have s5:IntKind.i64.wrap (j:Int)=(j:Int):=IntWalk.i64_in _ (by omega);go_wp2_with fail
    generalize hW:w.drewN q=W at *;go_quiet ((go_at_call 147;exact Calls.quiet_of_same (less_same _ _ _)))
    subst hW;rw [drew2];clear s1 s2 s3 s4 s5 s6 s7 c0' c1';by_cases hab:a<b
    · have d:decide (a<b)=true:=decide_eq_true hab
      have hrr:r=false:=by
       rw [← HR.out,← Bool.not_eq_true,srt_iff];intro hh;have:=hh j b a HB.out HA.out;omega
      subst hrr;go_wp2
      go_ret
      exact ⟨rfl,q+nq,rfl⟩
    · have d:decide (a<b)=false:=decide_eq_false hab
      have hnx:∀ (i:Nat) (a b:Int),l.length - (k+1)≤i+1→l[i]? = some a→l[i+1]? = some b→a≤b:=fun i a' b' h1 h2 h3=>by
       rcases Nat.lt_or_ge (i+1) (l.length - k) with h4 | h4
       · have:i=j:=by omega
         subst this;rw [HB.out] at h2;rw [HA.out] at h3;injection h2 with h2;injection h3 with h3;omega
       · exact HS.out i a' b' h4 h2 h3
      have HNX:=hd_ hnx;have hba:b≤a:=by omega
      clear hnx hab;go_wp2
      exact ⟨⟨k+1,(j:Int),by omega,by omega,rfl,HNX,q+nq,rfl⟩,by simp [intOf]⟩
  · have hrr:r=true:=by
     rw [← HR.out,srt_iff];intro i a b h2 h3;have:=(List.getElem?_eq_some_iff.1 h3).1;exact HS.out i a b (by omega) h2 h3
    subst hrr;go_wp2
    go_ret
    exact ⟨rfl,q,rfl⟩
end Go.Proofs.YtknchlpcpgflkaaGreatDoor
